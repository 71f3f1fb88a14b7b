/-
  DERIVED. GIVEN WITH THE SEED: THE CARDS: each row of YthgejnjfikljcaaDoorRows.lean that lists a variable, with what it lists TIED to the program's text (the seventh form; the later family's looks); each row that meets fmt, with fmt's text TOLD by the authors' own Lean function (tested against real Go, not proved from fmt's source: count such statements apart). THE CARD IS WHAT COUNTS. Prove the row's statement (the work); the ties are given (YthgejnjfikljcaaDoorTie.lean); close each card by the builder's one call (the guide's Derived/Test/ToyasCard.lean, 'card_holds'). Laid BY PROGRAM, IN A SANDBOX (cutbox-door.mjs). By AI agents, Wed Nov 11 2026. No macro, syntax, notation, axiom, sorry.
-/
import Derived.Test.YthgejnjfikljcaaDoorRows
import GoSem.ClaimSeven
namespace Go.Proofs.YthgejnjfikljcaaDoor
namespace Rows

/-- THE TIED CARD OF 'brambleweirlaw3.MeanSays'. -/
def meanSaysCard : Claim7 := { stood := { row := meanSaysRow, standIns := [], harness := (true, "c65e144ba81a66c5a4a96b2009fb36ee89d65588a21de231a97bd259328ab1bb"), looks := true }, kinds := [], alts := [], laidByText := true, laidKinds := [.handle], laidTests := true, laidLooks := .later }
def MeanSaysCardSaid : Prop := Claim7.holds Tryd.pinned (.plain (OpenSpec.ofChange meanSaysSpec)) meanSaysCard

/-- THE SECOND FORM's CARD OF 'brambleweirlaw3.MeanSays'. -/
def meanSaysUptoCard : Claim7 := { stood := { row := meanSaysUptoRow, standIns := [], harness := (true, "c65e144ba81a66c5a4a96b2009fb36ee89d65588a21de231a97bd259328ab1bb"), looks := true }, kinds := [], alts := [], laidByText := true, laidKinds := [.handle], laidTests := true, laidLooks := .later }
def MeanSaysUptoCardSaid : Prop := Claim7.holds Tryd.pinned (.plain (OpenSpec.upto meanSaysSpec)) meanSaysUptoCard
end Rows
end Go.Proofs.YthgejnjfikljcaaDoor
