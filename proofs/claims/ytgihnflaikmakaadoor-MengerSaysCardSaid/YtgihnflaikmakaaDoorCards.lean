/-
  DERIVED. GIVEN WITH THE SEED: THE CARDS: each row of YtgihnflaikmakaaDoorRows.lean that lists a variable, with what it lists TIED to the program's text (the seventh form; the later family's looks); each row that meets fmt, with fmt's text TOLD by the authors' own Lean function (tested against real Go, not proved from fmt's source: count such statements apart). THE CARD IS WHAT COUNTS. Prove the row's statement (the work); the ties are given (YtgihnflaikmakaaDoorTie.lean); close each card by the builder's one call (the guide's Derived/Test/ToyasCard.lean, 'card_holds'). Laid BY PROGRAM, IN A SANDBOX (cutbox-door.mjs). By AI agents, Wed Nov 11 2026. No macro, syntax, notation, axiom, sorry.
-/
import Derived.Test.YtgihnflaikmakaaDoorRows
import GoSem.ClaimSeven
namespace Go.Proofs.YtgihnflaikmakaaDoor
namespace Rows

/-- THE TIED CARD OF 'brambleweirlaw3.MengerSays'. -/
def mengerSaysCard : Claim7 := { stood := { row := mengerSaysRow, standIns := [], harness := (true, "14adcc228554c5cd280ec1b582a4b20d27ed29c59869cac94927b5cb49682723"), looks := true }, kinds := [], alts := [], laidByText := true, laidKinds := [.handle], laidTests := true, laidLooks := .later }
def MengerSaysCardSaid : Prop := Claim7.holds Tryd.pinned (.plain (OpenSpec.ofChange mengerSaysSpec)) mengerSaysCard

/-- THE SECOND FORM's CARD OF 'brambleweirlaw3.MengerSays'. -/
def mengerSaysUptoCard : Claim7 := { stood := { row := mengerSaysUptoRow, standIns := [], harness := (true, "14adcc228554c5cd280ec1b582a4b20d27ed29c59869cac94927b5cb49682723"), looks := true }, kinds := [], alts := [], laidByText := true, laidKinds := [.handle], laidTests := true, laidLooks := .later }
def MengerSaysUptoCardSaid : Prop := Claim7.holds Tryd.pinned (.plain (OpenSpec.upto mengerSaysSpec)) mengerSaysUptoCard
end Rows
end Go.Proofs.YtgihnflaikmakaaDoor
