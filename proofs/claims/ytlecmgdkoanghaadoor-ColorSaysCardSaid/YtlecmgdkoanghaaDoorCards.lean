/-
  DERIVED. GIVEN WITH THE SEED: THE CARDS: each row of YtlecmgdkoanghaaDoorRows.lean that lists a variable, with what it lists TIED to the program's text (the seventh form; the later family's looks); each row that meets fmt, with fmt's text TOLD by the authors' own Lean function (tested against real Go, not proved from fmt's source: count such statements apart). THE CARD IS WHAT COUNTS. Prove the row's statement (the work); the ties are given (YtlecmgdkoanghaaDoorTie.lean); close each card by the builder's one call (the guide's Derived/Test/ToyasCard.lean, 'card_holds'). Laid BY PROGRAM, IN A SANDBOX (cutbox-door.mjs). By AI agents, Wed Nov 11 2026. No macro, syntax, notation, axiom, sorry.
-/
import Derived.Test.YtlecmgdkoanghaaDoorRows
import GoSem.ClaimSeven
namespace Go.Proofs.YtlecmgdkoanghaaDoor
namespace Rows

/-- THE TIED CARD OF 'brambleweirlaw3.ColorSays'. -/
def colorSaysCard : Claim7 := { stood := { row := colorSaysRow, standIns := [], harness := (true, "3e7bb55ca61fd1a8cadfbc835bcb633c17a7fd6eab136d832223e0a2d9fbd042"), looks := true }, kinds := [], alts := [], laidByText := true, laidKinds := [.handle], laidTests := true, laidLooks := .later }
def ColorSaysCardSaid : Prop := Claim7.holds Tryd.pinned (.plain (OpenSpec.ofChange colorSaysSpec)) colorSaysCard

/-- THE SECOND FORM's CARD OF 'brambleweirlaw3.ColorSays'. -/
def colorSaysUptoCard : Claim7 := { stood := { row := colorSaysUptoRow, standIns := [], harness := (true, "3e7bb55ca61fd1a8cadfbc835bcb633c17a7fd6eab136d832223e0a2d9fbd042"), looks := true }, kinds := [], alts := [], laidByText := true, laidKinds := [.handle], laidTests := true, laidLooks := .later }
def ColorSaysUptoCardSaid : Prop := Claim7.holds Tryd.pinned (.plain (OpenSpec.upto colorSaysSpec)) colorSaysUptoCard
end Rows
end Go.Proofs.YtlecmgdkoanghaaDoor
