/-
  DERIVED. GIVEN WITH THE SEED: THE CARDS: each row of YthleccpdflggjaaDoorRows.lean that lists a variable, with what it lists TIED to the program's text (the seventh form; the later family's looks); each row that meets fmt, with fmt's text TOLD by the authors' own Lean function (tested against real Go, not proved from fmt's source: count such statements apart). THE CARD IS WHAT COUNTS. Prove the row's statement (the work); the ties are given (YthleccpdflggjaaDoorTie.lean); close each card by the builder's one call (the guide's Derived/Test/ToyasCard.lean, 'card_holds'). Laid BY PROGRAM, IN A SANDBOX (cutbox-door.mjs). By AI agents, Wed Nov 11 2026. No macro, syntax, notation, axiom, sorry.
-/
import Derived.Test.YthleccpdflggjaaDoorRows
import GoSem.ClaimSeven
namespace Go.Proofs.YthleccpdflggjaaDoor
namespace Rows

/-- THE TIED CARD OF 'brambleweirlaw4.GraySays'. -/
def graySaysCard : Claim7 := { stood := { row := graySaysRow, standIns := [], harness := (true, "3d4e3202f68e2bb8d2a6d1668706ac9b0c6bd678a70bcc1bedb01abcc27982b9"), looks := true }, kinds := [], alts := [], laidByText := true, laidKinds := [.handle], laidTests := true, laidLooks := .later }
def GraySaysCardSaid : Prop := Claim7.holds Tryd.pinned (.plain (OpenSpec.ofChange graySaysSpec)) graySaysCard

/-- THE SECOND FORM's CARD OF 'brambleweirlaw4.GraySays'. -/
def graySaysUptoCard : Claim7 := { stood := { row := graySaysUptoRow, standIns := [], harness := (true, "3d4e3202f68e2bb8d2a6d1668706ac9b0c6bd678a70bcc1bedb01abcc27982b9"), looks := true }, kinds := [], alts := [], laidByText := true, laidKinds := [.handle], laidTests := true, laidLooks := .later }
def GraySaysUptoCardSaid : Prop := Claim7.holds Tryd.pinned (.plain (OpenSpec.upto graySaysSpec)) graySaysUptoCard
end Rows
end Go.Proofs.YthleccpdflggjaaDoor
