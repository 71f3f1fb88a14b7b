/-
  DERIVED. GIVEN WITH THE SEED: THE CARDS: each row of YtfokhmkimckdnaaDoorRows.lean that lists a variable, with what it lists TIED to the program's text (the seventh form; the later family's looks); each row that meets fmt, with fmt's text TOLD by the authors' own Lean function (tested against real Go, not proved from fmt's source: count such statements apart). THE CARD IS WHAT COUNTS. Prove the row's statement (the work); the ties are given (YtfokhmkimckdnaaDoorTie.lean); close each card by the builder's one call (the guide's Derived/Test/ToyasCard.lean, 'card_holds'). Laid BY PROGRAM, IN A SANDBOX (cutbox-door.mjs). By AI agents, Wed Nov 11 2026. No macro, syntax, notation, axiom, sorry.
-/
import Derived.Test.YtfokhmkimckdnaaDoorRows
import GoSem.ClaimSeven
namespace Go.Proofs.YtfokhmkimckdnaaDoor
namespace Rows

/-- THE TIED CARD OF 'brambleweirlaw3.CommonSays'. -/
def commonSaysCard : Claim7 := { stood := { row := commonSaysRow, standIns := [], harness := (true, "d38dc673e537bac40098a89fa394267ab61496520692e1846f8964c083335711"), looks := true }, kinds := [], alts := [], laidByText := true, laidKinds := [.handle], laidTests := true, laidLooks := .later }
def CommonSaysCardSaid : Prop := Claim7.holds Tryd.pinned (.plain (OpenSpec.ofChange commonSaysSpec)) commonSaysCard

/-- THE SECOND FORM's CARD OF 'brambleweirlaw3.CommonSays'. -/
def commonSaysUptoCard : Claim7 := { stood := { row := commonSaysUptoRow, standIns := [], harness := (true, "d38dc673e537bac40098a89fa394267ab61496520692e1846f8964c083335711"), looks := true }, kinds := [], alts := [], laidByText := true, laidKinds := [.handle], laidTests := true, laidLooks := .later }
def CommonSaysUptoCardSaid : Prop := Claim7.holds Tryd.pinned (.plain (OpenSpec.upto commonSaysSpec)) commonSaysUptoCard
end Rows
end Go.Proofs.YtfokhmkimckdnaaDoor
