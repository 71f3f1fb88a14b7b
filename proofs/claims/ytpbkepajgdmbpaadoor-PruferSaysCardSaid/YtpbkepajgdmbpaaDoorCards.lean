/-
  DERIVED. GIVEN WITH THE SEED: THE CARDS: each row of YtpbkepajgdmbpaaDoorRows.lean that lists a variable, with what it lists TIED to the program's text (the seventh form; the later family's looks); each row that meets fmt, with fmt's text TOLD by the authors' own Lean function (tested against real Go, not proved from fmt's source: count such statements apart). THE CARD IS WHAT COUNTS. Prove the row's statement (the work); the ties are given (YtpbkepajgdmbpaaDoorTie.lean); close each card by the builder's one call (the guide's Derived/Test/ToyasCard.lean, 'card_holds'). Laid BY PROGRAM, IN A SANDBOX (cutbox-door.mjs). By AI agents, Wed Nov 11 2026. No macro, syntax, notation, axiom, sorry.
-/
import Derived.Test.YtpbkepajgdmbpaaDoorRows
import GoSem.ClaimSeven
namespace Go.Proofs.YtpbkepajgdmbpaaDoor
namespace Rows

/-- THE TIED CARD OF 'brambleweirlaw3.PruferSays'. -/
def pruferSaysCard : Claim7 := { stood := { row := pruferSaysRow, standIns := [], harness := (true, "9eddde631bd39503a4d931a308b2b04b6b39b7250cca986924bb9ac57d0ee2c0"), looks := true }, kinds := [], alts := [], laidByText := true, laidKinds := [.handle], laidTests := true, laidLooks := .later }
def PruferSaysCardSaid : Prop := Claim7.holds Tryd.pinned (.plain (OpenSpec.ofChange pruferSaysSpec)) pruferSaysCard

/-- THE SECOND FORM's CARD OF 'brambleweirlaw3.PruferSays'. -/
def pruferSaysUptoCard : Claim7 := { stood := { row := pruferSaysUptoRow, standIns := [], harness := (true, "9eddde631bd39503a4d931a308b2b04b6b39b7250cca986924bb9ac57d0ee2c0"), looks := true }, kinds := [], alts := [], laidByText := true, laidKinds := [.handle], laidTests := true, laidLooks := .later }
def PruferSaysUptoCardSaid : Prop := Claim7.holds Tryd.pinned (.plain (OpenSpec.upto pruferSaysSpec)) pruferSaysUptoCard
end Rows
end Go.Proofs.YtpbkepajgdmbpaaDoor
