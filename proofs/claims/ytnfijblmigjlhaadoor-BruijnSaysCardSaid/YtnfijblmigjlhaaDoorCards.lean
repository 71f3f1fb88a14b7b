/-
  DERIVED. GIVEN WITH THE SEED: THE CARDS: each row of YtnfijblmigjlhaaDoorRows.lean that lists a variable, with what it lists TIED to the program's text (the seventh form; the later family's looks); each row that meets fmt, with fmt's text TOLD by the authors' own Lean function (tested against real Go, not proved from fmt's source: count such statements apart). THE CARD IS WHAT COUNTS. Prove the row's statement (the work); the ties are given (YtnfijblmigjlhaaDoorTie.lean); close each card by the builder's one call (the guide's Derived/Test/ToyasCard.lean, 'card_holds'). Laid BY PROGRAM, IN A SANDBOX (cutbox-door.mjs). By AI agents, Wed Nov 11 2026. No macro, syntax, notation, axiom, sorry.
-/
import Derived.Test.YtnfijblmigjlhaaDoorRows
import GoSem.ClaimSeven
namespace Go.Proofs.YtnfijblmigjlhaaDoor
namespace Rows

/-- THE TIED CARD OF 'brambleweirlaw4.BruijnSays'. -/
def bruijnSaysCard : Claim7 := { stood := { row := bruijnSaysRow, standIns := [], harness := (true, "c387ceef0ea3ecea31d3989b71a322bceab31792713bc94a185cabdc380fd933"), looks := true }, kinds := [], alts := [], laidByText := true, laidKinds := [.handle], laidTests := true, laidLooks := .later }
def BruijnSaysCardSaid : Prop := Claim7.holds Tryd.pinned (.plain (OpenSpec.ofChange bruijnSaysSpec)) bruijnSaysCard

/-- THE SECOND FORM's CARD OF 'brambleweirlaw4.BruijnSays'. -/
def bruijnSaysUptoCard : Claim7 := { stood := { row := bruijnSaysUptoRow, standIns := [], harness := (true, "c387ceef0ea3ecea31d3989b71a322bceab31792713bc94a185cabdc380fd933"), looks := true }, kinds := [], alts := [], laidByText := true, laidKinds := [.handle], laidTests := true, laidLooks := .later }
def BruijnSaysUptoCardSaid : Prop := Claim7.holds Tryd.pinned (.plain (OpenSpec.upto bruijnSaysSpec)) bruijnSaysUptoCard
end Rows
end Go.Proofs.YtnfijblmigjlhaaDoor
