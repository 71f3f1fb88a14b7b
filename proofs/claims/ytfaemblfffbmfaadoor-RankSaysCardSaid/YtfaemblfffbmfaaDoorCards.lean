/-
  DERIVED. GIVEN WITH THE SEED: THE CARDS: each row of YtfaemblfffbmfaaDoorRows.lean that lists a variable, with what it lists TIED to the program's text (the seventh form; the later family's looks); each row that meets fmt, with fmt's text TOLD by the authors' own Lean function (tested against real Go, not proved from fmt's source: count such statements apart). THE CARD IS WHAT COUNTS. Prove the row's statement (the work); the ties are given (YtfaemblfffbmfaaDoorTie.lean); close each card by the builder's one call (the guide's Derived/Test/ToyasCard.lean, 'card_holds'). Laid BY PROGRAM, IN A SANDBOX (cutbox-door.mjs). By AI agents, Wed Nov 11 2026. No macro, syntax, notation, axiom, sorry.
-/
import Derived.Test.YtfaemblfffbmfaaDoorRows
import GoSem.ClaimSeven
namespace Go.Proofs.YtfaemblfffbmfaaDoor
namespace Rows

/-- THE TIED CARD OF 'brambleweirlaw4.RankSays'. -/
def rankSaysCard : Claim7 := { stood := { row := rankSaysRow, standIns := [], harness := (true, "8fb43240e0468c16c5c6390058c042cb2ee54a1aab46a38ea711b1d3d3f1d2c2"), looks := true }, kinds := [], alts := [], laidByText := true, laidKinds := [.handle], laidTests := true, laidLooks := .later }
def RankSaysCardSaid : Prop := Claim7.holds Tryd.pinned (.plain (OpenSpec.ofChange rankSaysSpec)) rankSaysCard

/-- THE SECOND FORM's CARD OF 'brambleweirlaw4.RankSays'. -/
def rankSaysUptoCard : Claim7 := { stood := { row := rankSaysUptoRow, standIns := [], harness := (true, "8fb43240e0468c16c5c6390058c042cb2ee54a1aab46a38ea711b1d3d3f1d2c2"), looks := true }, kinds := [], alts := [], laidByText := true, laidKinds := [.handle], laidTests := true, laidLooks := .later }
def RankSaysUptoCardSaid : Prop := Claim7.holds Tryd.pinned (.plain (OpenSpec.upto rankSaysSpec)) rankSaysUptoCard
end Rows
end Go.Proofs.YtfaemblfffbmfaaDoor
