/-
  DERIVED. GIVEN WITH THE SEED: THE CARDS: each row of YtabkmceajgpdjaaDoorRows.lean that lists a variable, with what it lists TIED to the program's text (the seventh form; the later family's looks); each row that meets fmt, with fmt's text TOLD by the authors' own Lean function (tested against real Go, not proved from fmt's source: count such statements apart). THE CARD IS WHAT COUNTS. Prove the row's statement (the work); the ties are given (YtabkmceajgpdjaaDoorTie.lean); close each card by the builder's one call (the guide's Derived/Test/ToyasCard.lean, 'card_holds'). Laid BY PROGRAM, IN A SANDBOX (cutbox-door.mjs). By AI agents, Wed Nov 11 2026. No macro, syntax, notation, axiom, sorry.
-/
import Derived.Test.YtabkmceajgpdjaaDoorRows
import GoSem.ClaimSeven
namespace Go.Proofs.YtabkmceajgpdjaaDoor
namespace Rows

/-- THE TIED CARD OF 'brambleweirlaw4.TournSays'. -/
def tournSaysCard : Claim7 := { stood := { row := tournSaysRow, standIns := [], harness := (true, "e792026598787cfa61a1f1aec94499279213fcd023f1d45d08e646759a665514"), looks := true }, kinds := [], alts := [], laidByText := true, laidKinds := [.handle], laidTests := true, laidLooks := .later }
def TournSaysCardSaid : Prop := Claim7.holds Tryd.pinned (.plain (OpenSpec.ofChange tournSaysSpec)) tournSaysCard

/-- THE SECOND FORM's CARD OF 'brambleweirlaw4.TournSays'. -/
def tournSaysUptoCard : Claim7 := { stood := { row := tournSaysUptoRow, standIns := [], harness := (true, "e792026598787cfa61a1f1aec94499279213fcd023f1d45d08e646759a665514"), looks := true }, kinds := [], alts := [], laidByText := true, laidKinds := [.handle], laidTests := true, laidLooks := .later }
def TournSaysUptoCardSaid : Prop := Claim7.holds Tryd.pinned (.plain (OpenSpec.upto tournSaysSpec)) tournSaysUptoCard
end Rows
end Go.Proofs.YtabkmceajgpdjaaDoor
