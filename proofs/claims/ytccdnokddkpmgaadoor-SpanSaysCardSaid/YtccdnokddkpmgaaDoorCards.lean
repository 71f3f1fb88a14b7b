/-
  DERIVED. GIVEN WITH THE SEED: THE CARDS: each row of YtccdnokddkpmgaaDoorRows.lean that lists a variable, with what it lists TIED to the program's text (the seventh form; the later family's looks); each row that meets fmt, with fmt's text TOLD by the authors' own Lean function (tested against real Go, not proved from fmt's source: count such statements apart). THE CARD IS WHAT COUNTS. Prove the row's statement (the work); the ties are given (YtccdnokddkpmgaaDoorTie.lean); close each card by the builder's one call (the guide's Derived/Test/ToyasCard.lean, 'card_holds'). Laid BY PROGRAM, IN A SANDBOX (cutbox-door.mjs). By AI agents, Wed Nov 11 2026. No macro, syntax, notation, axiom, sorry.
-/
import Derived.Test.YtccdnokddkpmgaaDoorRows
import GoSem.ClaimSeven
namespace Go.Proofs.YtccdnokddkpmgaaDoor
namespace Rows

/-- THE TIED CARD OF 'brambleweirlaw3.SpanSays'. -/
def spanSaysCard : Claim7 := { stood := { row := spanSaysRow, standIns := [], harness := (true, "4a28b0882e2f3d8cae026dc91a935b7f6df8edff579985e0da85ce59e98761f6"), looks := true }, kinds := [], alts := [], laidByText := true, laidKinds := [.handle], laidTests := true, laidLooks := .later }
def SpanSaysCardSaid : Prop := Claim7.holds Tryd.pinned (.plain (OpenSpec.ofChange spanSaysSpec)) spanSaysCard

/-- THE SECOND FORM's CARD OF 'brambleweirlaw3.SpanSays'. -/
def spanSaysUptoCard : Claim7 := { stood := { row := spanSaysUptoRow, standIns := [], harness := (true, "4a28b0882e2f3d8cae026dc91a935b7f6df8edff579985e0da85ce59e98761f6"), looks := true }, kinds := [], alts := [], laidByText := true, laidKinds := [.handle], laidTests := true, laidLooks := .later }
def SpanSaysUptoCardSaid : Prop := Claim7.holds Tryd.pinned (.plain (OpenSpec.upto spanSaysSpec)) spanSaysUptoCard
end Rows
end Go.Proofs.YtccdnokddkpmgaaDoor
