/-
  No cell of these rows narrows 'for every input' (looked for: loops, veiled, ifaces, maps, wideKeys, modest, calm, conditions, laid).
  DERIVED. THE GIVEN ROWS OF THIS SEAT. 3 by the template 'for every input the law returns true; each argument reads behind the call as it read before'; 0 by the template 'total and deterministic' (their statements: YtfaemblfffbmfaaTotals.lean).
  GIVEN WITH THE SEED: the statements are not yours to turn. If you find one false, say at which input.
  Laid BY PROGRAM, IN A SANDBOX (cutbox-rows.mjs): the forced cells as the released guide's own fill.sh prints them over the translation 6513e3cc40bdb21d… (all of the seat's roots in one cut). By AI agents, Wed Nov 11 2026. No macro, syntax, notation, axiom, sorry.
-/
import Derived.Test.YtfaemblfffbmfaaChecked
import GoSem.Claim
import GoSem.ClaimJoined
import GoSem.ClaimMapViews
import Derived.JoinedTies
import Derived.KernelRfl
namespace Go.Proofs.Ytfaemblfffbmfaa
/- THE CELL 'sum', in the pinned program and in every row, IS THE sha256 OF THE DUMP (.gsa) THAT YtfaemblfffbmfaaProg.lean LOADS. Nothing in Lean hashes anything: it is a label: what it is worth is what the hold of that sum in a sandbox is worth. -/
noncomputable def Try.pinned : Pinned := { name := "ytfaemblfffbmfaa", sum := "6513e3cc40bdb21d2e65c94ef223d57855b7ed3b398e7f30cfbd309ef277487a", checked := Try.checked }
namespace Rows
def none {H : Type} : Left H := { results := [], args := [] }

/-- 'brambleweirlaw4.RankRado': WHATEVER THE INPUT: true; the input reads as it did. -/
def rankRadoSpec : ChangeSpec := { name := "rankRado", fn := fun _ => fun
  | [d1, d2, d3] => { results := [.lit (.bool true)], args := [d1, d2, d3] }
  | _ => none }
def rankRadoRow : OpenClaim := { program := "ytfaemblfffbmfaa", sum := "6513e3cc40bdb21d2e65c94ef223d57855b7ed3b398e7f30cfbd309ef277487a", func := "brambleweir/brambleweirlaw4.RankRado", spec := "rankRado", unfollowed := true, recurses := true, apart := false }
def RankRadoSaid : Prop := rankRadoRow.holds Try.pinned (OpenSpec.ofChange rankRadoSpec)

/-- ITS FALSE NEIGHBOUR: 'it returns false'. Refute it at one input. -/
def rankRadoWrong : ChangeSpec := { name := "rankRado", fn := fun _ => fun
  | [d1, d2, d3] => { results := [.lit (.bool false)], args := [d1, d2, d3] }
  | _ => none }
def RankRadoWrongFalsely : Prop := rankRadoRow.holds Try.pinned (OpenSpec.ofChange rankRadoWrong)

/-- 'brambleweirlaw4.RankWorse': WHATEVER THE INPUT: true; the input reads as it did. -/
def rankWorseSpec : ChangeSpec := { name := "rankWorse", fn := fun _ => fun
  | [d1, d2] => { results := [.lit (.bool true)], args := [d1, d2] }
  | _ => none }
def rankWorseRow : OpenClaim := { program := "ytfaemblfffbmfaa", sum := "6513e3cc40bdb21d2e65c94ef223d57855b7ed3b398e7f30cfbd309ef277487a", func := "brambleweir/brambleweirlaw4.RankWorse", spec := "rankWorse", unfollowed := true, recurses := true, apart := false }
def RankWorseSaid : Prop := rankWorseRow.holds Try.pinned (OpenSpec.ofChange rankWorseSpec)

/-- ITS FALSE NEIGHBOUR: 'it returns false'. Refute it at one input. -/
def rankWorseWrong : ChangeSpec := { name := "rankWorse", fn := fun _ => fun
  | [d1, d2] => { results := [.lit (.bool false)], args := [d1, d2] }
  | _ => none }
def RankWorseWrongFalsely : Prop := rankWorseRow.holds Try.pinned (OpenSpec.ofChange rankWorseWrong)

/-- 'brambleweirlaw4.RankTake': WHATEVER THE INPUT: true; the input reads as it did. -/
def rankTakeSpec : ChangeSpec := { name := "rankTake", fn := fun _ => fun
  | [d1, d2, d3] => { results := [.lit (.bool true)], args := [d1, d2, d3] }
  | _ => none }
def rankTakeRow : OpenClaim := { program := "ytfaemblfffbmfaa", sum := "6513e3cc40bdb21d2e65c94ef223d57855b7ed3b398e7f30cfbd309ef277487a", func := "brambleweir/brambleweirlaw4.RankTake", spec := "rankTake", unfollowed := true, recurses := true, apart := false }
def RankTakeSaid : Prop := rankTakeRow.holds Try.pinned (OpenSpec.ofChange rankTakeSpec)

/-- ITS FALSE NEIGHBOUR: 'it returns false'. Refute it at one input. -/
def rankTakeWrong : ChangeSpec := { name := "rankTake", fn := fun _ => fun
  | [d1, d2, d3] => { results := [.lit (.bool false)], args := [d1, d2, d3] }
  | _ => none }
def RankTakeWrongFalsely : Prop := rankTakeRow.holds Try.pinned (OpenSpec.ofChange rankTakeWrong)

/- THE SECOND FORM. 'bulk': how many values and letters a reading holds, each counted each time it is reached (what is shared counts as often as it is met; a slice's spare places count too). A statement '..UptoSaid' is the law's where the arguments, and the package variables that the reading takes, are together of bulk at most 1048576: NARROWER than '..Said'. Prove '..Said' where nothing that the law and all that it calls make is longer than what came in: it says more and counts as full. Else prove '..UptoSaid'. A law counts once. -/
mutual
def uptoBulk {H : Type} : DataW H → Nat
  | .lit (.string bytes) => bytes.length + 1
  | .lit _ => 1
  | .nil => 1
  | .ptr d => uptoBulk d + 1
  | .slice elems spare => uptoBulkAll elems + uptoBulkAll spare + 1
  | .agg parts => uptoBulkAll parts + 1
  | .iface _ d => uptoBulk d + 1
  | .map entries => uptoBulkEntries entries + 1
  | .held _ => 1
def uptoBulkAll {H : Type} : List (DataW H) → Nat
  | [] => 0
  | d :: r => uptoBulk d + uptoBulkAll r
def uptoBulkEntries {H : Type} : List (Lit × DataW H) → Nat
  | [] => 0
  | x :: r => uptoBulkEntry x + uptoBulkEntries r
def uptoBulkEntry {H : Type} : Lit × DataW H → Nat
  | (.string bytes, d) => bytes.length + uptoBulk d + 1
  | (_, d) => uptoBulk d + 1
 end
def uptoSmall : (H : Type) → List (DataW H) → Bool := fun _ ds => decide (uptoBulkAll ds ≤ 1048576)
def OpenSpec.upto (s : _root_.Go.ChangeSpec) : _root_.Go.OpenSpec := { _root_.Go.OpenSpec.ofChange s with cond := some uptoSmall }

/-- 'brambleweirlaw4.RankRado', WHERE WHAT IT READS IS OF BULK AT MOST 1048576: true; the input reads as it did. -/
def rankRadoUptoRow : OpenClaim := { program := "ytfaemblfffbmfaa", sum := "6513e3cc40bdb21d2e65c94ef223d57855b7ed3b398e7f30cfbd309ef277487a", func := "brambleweir/brambleweirlaw4.RankRado", spec := "rankRado", unfollowed := true, recurses := true, apart := false, narrowed := true }
def RankRadoUptoSaid : Prop := rankRadoUptoRow.holds Try.pinned (OpenSpec.upto rankRadoSpec)

/-- 'brambleweirlaw4.RankWorse', WHERE WHAT IT READS IS OF BULK AT MOST 1048576: true; the input reads as it did. -/
def rankWorseUptoRow : OpenClaim := { program := "ytfaemblfffbmfaa", sum := "6513e3cc40bdb21d2e65c94ef223d57855b7ed3b398e7f30cfbd309ef277487a", func := "brambleweir/brambleweirlaw4.RankWorse", spec := "rankWorse", unfollowed := true, recurses := true, apart := false, narrowed := true }
def RankWorseUptoSaid : Prop := rankWorseUptoRow.holds Try.pinned (OpenSpec.upto rankWorseSpec)

/-- 'brambleweirlaw4.RankTake', WHERE WHAT IT READS IS OF BULK AT MOST 1048576: true; the input reads as it did. -/
def rankTakeUptoRow : OpenClaim := { program := "ytfaemblfffbmfaa", sum := "6513e3cc40bdb21d2e65c94ef223d57855b7ed3b398e7f30cfbd309ef277487a", func := "brambleweir/brambleweirlaw4.RankTake", spec := "rankTake", unfollowed := true, recurses := true, apart := false, narrowed := true }
def RankTakeUptoSaid : Prop := rankTakeUptoRow.holds Try.pinned (OpenSpec.upto rankTakeSpec)

end Rows
end Go.Proofs.Ytfaemblfffbmfaa
