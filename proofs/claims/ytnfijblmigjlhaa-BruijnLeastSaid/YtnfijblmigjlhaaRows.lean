/-
  No cell of these rows narrows 'for every input' (looked for: loops, veiled, ifaces, maps, wideKeys, modest, calm, conditions, laid).
  DERIVED. THE GIVEN ROWS OF THIS SEAT. 3 by the template 'for every input the law returns true; each argument reads behind the call as it read before'; 0 by the template 'total and deterministic' (their statements: YtnfijblmigjlhaaTotals.lean).
  GIVEN WITH THE SEED: the statements are not yours to turn. If you find one false, say at which input.
  Laid BY PROGRAM, IN A SANDBOX (cutbox-rows.mjs): the forced cells as the released guide's own fill.sh prints them over the translation 0cfe670321e1b718… (all of the seat's roots in one cut). By AI agents, Wed Nov 11 2026. No macro, syntax, notation, axiom, sorry.
-/
import Derived.Test.YtnfijblmigjlhaaChecked
import GoSem.Claim
import GoSem.ClaimJoined
import GoSem.ClaimMapViews
import Derived.JoinedTies
import Derived.KernelRfl
namespace Go.Proofs.Ytnfijblmigjlhaa
/- THE CELL 'sum', in the pinned program and in every row, IS THE sha256 OF THE DUMP (.gsa) THAT YtnfijblmigjlhaaProg.lean LOADS. Nothing in Lean hashes anything: it is a label: what it is worth is what the hold of that sum in a sandbox is worth. -/
noncomputable def Try.pinned : Pinned := { name := "ytnfijblmigjlhaa", sum := "0cfe670321e1b7184f811802c8c3d57846ee41f17a7bb6f3b7737d4cb6e2b8eb", checked := Try.checked }
namespace Rows
def none {H : Type} : Left H := { results := [], args := [] }

/-- 'brambleweirlaw4.BruijnOnce': WHATEVER THE INPUT: true; the input reads as it did. -/
def bruijnOnceSpec : ChangeSpec := { name := "bruijnOnce", fn := fun _ => fun
  | [d1, d2, d3, d4] => { results := [.lit (.bool true)], args := [d1, d2, d3, d4] }
  | _ => none }
def bruijnOnceRow : OpenClaim := { program := "ytnfijblmigjlhaa", sum := "0cfe670321e1b7184f811802c8c3d57846ee41f17a7bb6f3b7737d4cb6e2b8eb", func := "brambleweir/brambleweirlaw4.BruijnOnce", spec := "bruijnOnce", unfollowed := true, recurses := true, apart := false }
def BruijnOnceSaid : Prop := bruijnOnceRow.holds Try.pinned (OpenSpec.ofChange bruijnOnceSpec)

/-- ITS FALSE NEIGHBOUR: 'it returns false'. Refute it at one input. -/
def bruijnOnceWrong : ChangeSpec := { name := "bruijnOnce", fn := fun _ => fun
  | [d1, d2, d3, d4] => { results := [.lit (.bool false)], args := [d1, d2, d3, d4] }
  | _ => none }
def BruijnOnceWrongFalsely : Prop := bruijnOnceRow.holds Try.pinned (OpenSpec.ofChange bruijnOnceWrong)

/-- 'brambleweirlaw4.BruijnFind': WHATEVER THE INPUT: true; the input reads as it did. -/
def bruijnFindSpec : ChangeSpec := { name := "bruijnFind", fn := fun _ => fun
  | [d1, d2] => { results := [.lit (.bool true)], args := [d1, d2] }
  | _ => none }
def bruijnFindRow : OpenClaim := { program := "ytnfijblmigjlhaa", sum := "0cfe670321e1b7184f811802c8c3d57846ee41f17a7bb6f3b7737d4cb6e2b8eb", func := "brambleweir/brambleweirlaw4.BruijnFind", spec := "bruijnFind", unfollowed := true, recurses := true, apart := false }
def BruijnFindSaid : Prop := bruijnFindRow.holds Try.pinned (OpenSpec.ofChange bruijnFindSpec)

/-- ITS FALSE NEIGHBOUR: 'it returns false'. Refute it at one input. -/
def bruijnFindWrong : ChangeSpec := { name := "bruijnFind", fn := fun _ => fun
  | [d1, d2] => { results := [.lit (.bool false)], args := [d1, d2] }
  | _ => none }
def BruijnFindWrongFalsely : Prop := bruijnFindRow.holds Try.pinned (OpenSpec.ofChange bruijnFindWrong)

/-- 'brambleweirlaw4.BruijnLeast': WHATEVER THE INPUT: true; the input reads as it did. -/
def bruijnLeastSpec : ChangeSpec := { name := "bruijnLeast", fn := fun _ => fun
  | [d1, d2] => { results := [.lit (.bool true)], args := [d1, d2] }
  | _ => none }
def bruijnLeastRow : OpenClaim := { program := "ytnfijblmigjlhaa", sum := "0cfe670321e1b7184f811802c8c3d57846ee41f17a7bb6f3b7737d4cb6e2b8eb", func := "brambleweir/brambleweirlaw4.BruijnLeast", spec := "bruijnLeast", unfollowed := true, recurses := true, apart := false }
def BruijnLeastSaid : Prop := bruijnLeastRow.holds Try.pinned (OpenSpec.ofChange bruijnLeastSpec)

/-- ITS FALSE NEIGHBOUR: 'it returns false'. Refute it at one input. -/
def bruijnLeastWrong : ChangeSpec := { name := "bruijnLeast", fn := fun _ => fun
  | [d1, d2] => { results := [.lit (.bool false)], args := [d1, d2] }
  | _ => none }
def BruijnLeastWrongFalsely : Prop := bruijnLeastRow.holds Try.pinned (OpenSpec.ofChange bruijnLeastWrong)

/- THE SECOND FORM. 'bulk': how many values and letters a reading holds, each counted each time it is reached (what is shared counts as often as it is met; a slice's spare places count too). A statement '..UptoSaid' is the law's where the arguments, and the package variables that the reading takes, are together of bulk at most 1048576: NARROWER than '..Said'. Prove '..Said' where nothing that the law and all that it calls make is longer than what came in: it says more and counts as full. Else prove '..UptoSaid'. A law counts once. -/
mutual
def uptoBulk {H : Type} : DataW H → Nat
  | .lit (.string bytes) => bytes.length + 1
  | .lit _ => 1
  | .nil => 1
  | .ptr d => uptoBulk d + 1
  | .slice elems spare => uptoBulkAll elems + uptoBulkAll spare + 1
  | .agg parts => uptoBulkAll parts + 1
  | .iface _ d => uptoBulk d + 1
  | .map entries => uptoBulkEntries entries + 1
  | .held _ => 1
def uptoBulkAll {H : Type} : List (DataW H) → Nat
  | [] => 0
  | d :: r => uptoBulk d + uptoBulkAll r
def uptoBulkEntries {H : Type} : List (Lit × DataW H) → Nat
  | [] => 0
  | x :: r => uptoBulkEntry x + uptoBulkEntries r
def uptoBulkEntry {H : Type} : Lit × DataW H → Nat
  | (.string bytes, d) => bytes.length + uptoBulk d + 1
  | (_, d) => uptoBulk d + 1
 end
def uptoSmall : (H : Type) → List (DataW H) → Bool := fun _ ds => decide (uptoBulkAll ds ≤ 1048576)
def OpenSpec.upto (s : _root_.Go.ChangeSpec) : _root_.Go.OpenSpec := { _root_.Go.OpenSpec.ofChange s with cond := some uptoSmall }

/-- 'brambleweirlaw4.BruijnOnce', WHERE WHAT IT READS IS OF BULK AT MOST 1048576: true; the input reads as it did. -/
def bruijnOnceUptoRow : OpenClaim := { program := "ytnfijblmigjlhaa", sum := "0cfe670321e1b7184f811802c8c3d57846ee41f17a7bb6f3b7737d4cb6e2b8eb", func := "brambleweir/brambleweirlaw4.BruijnOnce", spec := "bruijnOnce", unfollowed := true, recurses := true, apart := false, narrowed := true }
def BruijnOnceUptoSaid : Prop := bruijnOnceUptoRow.holds Try.pinned (OpenSpec.upto bruijnOnceSpec)

/-- 'brambleweirlaw4.BruijnFind', WHERE WHAT IT READS IS OF BULK AT MOST 1048576: true; the input reads as it did. -/
def bruijnFindUptoRow : OpenClaim := { program := "ytnfijblmigjlhaa", sum := "0cfe670321e1b7184f811802c8c3d57846ee41f17a7bb6f3b7737d4cb6e2b8eb", func := "brambleweir/brambleweirlaw4.BruijnFind", spec := "bruijnFind", unfollowed := true, recurses := true, apart := false, narrowed := true }
def BruijnFindUptoSaid : Prop := bruijnFindUptoRow.holds Try.pinned (OpenSpec.upto bruijnFindSpec)

/-- 'brambleweirlaw4.BruijnLeast', WHERE WHAT IT READS IS OF BULK AT MOST 1048576: true; the input reads as it did. -/
def bruijnLeastUptoRow : OpenClaim := { program := "ytnfijblmigjlhaa", sum := "0cfe670321e1b7184f811802c8c3d57846ee41f17a7bb6f3b7737d4cb6e2b8eb", func := "brambleweir/brambleweirlaw4.BruijnLeast", spec := "bruijnLeast", unfollowed := true, recurses := true, apart := false, narrowed := true }
def BruijnLeastUptoSaid : Prop := bruijnLeastUptoRow.holds Try.pinned (OpenSpec.upto bruijnLeastSpec)

end Rows
end Go.Proofs.Ytnfijblmigjlhaa
