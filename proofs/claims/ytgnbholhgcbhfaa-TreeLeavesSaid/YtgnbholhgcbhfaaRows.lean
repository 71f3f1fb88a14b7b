/-
  No cell of these rows narrows 'for every input' (looked for: loops, veiled, ifaces, maps, wideKeys, modest, calm, conditions, laid).
  DERIVED. THE GIVEN ROWS OF THIS SEAT. 4 by the template 'for every input the law returns true; each argument reads behind the call as it read before'; 0 by the template 'total and deterministic' (their statements: YtgnbholhgcbhfaaTotals.lean).
  GIVEN WITH THE SEED: the statements are not yours to turn. If you find one false, say at which input.
  Laid BY PROGRAM, IN A SANDBOX (cutbox-rows.mjs): the forced cells as the released guide's own fill.sh prints them over the translation ccc80dd6f4243a6b… (all of the seat's roots in one cut). By AI agents, Wed Nov 11 2026. No macro, syntax, notation, axiom, sorry.
-/
import Derived.Test.YtgnbholhgcbhfaaChecked
import GoSem.Claim
import GoSem.ClaimJoined
import GoSem.ClaimMapViews
import Derived.JoinedTies
import Derived.KernelRfl
namespace Go.Proofs.Ytgnbholhgcbhfaa
/- THE CELL 'sum', in the pinned program and in every row, IS THE sha256 OF THE DUMP (.gsa) THAT YtgnbholhgcbhfaaProg.lean LOADS. Nothing in Lean hashes anything: it is a label: what it is worth is what the hold of that sum in a sandbox is worth. -/
noncomputable def Try.pinned : Pinned := { name := "ytgnbholhgcbhfaa", sum := "ccc80dd6f4243a6bafbf04d6916a2f958938eb3f100ce5bd46b44573240eb889", checked := Try.checked }
namespace Rows
def none {H : Type} : Left H := { results := [], args := [] }

/-- 'brambleweirlaw3.TreeName': WHATEVER THE INPUT: true; the input reads as it did. -/
def treeNameSpec : ChangeSpec := { name := "treeName", fn := fun _ => fun
  | [d1, d2, d3] => { results := [.lit (.bool true)], args := [d1, d2, d3] }
  | _ => none }
def treeNameRow : OpenClaim := { program := "ytgnbholhgcbhfaa", sum := "ccc80dd6f4243a6bafbf04d6916a2f958938eb3f100ce5bd46b44573240eb889", func := "brambleweir/brambleweirlaw3.TreeName", spec := "treeName", unfollowed := true, recurses := true, apart := false }
def TreeNameSaid : Prop := treeNameRow.holds Try.pinned (OpenSpec.ofChange treeNameSpec)

/-- ITS FALSE NEIGHBOUR: 'it returns false'. Refute it at one input. -/
def treeNameWrong : ChangeSpec := { name := "treeName", fn := fun _ => fun
  | [d1, d2, d3] => { results := [.lit (.bool false)], args := [d1, d2, d3] }
  | _ => none }
def TreeNameWrongFalsely : Prop := treeNameRow.holds Try.pinned (OpenSpec.ofChange treeNameWrong)

/-- 'brambleweirlaw3.TreeSame': WHATEVER THE INPUT: true; the input reads as it did. -/
def treeSameSpec : ChangeSpec := { name := "treeSame", fn := fun _ => fun
  | [d1, d2, d3] => { results := [.lit (.bool true)], args := [d1, d2, d3] }
  | _ => none }
def treeSameRow : OpenClaim := { program := "ytgnbholhgcbhfaa", sum := "ccc80dd6f4243a6bafbf04d6916a2f958938eb3f100ce5bd46b44573240eb889", func := "brambleweir/brambleweirlaw3.TreeSame", spec := "treeSame", unfollowed := true, recurses := true, apart := false }
def TreeSameSaid : Prop := treeSameRow.holds Try.pinned (OpenSpec.ofChange treeSameSpec)

/-- ITS FALSE NEIGHBOUR: 'it returns false'. Refute it at one input. -/
def treeSameWrong : ChangeSpec := { name := "treeSame", fn := fun _ => fun
  | [d1, d2, d3] => { results := [.lit (.bool false)], args := [d1, d2, d3] }
  | _ => none }
def TreeSameWrongFalsely : Prop := treeSameRow.holds Try.pinned (OpenSpec.ofChange treeSameWrong)

/-- 'brambleweirlaw3.TreeJordan': WHATEVER THE INPUT: true; the input reads as it did. -/
def treeJordanSpec : ChangeSpec := { name := "treeJordan", fn := fun _ => fun
  | [d1, d2] => { results := [.lit (.bool true)], args := [d1, d2] }
  | _ => none }
def treeJordanRow : OpenClaim := { program := "ytgnbholhgcbhfaa", sum := "ccc80dd6f4243a6bafbf04d6916a2f958938eb3f100ce5bd46b44573240eb889", func := "brambleweir/brambleweirlaw3.TreeJordan", spec := "treeJordan", unfollowed := true, recurses := true, apart := false }
def TreeJordanSaid : Prop := treeJordanRow.holds Try.pinned (OpenSpec.ofChange treeJordanSpec)

/-- ITS FALSE NEIGHBOUR: 'it returns false'. Refute it at one input. -/
def treeJordanWrong : ChangeSpec := { name := "treeJordan", fn := fun _ => fun
  | [d1, d2] => { results := [.lit (.bool false)], args := [d1, d2] }
  | _ => none }
def TreeJordanWrongFalsely : Prop := treeJordanRow.holds Try.pinned (OpenSpec.ofChange treeJordanWrong)

/-- 'brambleweirlaw3.TreeLeaves': WHATEVER THE INPUT: true; the input reads as it did. -/
def treeLeavesSpec : ChangeSpec := { name := "treeLeaves", fn := fun _ => fun
  | [d1, d2, d3] => { results := [.lit (.bool true)], args := [d1, d2, d3] }
  | _ => none }
def treeLeavesRow : OpenClaim := { program := "ytgnbholhgcbhfaa", sum := "ccc80dd6f4243a6bafbf04d6916a2f958938eb3f100ce5bd46b44573240eb889", func := "brambleweir/brambleweirlaw3.TreeLeaves", spec := "treeLeaves", unfollowed := true, recurses := true, apart := false }
def TreeLeavesSaid : Prop := treeLeavesRow.holds Try.pinned (OpenSpec.ofChange treeLeavesSpec)

/-- ITS FALSE NEIGHBOUR: 'it returns false'. Refute it at one input. -/
def treeLeavesWrong : ChangeSpec := { name := "treeLeaves", fn := fun _ => fun
  | [d1, d2, d3] => { results := [.lit (.bool false)], args := [d1, d2, d3] }
  | _ => none }
def TreeLeavesWrongFalsely : Prop := treeLeavesRow.holds Try.pinned (OpenSpec.ofChange treeLeavesWrong)

/- THE SECOND FORM. 'bulk': how many values and letters a reading holds, each counted each time it is reached (what is shared counts as often as it is met; a slice's spare places count too). A statement '..UptoSaid' is the law's where the arguments, and the package variables that the reading takes, are together of bulk at most 1048576: NARROWER than '..Said'. Prove '..Said' where nothing that the law and all that it calls make is longer than what came in: it says more and counts as full. Else prove '..UptoSaid'. A law counts once. -/
mutual
def uptoBulk {H : Type} : DataW H → Nat
  | .lit (.string bytes) => bytes.length + 1
  | .lit _ => 1
  | .nil => 1
  | .ptr d => uptoBulk d + 1
  | .slice elems spare => uptoBulkAll elems + uptoBulkAll spare + 1
  | .agg parts => uptoBulkAll parts + 1
  | .iface _ d => uptoBulk d + 1
  | .map entries => uptoBulkEntries entries + 1
  | .held _ => 1
def uptoBulkAll {H : Type} : List (DataW H) → Nat
  | [] => 0
  | d :: r => uptoBulk d + uptoBulkAll r
def uptoBulkEntries {H : Type} : List (Lit × DataW H) → Nat
  | [] => 0
  | x :: r => uptoBulkEntry x + uptoBulkEntries r
def uptoBulkEntry {H : Type} : Lit × DataW H → Nat
  | (.string bytes, d) => bytes.length + uptoBulk d + 1
  | (_, d) => uptoBulk d + 1
 end
def uptoSmall : (H : Type) → List (DataW H) → Bool := fun _ ds => decide (uptoBulkAll ds ≤ 1048576)
def OpenSpec.upto (s : _root_.Go.ChangeSpec) : _root_.Go.OpenSpec := { _root_.Go.OpenSpec.ofChange s with cond := some uptoSmall }

/-- 'brambleweirlaw3.TreeName', WHERE WHAT IT READS IS OF BULK AT MOST 1048576: true; the input reads as it did. -/
def treeNameUptoRow : OpenClaim := { program := "ytgnbholhgcbhfaa", sum := "ccc80dd6f4243a6bafbf04d6916a2f958938eb3f100ce5bd46b44573240eb889", func := "brambleweir/brambleweirlaw3.TreeName", spec := "treeName", unfollowed := true, recurses := true, apart := false, narrowed := true }
def TreeNameUptoSaid : Prop := treeNameUptoRow.holds Try.pinned (OpenSpec.upto treeNameSpec)

/-- 'brambleweirlaw3.TreeSame', WHERE WHAT IT READS IS OF BULK AT MOST 1048576: true; the input reads as it did. -/
def treeSameUptoRow : OpenClaim := { program := "ytgnbholhgcbhfaa", sum := "ccc80dd6f4243a6bafbf04d6916a2f958938eb3f100ce5bd46b44573240eb889", func := "brambleweir/brambleweirlaw3.TreeSame", spec := "treeSame", unfollowed := true, recurses := true, apart := false, narrowed := true }
def TreeSameUptoSaid : Prop := treeSameUptoRow.holds Try.pinned (OpenSpec.upto treeSameSpec)

/-- 'brambleweirlaw3.TreeJordan', WHERE WHAT IT READS IS OF BULK AT MOST 1048576: true; the input reads as it did. -/
def treeJordanUptoRow : OpenClaim := { program := "ytgnbholhgcbhfaa", sum := "ccc80dd6f4243a6bafbf04d6916a2f958938eb3f100ce5bd46b44573240eb889", func := "brambleweir/brambleweirlaw3.TreeJordan", spec := "treeJordan", unfollowed := true, recurses := true, apart := false, narrowed := true }
def TreeJordanUptoSaid : Prop := treeJordanUptoRow.holds Try.pinned (OpenSpec.upto treeJordanSpec)

/-- 'brambleweirlaw3.TreeLeaves', WHERE WHAT IT READS IS OF BULK AT MOST 1048576: true; the input reads as it did. -/
def treeLeavesUptoRow : OpenClaim := { program := "ytgnbholhgcbhfaa", sum := "ccc80dd6f4243a6bafbf04d6916a2f958938eb3f100ce5bd46b44573240eb889", func := "brambleweir/brambleweirlaw3.TreeLeaves", spec := "treeLeaves", unfollowed := true, recurses := true, apart := false, narrowed := true }
def TreeLeavesUptoSaid : Prop := treeLeavesUptoRow.holds Try.pinned (OpenSpec.upto treeLeavesSpec)

end Rows
end Go.Proofs.Ytgnbholhgcbhfaa
