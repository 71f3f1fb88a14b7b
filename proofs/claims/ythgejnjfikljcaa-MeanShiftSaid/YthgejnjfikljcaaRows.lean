/-
  No cell of these rows narrows 'for every input' (looked for: loops, veiled, ifaces, maps, wideKeys, modest, calm, conditions, laid).
  DERIVED. THE GIVEN ROWS OF THIS SEAT. 2 by the template 'for every input the law returns true; each argument reads behind the call as it read before'; 0 by the template 'total and deterministic' (their statements: YthgejnjfikljcaaTotals.lean).
  GIVEN WITH THE SEED: the statements are not yours to turn. If you find one false, say at which input.
  Laid BY PROGRAM, IN A SANDBOX (cutbox-rows.mjs): the forced cells as the released guide's own fill.sh prints them over the translation fcde11f3c1b1a3a2… (all of the seat's roots in one cut). By AI agents, Wed Nov 11 2026. No macro, syntax, notation, axiom, sorry.
-/
import Derived.Test.YthgejnjfikljcaaChecked
import GoSem.Claim
import GoSem.ClaimJoined
import GoSem.ClaimMapViews
import Derived.JoinedTies
import Derived.KernelRfl
namespace Go.Proofs.Ythgejnjfikljcaa
/- THE CELL 'sum', in the pinned program and in every row, IS THE sha256 OF THE DUMP (.gsa) THAT YthgejnjfikljcaaProg.lean LOADS. Nothing in Lean hashes anything: it is a label: what it is worth is what the hold of that sum in a sandbox is worth. -/
noncomputable def Try.pinned : Pinned := { name := "ythgejnjfikljcaa", sum := "fcde11f3c1b1a3a25a964e7b1eb13a9d6909b782a6bcbb2d11448f2c94407c8a", checked := Try.checked }
namespace Rows
def none {H : Type} : Left H := { results := [], args := [] }

/-- 'brambleweirlaw3.MeanKarp': WHATEVER THE INPUT: true; the input reads as it did. -/
def meanKarpSpec : ChangeSpec := { name := "meanKarp", fn := fun _ => fun
  | [d1, d2, d3] => { results := [.lit (.bool true)], args := [d1, d2, d3] }
  | _ => none }
def meanKarpRow : OpenClaim := { program := "ythgejnjfikljcaa", sum := "fcde11f3c1b1a3a25a964e7b1eb13a9d6909b782a6bcbb2d11448f2c94407c8a", func := "brambleweir/brambleweirlaw3.MeanKarp", spec := "meanKarp", apart := false }
def MeanKarpSaid : Prop := meanKarpRow.holds Try.pinned (OpenSpec.ofChange meanKarpSpec)

/-- ITS FALSE NEIGHBOUR: 'it returns false'. Refute it at one input. -/
def meanKarpWrong : ChangeSpec := { name := "meanKarp", fn := fun _ => fun
  | [d1, d2, d3] => { results := [.lit (.bool false)], args := [d1, d2, d3] }
  | _ => none }
def MeanKarpWrongFalsely : Prop := meanKarpRow.holds Try.pinned (OpenSpec.ofChange meanKarpWrong)

/-- 'brambleweirlaw3.MeanShift': WHATEVER THE INPUT: true; the input reads as it did. -/
def meanShiftSpec : ChangeSpec := { name := "meanShift", fn := fun _ => fun
  | [d1, d2, d3] => { results := [.lit (.bool true)], args := [d1, d2, d3] }
  | _ => none }
def meanShiftRow : OpenClaim := { program := "ythgejnjfikljcaa", sum := "fcde11f3c1b1a3a25a964e7b1eb13a9d6909b782a6bcbb2d11448f2c94407c8a", func := "brambleweir/brambleweirlaw3.MeanShift", spec := "meanShift", apart := false }
def MeanShiftSaid : Prop := meanShiftRow.holds Try.pinned (OpenSpec.ofChange meanShiftSpec)

/-- ITS FALSE NEIGHBOUR: 'it returns false'. Refute it at one input. -/
def meanShiftWrong : ChangeSpec := { name := "meanShift", fn := fun _ => fun
  | [d1, d2, d3] => { results := [.lit (.bool false)], args := [d1, d2, d3] }
  | _ => none }
def MeanShiftWrongFalsely : Prop := meanShiftRow.holds Try.pinned (OpenSpec.ofChange meanShiftWrong)

/- THE SECOND FORM. 'bulk': how many values and letters a reading holds, each counted each time it is reached (what is shared counts as often as it is met; a slice's spare places count too). A statement '..UptoSaid' is the law's where the arguments, and the package variables that the reading takes, are together of bulk at most 1048576: NARROWER than '..Said'. Prove '..Said' where nothing that the law and all that it calls make is longer than what came in: it says more and counts as full. Else prove '..UptoSaid'. A law counts once. -/
mutual
def uptoBulk {H : Type} : DataW H → Nat
  | .lit (.string bytes) => bytes.length + 1
  | .lit _ => 1
  | .nil => 1
  | .ptr d => uptoBulk d + 1
  | .slice elems spare => uptoBulkAll elems + uptoBulkAll spare + 1
  | .agg parts => uptoBulkAll parts + 1
  | .iface _ d => uptoBulk d + 1
  | .map entries => uptoBulkEntries entries + 1
  | .held _ => 1
def uptoBulkAll {H : Type} : List (DataW H) → Nat
  | [] => 0
  | d :: r => uptoBulk d + uptoBulkAll r
def uptoBulkEntries {H : Type} : List (Lit × DataW H) → Nat
  | [] => 0
  | x :: r => uptoBulkEntry x + uptoBulkEntries r
def uptoBulkEntry {H : Type} : Lit × DataW H → Nat
  | (.string bytes, d) => bytes.length + uptoBulk d + 1
  | (_, d) => uptoBulk d + 1
 end
def uptoSmall : (H : Type) → List (DataW H) → Bool := fun _ ds => decide (uptoBulkAll ds ≤ 1048576)
def OpenSpec.upto (s : _root_.Go.ChangeSpec) : _root_.Go.OpenSpec := { _root_.Go.OpenSpec.ofChange s with cond := some uptoSmall }

/-- 'brambleweirlaw3.MeanKarp', WHERE WHAT IT READS IS OF BULK AT MOST 1048576: true; the input reads as it did. -/
def meanKarpUptoRow : OpenClaim := { program := "ythgejnjfikljcaa", sum := "fcde11f3c1b1a3a25a964e7b1eb13a9d6909b782a6bcbb2d11448f2c94407c8a", func := "brambleweir/brambleweirlaw3.MeanKarp", spec := "meanKarp", apart := false, narrowed := true }
def MeanKarpUptoSaid : Prop := meanKarpUptoRow.holds Try.pinned (OpenSpec.upto meanKarpSpec)

/-- 'brambleweirlaw3.MeanShift', WHERE WHAT IT READS IS OF BULK AT MOST 1048576: true; the input reads as it did. -/
def meanShiftUptoRow : OpenClaim := { program := "ythgejnjfikljcaa", sum := "fcde11f3c1b1a3a25a964e7b1eb13a9d6909b782a6bcbb2d11448f2c94407c8a", func := "brambleweir/brambleweirlaw3.MeanShift", spec := "meanShift", apart := false, narrowed := true }
def MeanShiftUptoSaid : Prop := meanShiftUptoRow.holds Try.pinned (OpenSpec.upto meanShiftSpec)

end Rows
end Go.Proofs.Ythgejnjfikljcaa
