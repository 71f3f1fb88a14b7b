/-
  No cell of these rows narrows 'for every input' (looked for: loops, veiled, ifaces, maps, wideKeys, modest, calm, conditions, laid).
  DERIVED. THE GIVEN ROWS OF THIS SEAT. 3 by the template 'for every input the law returns true; each argument reads behind the call as it read before'; 0 by the template 'total and deterministic' (their statements: YtgihnflaikmakaaTotals.lean).
  GIVEN WITH THE SEED: the statements are not yours to turn. If you find one false, say at which input.
  Laid BY PROGRAM, IN A SANDBOX (cutbox-rows.mjs): the forced cells as the released guide's own fill.sh prints them over the translation 44a34507ad7029c0… (all of the seat's roots in one cut). By AI agents, Wed Nov 11 2026. No macro, syntax, notation, axiom, sorry.
-/
import Derived.Test.YtgihnflaikmakaaChecked
import GoSem.Claim
import GoSem.ClaimJoined
import GoSem.ClaimMapViews
import Derived.JoinedTies
import Derived.KernelRfl
namespace Go.Proofs.Ytgihnflaikmakaa
/- THE CELL 'sum', in the pinned program and in every row, IS THE sha256 OF THE DUMP (.gsa) THAT YtgihnflaikmakaaProg.lean LOADS. Nothing in Lean hashes anything: it is a label: what it is worth is what the hold of that sum in a sandbox is worth. -/
noncomputable def Try.pinned : Pinned := { name := "ytgihnflaikmakaa", sum := "44a34507ad7029c00767aacb1e1924a765cfea310eb8622187aed99c8e358254", checked := Try.checked }
namespace Rows
def none {H : Type} : Left H := { results := [], args := [] }

/-- 'brambleweirlaw3.MengerCut': WHATEVER THE INPUT: true; the input reads as it did. -/
def mengerCutSpec : ChangeSpec := { name := "mengerCut", fn := fun _ => fun
  | [d1, d2, d3, d4, d5] => { results := [.lit (.bool true)], args := [d1, d2, d3, d4, d5] }
  | _ => none }
def mengerCutRow : OpenClaim := { program := "ytgihnflaikmakaa", sum := "44a34507ad7029c00767aacb1e1924a765cfea310eb8622187aed99c8e358254", func := "brambleweir/brambleweirlaw3.MengerCut", spec := "mengerCut", unfollowed := true, recurses := true, apart := false }
def MengerCutSaid : Prop := mengerCutRow.holds Try.pinned (OpenSpec.ofChange mengerCutSpec)

/-- ITS FALSE NEIGHBOUR: 'it returns false'. Refute it at one input. -/
def mengerCutWrong : ChangeSpec := { name := "mengerCut", fn := fun _ => fun
  | [d1, d2, d3, d4, d5] => { results := [.lit (.bool false)], args := [d1, d2, d3, d4, d5] }
  | _ => none }
def MengerCutWrongFalsely : Prop := mengerCutRow.holds Try.pinned (OpenSpec.ofChange mengerCutWrong)

/-- 'brambleweirlaw3.MengerBoth': WHATEVER THE INPUT: true; the input reads as it did. -/
def mengerBothSpec : ChangeSpec := { name := "mengerBoth", fn := fun _ => fun
  | [d1, d2, d3, d4, d5] => { results := [.lit (.bool true)], args := [d1, d2, d3, d4, d5] }
  | _ => none }
def mengerBothRow : OpenClaim := { program := "ytgihnflaikmakaa", sum := "44a34507ad7029c00767aacb1e1924a765cfea310eb8622187aed99c8e358254", func := "brambleweir/brambleweirlaw3.MengerBoth", spec := "mengerBoth", unfollowed := true, recurses := true, apart := false }
def MengerBothSaid : Prop := mengerBothRow.holds Try.pinned (OpenSpec.ofChange mengerBothSpec)

/-- ITS FALSE NEIGHBOUR: 'it returns false'. Refute it at one input. -/
def mengerBothWrong : ChangeSpec := { name := "mengerBoth", fn := fun _ => fun
  | [d1, d2, d3, d4, d5] => { results := [.lit (.bool false)], args := [d1, d2, d3, d4, d5] }
  | _ => none }
def MengerBothWrongFalsely : Prop := mengerBothRow.holds Try.pinned (OpenSpec.ofChange mengerBothWrong)

/-- 'brambleweirlaw3.MengerThree': WHATEVER THE INPUT: true; the input reads as it did. -/
def mengerThreeSpec : ChangeSpec := { name := "mengerThree", fn := fun _ => fun
  | [d1, d2, d3, d4, d5] => { results := [.lit (.bool true)], args := [d1, d2, d3, d4, d5] }
  | _ => none }
def mengerThreeRow : OpenClaim := { program := "ytgihnflaikmakaa", sum := "44a34507ad7029c00767aacb1e1924a765cfea310eb8622187aed99c8e358254", func := "brambleweir/brambleweirlaw3.MengerThree", spec := "mengerThree", unfollowed := true, recurses := true, apart := false }
def MengerThreeSaid : Prop := mengerThreeRow.holds Try.pinned (OpenSpec.ofChange mengerThreeSpec)

/-- ITS FALSE NEIGHBOUR: 'it returns false'. Refute it at one input. -/
def mengerThreeWrong : ChangeSpec := { name := "mengerThree", fn := fun _ => fun
  | [d1, d2, d3, d4, d5] => { results := [.lit (.bool false)], args := [d1, d2, d3, d4, d5] }
  | _ => none }
def MengerThreeWrongFalsely : Prop := mengerThreeRow.holds Try.pinned (OpenSpec.ofChange mengerThreeWrong)

/- THE SECOND FORM. 'bulk': how many values and letters a reading holds, each counted each time it is reached (what is shared counts as often as it is met; a slice's spare places count too). A statement '..UptoSaid' is the law's where the arguments, and the package variables that the reading takes, are together of bulk at most 1048576: NARROWER than '..Said'. Prove '..Said' where nothing that the law and all that it calls make is longer than what came in: it says more and counts as full. Else prove '..UptoSaid'. A law counts once. -/
mutual
def uptoBulk {H : Type} : DataW H → Nat
  | .lit (.string bytes) => bytes.length + 1
  | .lit _ => 1
  | .nil => 1
  | .ptr d => uptoBulk d + 1
  | .slice elems spare => uptoBulkAll elems + uptoBulkAll spare + 1
  | .agg parts => uptoBulkAll parts + 1
  | .iface _ d => uptoBulk d + 1
  | .map entries => uptoBulkEntries entries + 1
  | .held _ => 1
def uptoBulkAll {H : Type} : List (DataW H) → Nat
  | [] => 0
  | d :: r => uptoBulk d + uptoBulkAll r
def uptoBulkEntries {H : Type} : List (Lit × DataW H) → Nat
  | [] => 0
  | x :: r => uptoBulkEntry x + uptoBulkEntries r
def uptoBulkEntry {H : Type} : Lit × DataW H → Nat
  | (.string bytes, d) => bytes.length + uptoBulk d + 1
  | (_, d) => uptoBulk d + 1
 end
def uptoSmall : (H : Type) → List (DataW H) → Bool := fun _ ds => decide (uptoBulkAll ds ≤ 1048576)
def OpenSpec.upto (s : _root_.Go.ChangeSpec) : _root_.Go.OpenSpec := { _root_.Go.OpenSpec.ofChange s with cond := some uptoSmall }

/-- 'brambleweirlaw3.MengerCut', WHERE WHAT IT READS IS OF BULK AT MOST 1048576: true; the input reads as it did. -/
def mengerCutUptoRow : OpenClaim := { program := "ytgihnflaikmakaa", sum := "44a34507ad7029c00767aacb1e1924a765cfea310eb8622187aed99c8e358254", func := "brambleweir/brambleweirlaw3.MengerCut", spec := "mengerCut", unfollowed := true, recurses := true, apart := false, narrowed := true }
def MengerCutUptoSaid : Prop := mengerCutUptoRow.holds Try.pinned (OpenSpec.upto mengerCutSpec)

/-- 'brambleweirlaw3.MengerBoth', WHERE WHAT IT READS IS OF BULK AT MOST 1048576: true; the input reads as it did. -/
def mengerBothUptoRow : OpenClaim := { program := "ytgihnflaikmakaa", sum := "44a34507ad7029c00767aacb1e1924a765cfea310eb8622187aed99c8e358254", func := "brambleweir/brambleweirlaw3.MengerBoth", spec := "mengerBoth", unfollowed := true, recurses := true, apart := false, narrowed := true }
def MengerBothUptoSaid : Prop := mengerBothUptoRow.holds Try.pinned (OpenSpec.upto mengerBothSpec)

/-- 'brambleweirlaw3.MengerThree', WHERE WHAT IT READS IS OF BULK AT MOST 1048576: true; the input reads as it did. -/
def mengerThreeUptoRow : OpenClaim := { program := "ytgihnflaikmakaa", sum := "44a34507ad7029c00767aacb1e1924a765cfea310eb8622187aed99c8e358254", func := "brambleweir/brambleweirlaw3.MengerThree", spec := "mengerThree", unfollowed := true, recurses := true, apart := false, narrowed := true }
def MengerThreeUptoSaid : Prop := mengerThreeUptoRow.holds Try.pinned (OpenSpec.upto mengerThreeSpec)

end Rows
end Go.Proofs.Ytgihnflaikmakaa
