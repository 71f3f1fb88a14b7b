/-
  No cell of these rows narrows 'for every input' (looked for: loops, veiled, ifaces, maps, wideKeys, modest, calm, conditions, laid).
  DERIVED. THE GIVEN ROWS OF THIS SEAT. 3 by the template 'for every input the law returns true; each argument reads behind the call as it read before'; 0 by the template 'total and deterministic' (their statements: YthleccpdflggjaaTotals.lean).
  GIVEN WITH THE SEED: the statements are not yours to turn. If you find one false, say at which input.
  Laid BY PROGRAM, IN A SANDBOX (cutbox-rows.mjs): the forced cells as the released guide's own fill.sh prints them over the translation 59c96fb70badb170… (all of the seat's roots in one cut). By AI agents, Wed Nov 11 2026. No macro, syntax, notation, axiom, sorry.
-/
import Derived.Test.YthleccpdflggjaaChecked
import GoSem.Claim
import GoSem.ClaimJoined
import GoSem.ClaimMapViews
import Derived.JoinedTies
import Derived.KernelRfl
namespace Go.Proofs.Ythleccpdflggjaa
/- THE CELL 'sum', in the pinned program and in every row, IS THE sha256 OF THE DUMP (.gsa) THAT YthleccpdflggjaaProg.lean LOADS. Nothing in Lean hashes anything: it is a label: what it is worth is what the hold of that sum in a sandbox is worth. -/
noncomputable def Try.pinned : Pinned := { name := "ythleccpdflggjaa", sum := "59c96fb70badb170e3301f8b347bdd0e8a25031e490978d8535f9ba690e8e7a0", checked := Try.checked }
namespace Rows
def none {H : Type} : Left H := { results := [], args := [] }

/-- 'brambleweirlaw4.GrayBack': WHATEVER THE INPUT: true; the input reads as it did. -/
def grayBackSpec : ChangeSpec := { name := "grayBack", fn := fun _ => fun
  | [d1, d2] => { results := [.lit (.bool true)], args := [d1, d2] }
  | _ => none }
def grayBackRow : OpenClaim := { program := "ythleccpdflggjaa", sum := "59c96fb70badb170e3301f8b347bdd0e8a25031e490978d8535f9ba690e8e7a0", func := "brambleweir/brambleweirlaw4.GrayBack", spec := "grayBack", apart := false }
def GrayBackSaid : Prop := grayBackRow.holds Try.pinned (OpenSpec.ofChange grayBackSpec)

/-- ITS FALSE NEIGHBOUR: 'it returns false'. Refute it at one input. -/
def grayBackWrong : ChangeSpec := { name := "grayBack", fn := fun _ => fun
  | [d1, d2] => { results := [.lit (.bool false)], args := [d1, d2] }
  | _ => none }
def GrayBackWrongFalsely : Prop := grayBackRow.holds Try.pinned (OpenSpec.ofChange grayBackWrong)

/-- 'brambleweirlaw4.GrayOne': WHATEVER THE INPUT: true; the input reads as it did. -/
def grayOneSpec : ChangeSpec := { name := "grayOne", fn := fun _ => fun
  | [d1, d2] => { results := [.lit (.bool true)], args := [d1, d2] }
  | _ => none }
def grayOneRow : OpenClaim := { program := "ythleccpdflggjaa", sum := "59c96fb70badb170e3301f8b347bdd0e8a25031e490978d8535f9ba690e8e7a0", func := "brambleweir/brambleweirlaw4.GrayOne", spec := "grayOne", apart := false }
def GrayOneSaid : Prop := grayOneRow.holds Try.pinned (OpenSpec.ofChange grayOneSpec)

/-- ITS FALSE NEIGHBOUR: 'it returns false'. Refute it at one input. -/
def grayOneWrong : ChangeSpec := { name := "grayOne", fn := fun _ => fun
  | [d1, d2] => { results := [.lit (.bool false)], args := [d1, d2] }
  | _ => none }
def GrayOneWrongFalsely : Prop := grayOneRow.holds Try.pinned (OpenSpec.ofChange grayOneWrong)

/-- 'brambleweirlaw4.GrayHanoi': WHATEVER THE INPUT: true; the input reads as it did. -/
def grayHanoiSpec : ChangeSpec := { name := "grayHanoi", fn := fun _ => fun
  | [d1, d2] => { results := [.lit (.bool true)], args := [d1, d2] }
  | _ => none }
def grayHanoiRow : OpenClaim := { program := "ythleccpdflggjaa", sum := "59c96fb70badb170e3301f8b347bdd0e8a25031e490978d8535f9ba690e8e7a0", func := "brambleweir/brambleweirlaw4.GrayHanoi", spec := "grayHanoi", apart := false }
def GrayHanoiSaid : Prop := grayHanoiRow.holds Try.pinned (OpenSpec.ofChange grayHanoiSpec)

/-- ITS FALSE NEIGHBOUR: 'it returns false'. Refute it at one input. -/
def grayHanoiWrong : ChangeSpec := { name := "grayHanoi", fn := fun _ => fun
  | [d1, d2] => { results := [.lit (.bool false)], args := [d1, d2] }
  | _ => none }
def GrayHanoiWrongFalsely : Prop := grayHanoiRow.holds Try.pinned (OpenSpec.ofChange grayHanoiWrong)

/- THE SECOND FORM. 'bulk': how many values and letters a reading holds, each counted each time it is reached (what is shared counts as often as it is met; a slice's spare places count too). A statement '..UptoSaid' is the law's where the arguments, and the package variables that the reading takes, are together of bulk at most 1048576: NARROWER than '..Said'. Prove '..Said' where nothing that the law and all that it calls make is longer than what came in: it says more and counts as full. Else prove '..UptoSaid'. A law counts once. -/
mutual
def uptoBulk {H : Type} : DataW H → Nat
  | .lit (.string bytes) => bytes.length + 1
  | .lit _ => 1
  | .nil => 1
  | .ptr d => uptoBulk d + 1
  | .slice elems spare => uptoBulkAll elems + uptoBulkAll spare + 1
  | .agg parts => uptoBulkAll parts + 1
  | .iface _ d => uptoBulk d + 1
  | .map entries => uptoBulkEntries entries + 1
  | .held _ => 1
def uptoBulkAll {H : Type} : List (DataW H) → Nat
  | [] => 0
  | d :: r => uptoBulk d + uptoBulkAll r
def uptoBulkEntries {H : Type} : List (Lit × DataW H) → Nat
  | [] => 0
  | x :: r => uptoBulkEntry x + uptoBulkEntries r
def uptoBulkEntry {H : Type} : Lit × DataW H → Nat
  | (.string bytes, d) => bytes.length + uptoBulk d + 1
  | (_, d) => uptoBulk d + 1
 end
def uptoSmall : (H : Type) → List (DataW H) → Bool := fun _ ds => decide (uptoBulkAll ds ≤ 1048576)
def OpenSpec.upto (s : _root_.Go.ChangeSpec) : _root_.Go.OpenSpec := { _root_.Go.OpenSpec.ofChange s with cond := some uptoSmall }

/-- 'brambleweirlaw4.GrayBack', WHERE WHAT IT READS IS OF BULK AT MOST 1048576: true; the input reads as it did. -/
def grayBackUptoRow : OpenClaim := { program := "ythleccpdflggjaa", sum := "59c96fb70badb170e3301f8b347bdd0e8a25031e490978d8535f9ba690e8e7a0", func := "brambleweir/brambleweirlaw4.GrayBack", spec := "grayBack", apart := false, narrowed := true }
def GrayBackUptoSaid : Prop := grayBackUptoRow.holds Try.pinned (OpenSpec.upto grayBackSpec)

/-- 'brambleweirlaw4.GrayOne', WHERE WHAT IT READS IS OF BULK AT MOST 1048576: true; the input reads as it did. -/
def grayOneUptoRow : OpenClaim := { program := "ythleccpdflggjaa", sum := "59c96fb70badb170e3301f8b347bdd0e8a25031e490978d8535f9ba690e8e7a0", func := "brambleweir/brambleweirlaw4.GrayOne", spec := "grayOne", apart := false, narrowed := true }
def GrayOneUptoSaid : Prop := grayOneUptoRow.holds Try.pinned (OpenSpec.upto grayOneSpec)

/-- 'brambleweirlaw4.GrayHanoi', WHERE WHAT IT READS IS OF BULK AT MOST 1048576: true; the input reads as it did. -/
def grayHanoiUptoRow : OpenClaim := { program := "ythleccpdflggjaa", sum := "59c96fb70badb170e3301f8b347bdd0e8a25031e490978d8535f9ba690e8e7a0", func := "brambleweir/brambleweirlaw4.GrayHanoi", spec := "grayHanoi", apart := false, narrowed := true }
def GrayHanoiUptoSaid : Prop := grayHanoiUptoRow.holds Try.pinned (OpenSpec.upto grayHanoiSpec)

end Rows
end Go.Proofs.Ythleccpdflggjaa
