/-
  No cell of these rows narrows 'for every input' (looked for: loops, veiled, ifaces, maps, wideKeys, modest, calm, conditions, laid).
  DERIVED. THE GIVEN ROWS OF THIS SEAT. 4 by the template 'for every input the law returns true; each argument reads behind the call as it read before'; 0 by the template 'total and deterministic' (their statements: YtabkmceajgpdjaaTotals.lean).
  GIVEN WITH THE SEED: the statements are not yours to turn. If you find one false, say at which input.
  Laid BY PROGRAM, IN A SANDBOX (cutbox-rows.mjs): the forced cells as the released guide's own fill.sh prints them over the translation 2f32735a4e58f5fe… (all of the seat's roots in one cut). By AI agents, Wed Nov 11 2026. No macro, syntax, notation, axiom, sorry.
-/
import Derived.Test.YtabkmceajgpdjaaChecked
import GoSem.Claim
import GoSem.ClaimJoined
import GoSem.ClaimMapViews
import Derived.JoinedTies
import Derived.KernelRfl
namespace Go.Proofs.Ytabkmceajgpdjaa
/- THE CELL 'sum', in the pinned program and in every row, IS THE sha256 OF THE DUMP (.gsa) THAT YtabkmceajgpdjaaProg.lean LOADS. Nothing in Lean hashes anything: it is a label: what it is worth is what the hold of that sum in a sandbox is worth. -/
noncomputable def Try.pinned : Pinned := { name := "ytabkmceajgpdjaa", sum := "2f32735a4e58f5fe784bb770c2b6c5e435814ad51da04dc337f50942d8d75646", checked := Try.checked }
namespace Rows
def none {H : Type} : Left H := { results := [], args := [] }

/-- 'brambleweirlaw4.TournRedei': WHATEVER THE INPUT: true; the input reads as it did. -/
def tournRedeiSpec : ChangeSpec := { name := "tournRedei", fn := fun _ => fun
  | [d1, d2] => { results := [.lit (.bool true)], args := [d1, d2] }
  | _ => none }
def tournRedeiRow : OpenClaim := { program := "ytabkmceajgpdjaa", sum := "2f32735a4e58f5fe784bb770c2b6c5e435814ad51da04dc337f50942d8d75646", func := "brambleweir/brambleweirlaw4.TournRedei", spec := "tournRedei", inPlace := ["slices.overlaps[int]"], unfollowed := true, recurses := true, apart := false }
def TournRedeiSaid : Prop := tournRedeiRow.holds Try.pinned (OpenSpec.ofChange tournRedeiSpec)

/-- ITS FALSE NEIGHBOUR: 'it returns false'. Refute it at one input. -/
def tournRedeiWrong : ChangeSpec := { name := "tournRedei", fn := fun _ => fun
  | [d1, d2] => { results := [.lit (.bool false)], args := [d1, d2] }
  | _ => none }
def TournRedeiWrongFalsely : Prop := tournRedeiRow.holds Try.pinned (OpenSpec.ofChange tournRedeiWrong)

/-- 'brambleweirlaw4.TournKings': WHATEVER THE INPUT: true; the input reads as it did. -/
def tournKingsSpec : ChangeSpec := { name := "tournKings", fn := fun _ => fun
  | [d1, d2] => { results := [.lit (.bool true)], args := [d1, d2] }
  | _ => none }
def tournKingsRow : OpenClaim := { program := "ytabkmceajgpdjaa", sum := "2f32735a4e58f5fe784bb770c2b6c5e435814ad51da04dc337f50942d8d75646", func := "brambleweir/brambleweirlaw4.TournKings", spec := "tournKings", inPlace := ["slices.overlaps[int]"], unfollowed := true, recurses := true, apart := false }
def TournKingsSaid : Prop := tournKingsRow.holds Try.pinned (OpenSpec.ofChange tournKingsSpec)

/-- ITS FALSE NEIGHBOUR: 'it returns false'. Refute it at one input. -/
def tournKingsWrong : ChangeSpec := { name := "tournKings", fn := fun _ => fun
  | [d1, d2] => { results := [.lit (.bool false)], args := [d1, d2] }
  | _ => none }
def TournKingsWrongFalsely : Prop := tournKingsRow.holds Try.pinned (OpenSpec.ofChange tournKingsWrong)

/-- 'brambleweirlaw4.TournRing': WHATEVER THE INPUT: true; the input reads as it did. -/
def tournRingSpec : ChangeSpec := { name := "tournRing", fn := fun _ => fun
  | [d1, d2] => { results := [.lit (.bool true)], args := [d1, d2] }
  | _ => none }
def tournRingRow : OpenClaim := { program := "ytabkmceajgpdjaa", sum := "2f32735a4e58f5fe784bb770c2b6c5e435814ad51da04dc337f50942d8d75646", func := "brambleweir/brambleweirlaw4.TournRing", spec := "tournRing", inPlace := ["slices.overlaps[int]"], unfollowed := true, recurses := true, apart := false }
def TournRingSaid : Prop := tournRingRow.holds Try.pinned (OpenSpec.ofChange tournRingSpec)

/-- ITS FALSE NEIGHBOUR: 'it returns false'. Refute it at one input. -/
def tournRingWrong : ChangeSpec := { name := "tournRing", fn := fun _ => fun
  | [d1, d2] => { results := [.lit (.bool false)], args := [d1, d2] }
  | _ => none }
def TournRingWrongFalsely : Prop := tournRingRow.holds Try.pinned (OpenSpec.ofChange tournRingWrong)

/-- 'brambleweirlaw4.TournLandau': WHATEVER THE INPUT: true; the input reads as it did. -/
def tournLandauSpec : ChangeSpec := { name := "tournLandau", fn := fun _ => fun
  | [d1, d2, d3] => { results := [.lit (.bool true)], args := [d1, d2, d3] }
  | _ => none }
def tournLandauRow : OpenClaim := { program := "ytabkmceajgpdjaa", sum := "2f32735a4e58f5fe784bb770c2b6c5e435814ad51da04dc337f50942d8d75646", func := "brambleweir/brambleweirlaw4.TournLandau", spec := "tournLandau", inPlace := ["slices.overlaps[int]"], unfollowed := true, recurses := true, apart := false }
def TournLandauSaid : Prop := tournLandauRow.holds Try.pinned (OpenSpec.ofChange tournLandauSpec)

/-- ITS FALSE NEIGHBOUR: 'it returns false'. Refute it at one input. -/
def tournLandauWrong : ChangeSpec := { name := "tournLandau", fn := fun _ => fun
  | [d1, d2, d3] => { results := [.lit (.bool false)], args := [d1, d2, d3] }
  | _ => none }
def TournLandauWrongFalsely : Prop := tournLandauRow.holds Try.pinned (OpenSpec.ofChange tournLandauWrong)

/- THE SECOND FORM. 'bulk': how many values and letters a reading holds, each counted each time it is reached (what is shared counts as often as it is met; a slice's spare places count too). A statement '..UptoSaid' is the law's where the arguments, and the package variables that the reading takes, are together of bulk at most 1048576: NARROWER than '..Said'. Prove '..Said' where nothing that the law and all that it calls make is longer than what came in: it says more and counts as full. Else prove '..UptoSaid'. A law counts once. -/
mutual
def uptoBulk {H : Type} : DataW H → Nat
  | .lit (.string bytes) => bytes.length + 1
  | .lit _ => 1
  | .nil => 1
  | .ptr d => uptoBulk d + 1
  | .slice elems spare => uptoBulkAll elems + uptoBulkAll spare + 1
  | .agg parts => uptoBulkAll parts + 1
  | .iface _ d => uptoBulk d + 1
  | .map entries => uptoBulkEntries entries + 1
  | .held _ => 1
def uptoBulkAll {H : Type} : List (DataW H) → Nat
  | [] => 0
  | d :: r => uptoBulk d + uptoBulkAll r
def uptoBulkEntries {H : Type} : List (Lit × DataW H) → Nat
  | [] => 0
  | x :: r => uptoBulkEntry x + uptoBulkEntries r
def uptoBulkEntry {H : Type} : Lit × DataW H → Nat
  | (.string bytes, d) => bytes.length + uptoBulk d + 1
  | (_, d) => uptoBulk d + 1
 end
def uptoSmall : (H : Type) → List (DataW H) → Bool := fun _ ds => decide (uptoBulkAll ds ≤ 1048576)
def OpenSpec.upto (s : _root_.Go.ChangeSpec) : _root_.Go.OpenSpec := { _root_.Go.OpenSpec.ofChange s with cond := some uptoSmall }

/-- 'brambleweirlaw4.TournRedei', WHERE WHAT IT READS IS OF BULK AT MOST 1048576: true; the input reads as it did. -/
def tournRedeiUptoRow : OpenClaim := { program := "ytabkmceajgpdjaa", sum := "2f32735a4e58f5fe784bb770c2b6c5e435814ad51da04dc337f50942d8d75646", func := "brambleweir/brambleweirlaw4.TournRedei", spec := "tournRedei", inPlace := ["slices.overlaps[int]"], unfollowed := true, recurses := true, apart := false, narrowed := true }
def TournRedeiUptoSaid : Prop := tournRedeiUptoRow.holds Try.pinned (OpenSpec.upto tournRedeiSpec)

/-- 'brambleweirlaw4.TournKings', WHERE WHAT IT READS IS OF BULK AT MOST 1048576: true; the input reads as it did. -/
def tournKingsUptoRow : OpenClaim := { program := "ytabkmceajgpdjaa", sum := "2f32735a4e58f5fe784bb770c2b6c5e435814ad51da04dc337f50942d8d75646", func := "brambleweir/brambleweirlaw4.TournKings", spec := "tournKings", inPlace := ["slices.overlaps[int]"], unfollowed := true, recurses := true, apart := false, narrowed := true }
def TournKingsUptoSaid : Prop := tournKingsUptoRow.holds Try.pinned (OpenSpec.upto tournKingsSpec)

/-- 'brambleweirlaw4.TournRing', WHERE WHAT IT READS IS OF BULK AT MOST 1048576: true; the input reads as it did. -/
def tournRingUptoRow : OpenClaim := { program := "ytabkmceajgpdjaa", sum := "2f32735a4e58f5fe784bb770c2b6c5e435814ad51da04dc337f50942d8d75646", func := "brambleweir/brambleweirlaw4.TournRing", spec := "tournRing", inPlace := ["slices.overlaps[int]"], unfollowed := true, recurses := true, apart := false, narrowed := true }
def TournRingUptoSaid : Prop := tournRingUptoRow.holds Try.pinned (OpenSpec.upto tournRingSpec)

/-- 'brambleweirlaw4.TournLandau', WHERE WHAT IT READS IS OF BULK AT MOST 1048576: true; the input reads as it did. -/
def tournLandauUptoRow : OpenClaim := { program := "ytabkmceajgpdjaa", sum := "2f32735a4e58f5fe784bb770c2b6c5e435814ad51da04dc337f50942d8d75646", func := "brambleweir/brambleweirlaw4.TournLandau", spec := "tournLandau", inPlace := ["slices.overlaps[int]"], unfollowed := true, recurses := true, apart := false, narrowed := true }
def TournLandauUptoSaid : Prop := tournLandauUptoRow.holds Try.pinned (OpenSpec.upto tournLandauSpec)

end Rows
end Go.Proofs.Ytabkmceajgpdjaa
