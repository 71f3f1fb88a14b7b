/-
  No cell of these rows narrows 'for every input' (looked for: loops, veiled, ifaces, maps, wideKeys, modest, calm, conditions, laid).
  DERIVED. THE GIVEN ROWS OF THIS SEAT. 2 by the template 'for every input the law returns true; each argument reads behind the call as it read before'; 0 by the template 'total and deterministic' (their statements: YtfabhdadckohdaaTotals.lean).
  GIVEN WITH THE SEED: the statements are not yours to turn. If you find one false, say at which input.
  Laid BY PROGRAM, IN A SANDBOX (cutbox-rows.mjs): the forced cells as the released guide's own fill.sh prints them over the translation 485d319a8310af07… (all of the seat's roots in one cut). By AI agents, Wed Nov 11 2026. No macro, syntax, notation, axiom, sorry.
-/
import Derived.Test.YtfabhdadckohdaaChecked
import GoSem.Claim
import GoSem.ClaimJoined
import GoSem.ClaimMapViews
import Derived.JoinedTies
import Derived.KernelRfl
namespace Go.Proofs.Ytfabhdadckohdaa
/- THE CELL 'sum', in the pinned program and in every row, IS THE sha256 OF THE DUMP (.gsa) THAT YtfabhdadckohdaaProg.lean LOADS. Nothing in Lean hashes anything: it is a label: what it is worth is what the hold of that sum in a sandbox is worth. -/
noncomputable def Try.pinned : Pinned := { name := "ytfabhdadckohdaa", sum := "485d319a8310af07d312b24e8a1b15981ce649f750752597955dda3c3a765584", checked := Try.checked }
namespace Rows
def none {H : Type} : Left H := { results := [], args := [] }

/-- 'brambleweirtop.TopPeeled': WHATEVER THE INPUT: true; the input reads as it did. -/
def topPeeledSpec : ChangeSpec := { name := "topPeeled", fn := fun _ => fun
  | [d1, d2] => { results := [.lit (.bool true)], args := [d1, d2] }
  | _ => none }
def topPeeledRow : OpenClaim := { program := "ytfabhdadckohdaa", sum := "485d319a8310af07d312b24e8a1b15981ce649f750752597955dda3c3a765584", func := "brambleweir/brambleweirtop.TopPeeled", spec := "topPeeled", unfollowed := true, recurses := true, apart := false }
def TopPeeledSaid : Prop := topPeeledRow.holds Try.pinned (OpenSpec.ofChange topPeeledSpec)

/-- ITS FALSE NEIGHBOUR: 'it returns false'. Refute it at one input. -/
def topPeeledWrong : ChangeSpec := { name := "topPeeled", fn := fun _ => fun
  | [d1, d2] => { results := [.lit (.bool false)], args := [d1, d2] }
  | _ => none }
def TopPeeledWrongFalsely : Prop := topPeeledRow.holds Try.pinned (OpenSpec.ofChange topPeeledWrong)

/-- 'brambleweirtop.TopForests': WHATEVER THE INPUT: true; the input reads as it did. -/
def topForestsSpec : ChangeSpec := { name := "topForests", fn := fun _ => fun
  | [d1, d2, d3] => { results := [.lit (.bool true)], args := [d1, d2, d3] }
  | _ => none }
def topForestsRow : OpenClaim := { program := "ytfabhdadckohdaa", sum := "485d319a8310af07d312b24e8a1b15981ce649f750752597955dda3c3a765584", func := "brambleweir/brambleweirtop.TopForests", spec := "topForests", unfollowed := true, recurses := true, apart := false }
def TopForestsSaid : Prop := topForestsRow.holds Try.pinned (OpenSpec.ofChange topForestsSpec)

/-- ITS FALSE NEIGHBOUR: 'it returns false'. Refute it at one input. -/
def topForestsWrong : ChangeSpec := { name := "topForests", fn := fun _ => fun
  | [d1, d2, d3] => { results := [.lit (.bool false)], args := [d1, d2, d3] }
  | _ => none }
def TopForestsWrongFalsely : Prop := topForestsRow.holds Try.pinned (OpenSpec.ofChange topForestsWrong)

/- THE SECOND FORM. 'bulk': how many values and letters a reading holds, each counted each time it is reached (what is shared counts as often as it is met; a slice's spare places count too). A statement '..UptoSaid' is the law's where the arguments, and the package variables that the reading takes, are together of bulk at most 1048576: NARROWER than '..Said'. Prove '..Said' where nothing that the law and all that it calls make is longer than what came in: it says more and counts as full. Else prove '..UptoSaid'. A law counts once. -/
mutual
def uptoBulk {H : Type} : DataW H → Nat
  | .lit (.string bytes) => bytes.length + 1
  | .lit _ => 1
  | .nil => 1
  | .ptr d => uptoBulk d + 1
  | .slice elems spare => uptoBulkAll elems + uptoBulkAll spare + 1
  | .agg parts => uptoBulkAll parts + 1
  | .iface _ d => uptoBulk d + 1
  | .map entries => uptoBulkEntries entries + 1
  | .held _ => 1
def uptoBulkAll {H : Type} : List (DataW H) → Nat
  | [] => 0
  | d :: r => uptoBulk d + uptoBulkAll r
def uptoBulkEntries {H : Type} : List (Lit × DataW H) → Nat
  | [] => 0
  | x :: r => uptoBulkEntry x + uptoBulkEntries r
def uptoBulkEntry {H : Type} : Lit × DataW H → Nat
  | (.string bytes, d) => bytes.length + uptoBulk d + 1
  | (_, d) => uptoBulk d + 1
 end
def uptoSmall : (H : Type) → List (DataW H) → Bool := fun _ ds => decide (uptoBulkAll ds ≤ 1048576)
def OpenSpec.upto (s : _root_.Go.ChangeSpec) : _root_.Go.OpenSpec := { _root_.Go.OpenSpec.ofChange s with cond := some uptoSmall }

/-- 'brambleweirtop.TopPeeled', WHERE WHAT IT READS IS OF BULK AT MOST 1048576: true; the input reads as it did. -/
def topPeeledUptoRow : OpenClaim := { program := "ytfabhdadckohdaa", sum := "485d319a8310af07d312b24e8a1b15981ce649f750752597955dda3c3a765584", func := "brambleweir/brambleweirtop.TopPeeled", spec := "topPeeled", unfollowed := true, recurses := true, apart := false, narrowed := true }
def TopPeeledUptoSaid : Prop := topPeeledUptoRow.holds Try.pinned (OpenSpec.upto topPeeledSpec)

/-- 'brambleweirtop.TopForests', WHERE WHAT IT READS IS OF BULK AT MOST 1048576: true; the input reads as it did. -/
def topForestsUptoRow : OpenClaim := { program := "ytfabhdadckohdaa", sum := "485d319a8310af07d312b24e8a1b15981ce649f750752597955dda3c3a765584", func := "brambleweir/brambleweirtop.TopForests", spec := "topForests", unfollowed := true, recurses := true, apart := false, narrowed := true }
def TopForestsUptoSaid : Prop := topForestsUptoRow.holds Try.pinned (OpenSpec.upto topForestsSpec)

end Rows
end Go.Proofs.Ytfabhdadckohdaa
