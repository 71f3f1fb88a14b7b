/-
  No cell of these rows narrows 'for every input' (looked for: loops, veiled, ifaces, maps, wideKeys, modest, calm, conditions, laid).
  DERIVED. THE GIVEN ROWS OF THIS SEAT. 4 by the template 'for every input the law returns true; each argument reads behind the call as it read before'; 0 by the template 'total and deterministic' (their statements: YtccdnokddkpmgaaTotals.lean).
  GIVEN WITH THE SEED: the statements are not yours to turn. If you find one false, say at which input.
  Laid BY PROGRAM, IN A SANDBOX (cutbox-rows.mjs): the forced cells as the released guide's own fill.sh prints them over the translation cccd05b229591329… (all of the seat's roots in one cut). By AI agents, Wed Nov 11 2026. No macro, syntax, notation, axiom, sorry.
-/
import Derived.Test.YtccdnokddkpmgaaChecked
import GoSem.Claim
import GoSem.ClaimJoined
import GoSem.ClaimMapViews
import Derived.JoinedTies
import Derived.KernelRfl
namespace Go.Proofs.Ytccdnokddkpmgaa
/- THE CELL 'sum', in the pinned program and in every row, IS THE sha256 OF THE DUMP (.gsa) THAT YtccdnokddkpmgaaProg.lean LOADS. Nothing in Lean hashes anything: it is a label: what it is worth is what the hold of that sum in a sandbox is worth. -/
noncomputable def Try.pinned : Pinned := { name := "ytccdnokddkpmgaa", sum := "cccd05b229591329b7aca2b0803a057cdef4a3f2c6ff3ba75e9d09b28a4891e2", checked := Try.checked }
namespace Rows
def none {H : Type} : Left H := { results := [], args := [] }

/-- 'brambleweirlaw3.SpanKruskal': WHATEVER THE INPUT: true; the input reads as it did. -/
def spanKruskalSpec : ChangeSpec := { name := "spanKruskal", fn := fun _ => fun
  | [d1, d2, d3] => { results := [.lit (.bool true)], args := [d1, d2, d3] }
  | _ => none }
def spanKruskalRow : OpenClaim := { program := "ytccdnokddkpmgaa", sum := "cccd05b229591329b7aca2b0803a057cdef4a3f2c6ff3ba75e9d09b28a4891e2", func := "brambleweir/brambleweirlaw3.SpanKruskal", spec := "spanKruskal", unfollowed := true, recurses := true, apart := false }
def SpanKruskalSaid : Prop := spanKruskalRow.holds Try.pinned (OpenSpec.ofChange spanKruskalSpec)

/-- ITS FALSE NEIGHBOUR: 'it returns false'. Refute it at one input. -/
def spanKruskalWrong : ChangeSpec := { name := "spanKruskal", fn := fun _ => fun
  | [d1, d2, d3] => { results := [.lit (.bool false)], args := [d1, d2, d3] }
  | _ => none }
def SpanKruskalWrongFalsely : Prop := spanKruskalRow.holds Try.pinned (OpenSpec.ofChange spanKruskalWrong)

/-- 'brambleweirlaw3.SpanNeck': WHATEVER THE INPUT: true; the input reads as it did. -/
def spanNeckSpec : ChangeSpec := { name := "spanNeck", fn := fun _ => fun
  | [d1, d2, d3, d4] => { results := [.lit (.bool true)], args := [d1, d2, d3, d4] }
  | _ => none }
def spanNeckRow : OpenClaim := { program := "ytccdnokddkpmgaa", sum := "cccd05b229591329b7aca2b0803a057cdef4a3f2c6ff3ba75e9d09b28a4891e2", func := "brambleweir/brambleweirlaw3.SpanNeck", spec := "spanNeck", unfollowed := true, recurses := true, apart := false }
def SpanNeckSaid : Prop := spanNeckRow.holds Try.pinned (OpenSpec.ofChange spanNeckSpec)

/-- ITS FALSE NEIGHBOUR: 'it returns false'. Refute it at one input. -/
def spanNeckWrong : ChangeSpec := { name := "spanNeck", fn := fun _ => fun
  | [d1, d2, d3, d4] => { results := [.lit (.bool false)], args := [d1, d2, d3, d4] }
  | _ => none }
def SpanNeckWrongFalsely : Prop := spanNeckRow.holds Try.pinned (OpenSpec.ofChange spanNeckWrong)

/-- 'brambleweirlaw3.SpanBoruvka': WHATEVER THE INPUT: true; the input reads as it did. -/
def spanBoruvkaSpec : ChangeSpec := { name := "spanBoruvka", fn := fun _ => fun
  | [d1, d2, d3] => { results := [.lit (.bool true)], args := [d1, d2, d3] }
  | _ => none }
def spanBoruvkaRow : OpenClaim := { program := "ytccdnokddkpmgaa", sum := "cccd05b229591329b7aca2b0803a057cdef4a3f2c6ff3ba75e9d09b28a4891e2", func := "brambleweir/brambleweirlaw3.SpanBoruvka", spec := "spanBoruvka", unfollowed := true, recurses := true, apart := false }
def SpanBoruvkaSaid : Prop := spanBoruvkaRow.holds Try.pinned (OpenSpec.ofChange spanBoruvkaSpec)

/-- ITS FALSE NEIGHBOUR: 'it returns false'. Refute it at one input. -/
def spanBoruvkaWrong : ChangeSpec := { name := "spanBoruvka", fn := fun _ => fun
  | [d1, d2, d3] => { results := [.lit (.bool false)], args := [d1, d2, d3] }
  | _ => none }
def SpanBoruvkaWrongFalsely : Prop := spanBoruvkaRow.holds Try.pinned (OpenSpec.ofChange spanBoruvkaWrong)

/-- 'brambleweirlaw3.SpanMore': WHATEVER THE INPUT: true; the input reads as it did. -/
def spanMoreSpec : ChangeSpec := { name := "spanMore", fn := fun _ => fun
  | [d1, d2, d3] => { results := [.lit (.bool true)], args := [d1, d2, d3] }
  | _ => none }
def spanMoreRow : OpenClaim := { program := "ytccdnokddkpmgaa", sum := "cccd05b229591329b7aca2b0803a057cdef4a3f2c6ff3ba75e9d09b28a4891e2", func := "brambleweir/brambleweirlaw3.SpanMore", spec := "spanMore", unfollowed := true, recurses := true, apart := false }
def SpanMoreSaid : Prop := spanMoreRow.holds Try.pinned (OpenSpec.ofChange spanMoreSpec)

/-- ITS FALSE NEIGHBOUR: 'it returns false'. Refute it at one input. -/
def spanMoreWrong : ChangeSpec := { name := "spanMore", fn := fun _ => fun
  | [d1, d2, d3] => { results := [.lit (.bool false)], args := [d1, d2, d3] }
  | _ => none }
def SpanMoreWrongFalsely : Prop := spanMoreRow.holds Try.pinned (OpenSpec.ofChange spanMoreWrong)

/- THE SECOND FORM. 'bulk': how many values and letters a reading holds, each counted each time it is reached (what is shared counts as often as it is met; a slice's spare places count too). A statement '..UptoSaid' is the law's where the arguments, and the package variables that the reading takes, are together of bulk at most 1048576: NARROWER than '..Said'. Prove '..Said' where nothing that the law and all that it calls make is longer than what came in: it says more and counts as full. Else prove '..UptoSaid'. A law counts once. -/
mutual
def uptoBulk {H : Type} : DataW H → Nat
  | .lit (.string bytes) => bytes.length + 1
  | .lit _ => 1
  | .nil => 1
  | .ptr d => uptoBulk d + 1
  | .slice elems spare => uptoBulkAll elems + uptoBulkAll spare + 1
  | .agg parts => uptoBulkAll parts + 1
  | .iface _ d => uptoBulk d + 1
  | .map entries => uptoBulkEntries entries + 1
  | .held _ => 1
def uptoBulkAll {H : Type} : List (DataW H) → Nat
  | [] => 0
  | d :: r => uptoBulk d + uptoBulkAll r
def uptoBulkEntries {H : Type} : List (Lit × DataW H) → Nat
  | [] => 0
  | x :: r => uptoBulkEntry x + uptoBulkEntries r
def uptoBulkEntry {H : Type} : Lit × DataW H → Nat
  | (.string bytes, d) => bytes.length + uptoBulk d + 1
  | (_, d) => uptoBulk d + 1
 end
def uptoSmall : (H : Type) → List (DataW H) → Bool := fun _ ds => decide (uptoBulkAll ds ≤ 1048576)
def OpenSpec.upto (s : _root_.Go.ChangeSpec) : _root_.Go.OpenSpec := { _root_.Go.OpenSpec.ofChange s with cond := some uptoSmall }

/-- 'brambleweirlaw3.SpanKruskal', WHERE WHAT IT READS IS OF BULK AT MOST 1048576: true; the input reads as it did. -/
def spanKruskalUptoRow : OpenClaim := { program := "ytccdnokddkpmgaa", sum := "cccd05b229591329b7aca2b0803a057cdef4a3f2c6ff3ba75e9d09b28a4891e2", func := "brambleweir/brambleweirlaw3.SpanKruskal", spec := "spanKruskal", unfollowed := true, recurses := true, apart := false, narrowed := true }
def SpanKruskalUptoSaid : Prop := spanKruskalUptoRow.holds Try.pinned (OpenSpec.upto spanKruskalSpec)

/-- 'brambleweirlaw3.SpanNeck', WHERE WHAT IT READS IS OF BULK AT MOST 1048576: true; the input reads as it did. -/
def spanNeckUptoRow : OpenClaim := { program := "ytccdnokddkpmgaa", sum := "cccd05b229591329b7aca2b0803a057cdef4a3f2c6ff3ba75e9d09b28a4891e2", func := "brambleweir/brambleweirlaw3.SpanNeck", spec := "spanNeck", unfollowed := true, recurses := true, apart := false, narrowed := true }
def SpanNeckUptoSaid : Prop := spanNeckUptoRow.holds Try.pinned (OpenSpec.upto spanNeckSpec)

/-- 'brambleweirlaw3.SpanBoruvka', WHERE WHAT IT READS IS OF BULK AT MOST 1048576: true; the input reads as it did. -/
def spanBoruvkaUptoRow : OpenClaim := { program := "ytccdnokddkpmgaa", sum := "cccd05b229591329b7aca2b0803a057cdef4a3f2c6ff3ba75e9d09b28a4891e2", func := "brambleweir/brambleweirlaw3.SpanBoruvka", spec := "spanBoruvka", unfollowed := true, recurses := true, apart := false, narrowed := true }
def SpanBoruvkaUptoSaid : Prop := spanBoruvkaUptoRow.holds Try.pinned (OpenSpec.upto spanBoruvkaSpec)

/-- 'brambleweirlaw3.SpanMore', WHERE WHAT IT READS IS OF BULK AT MOST 1048576: true; the input reads as it did. -/
def spanMoreUptoRow : OpenClaim := { program := "ytccdnokddkpmgaa", sum := "cccd05b229591329b7aca2b0803a057cdef4a3f2c6ff3ba75e9d09b28a4891e2", func := "brambleweir/brambleweirlaw3.SpanMore", spec := "spanMore", unfollowed := true, recurses := true, apart := false, narrowed := true }
def SpanMoreUptoSaid : Prop := spanMoreUptoRow.holds Try.pinned (OpenSpec.upto spanMoreSpec)

end Rows
end Go.Proofs.Ytccdnokddkpmgaa
