/-
  No cell of these rows narrows 'for every input' (looked for: loops, veiled, ifaces, maps, wideKeys, modest, calm, conditions, laid).
  DERIVED. THE GIVEN ROWS OF THIS SEAT. 3 by the template 'for every input the law returns true; each argument reads behind the call as it read before'; 0 by the template 'total and deterministic' (their statements: YtfokhmkimckdnaaTotals.lean).
  GIVEN WITH THE SEED: the statements are not yours to turn. If you find one false, say at which input.
  Laid BY PROGRAM, IN A SANDBOX (cutbox-rows.mjs): the forced cells as the released guide's own fill.sh prints them over the translation 98bc71ccc7d2eba0… (all of the seat's roots in one cut). By AI agents, Wed Nov 11 2026. No macro, syntax, notation, axiom, sorry.
-/
import Derived.Test.YtfokhmkimckdnaaChecked
import GoSem.Claim
import GoSem.ClaimJoined
import GoSem.ClaimMapViews
import Derived.JoinedTies
import Derived.KernelRfl
namespace Go.Proofs.Ytfokhmkimckdnaa
/- THE CELL 'sum', in the pinned program and in every row, IS THE sha256 OF THE DUMP (.gsa) THAT YtfokhmkimckdnaaProg.lean LOADS. Nothing in Lean hashes anything: it is a label: what it is worth is what the hold of that sum in a sandbox is worth. -/
noncomputable def Try.pinned : Pinned := { name := "ytfokhmkimckdnaa", sum := "98bc71ccc7d2eba003e34357100a8646d65f5e180200c074f281b0233a61d975", checked := Try.checked }
namespace Rows
def none {H : Type} : Left H := { results := [], args := [] }

/-- 'brambleweirlaw3.CommonWay': WHATEVER THE INPUT: true; the input reads as it did. -/
def commonWaySpec : ChangeSpec := { name := "commonWay", fn := fun _ => fun
  | [d1, d2, d3, d4, d5] => { results := [.lit (.bool true)], args := [d1, d2, d3, d4, d5] }
  | _ => none }
def commonWayRow : OpenClaim := { program := "ytfokhmkimckdnaa", sum := "98bc71ccc7d2eba003e34357100a8646d65f5e180200c074f281b0233a61d975", func := "brambleweir/brambleweirlaw3.CommonWay", spec := "commonWay", unfollowed := true, recurses := true, apart := false }
def CommonWaySaid : Prop := commonWayRow.holds Try.pinned (OpenSpec.ofChange commonWaySpec)

/-- ITS FALSE NEIGHBOUR: 'it returns false'. Refute it at one input. -/
def commonWayWrong : ChangeSpec := { name := "commonWay", fn := fun _ => fun
  | [d1, d2, d3, d4, d5] => { results := [.lit (.bool false)], args := [d1, d2, d3, d4, d5] }
  | _ => none }
def CommonWayWrongFalsely : Prop := commonWayRow.holds Try.pinned (OpenSpec.ofChange commonWayWrong)

/-- 'brambleweirlaw3.CommonThree': WHATEVER THE INPUT: true; the input reads as it did. -/
def commonThreeSpec : ChangeSpec := { name := "commonThree", fn := fun _ => fun
  | [d1, d2, d3, d4, d5] => { results := [.lit (.bool true)], args := [d1, d2, d3, d4, d5] }
  | _ => none }
def commonThreeRow : OpenClaim := { program := "ytfokhmkimckdnaa", sum := "98bc71ccc7d2eba003e34357100a8646d65f5e180200c074f281b0233a61d975", func := "brambleweir/brambleweirlaw3.CommonThree", spec := "commonThree", unfollowed := true, recurses := true, apart := false }
def CommonThreeSaid : Prop := commonThreeRow.holds Try.pinned (OpenSpec.ofChange commonThreeSpec)

/-- ITS FALSE NEIGHBOUR: 'it returns false'. Refute it at one input. -/
def commonThreeWrong : ChangeSpec := { name := "commonThree", fn := fun _ => fun
  | [d1, d2, d3, d4, d5] => { results := [.lit (.bool false)], args := [d1, d2, d3, d4, d5] }
  | _ => none }
def CommonThreeWrongFalsely : Prop := commonThreeRow.holds Try.pinned (OpenSpec.ofChange commonThreeWrong)

/-- 'brambleweirlaw3.CommonUps': WHATEVER THE INPUT: true; the input reads as it did. -/
def commonUpsSpec : ChangeSpec := { name := "commonUps", fn := fun _ => fun
  | [d1, d2, d3] => { results := [.lit (.bool true)], args := [d1, d2, d3] }
  | _ => none }
def commonUpsRow : OpenClaim := { program := "ytfokhmkimckdnaa", sum := "98bc71ccc7d2eba003e34357100a8646d65f5e180200c074f281b0233a61d975", func := "brambleweir/brambleweirlaw3.CommonUps", spec := "commonUps", unfollowed := true, recurses := true, apart := false }
def CommonUpsSaid : Prop := commonUpsRow.holds Try.pinned (OpenSpec.ofChange commonUpsSpec)

/-- ITS FALSE NEIGHBOUR: 'it returns false'. Refute it at one input. -/
def commonUpsWrong : ChangeSpec := { name := "commonUps", fn := fun _ => fun
  | [d1, d2, d3] => { results := [.lit (.bool false)], args := [d1, d2, d3] }
  | _ => none }
def CommonUpsWrongFalsely : Prop := commonUpsRow.holds Try.pinned (OpenSpec.ofChange commonUpsWrong)

/- THE SECOND FORM. 'bulk': how many values and letters a reading holds, each counted each time it is reached (what is shared counts as often as it is met; a slice's spare places count too). A statement '..UptoSaid' is the law's where the arguments, and the package variables that the reading takes, are together of bulk at most 1048576: NARROWER than '..Said'. Prove '..Said' where nothing that the law and all that it calls make is longer than what came in: it says more and counts as full. Else prove '..UptoSaid'. A law counts once. -/
mutual
def uptoBulk {H : Type} : DataW H → Nat
  | .lit (.string bytes) => bytes.length + 1
  | .lit _ => 1
  | .nil => 1
  | .ptr d => uptoBulk d + 1
  | .slice elems spare => uptoBulkAll elems + uptoBulkAll spare + 1
  | .agg parts => uptoBulkAll parts + 1
  | .iface _ d => uptoBulk d + 1
  | .map entries => uptoBulkEntries entries + 1
  | .held _ => 1
def uptoBulkAll {H : Type} : List (DataW H) → Nat
  | [] => 0
  | d :: r => uptoBulk d + uptoBulkAll r
def uptoBulkEntries {H : Type} : List (Lit × DataW H) → Nat
  | [] => 0
  | x :: r => uptoBulkEntry x + uptoBulkEntries r
def uptoBulkEntry {H : Type} : Lit × DataW H → Nat
  | (.string bytes, d) => bytes.length + uptoBulk d + 1
  | (_, d) => uptoBulk d + 1
 end
def uptoSmall : (H : Type) → List (DataW H) → Bool := fun _ ds => decide (uptoBulkAll ds ≤ 1048576)
def OpenSpec.upto (s : _root_.Go.ChangeSpec) : _root_.Go.OpenSpec := { _root_.Go.OpenSpec.ofChange s with cond := some uptoSmall }

/-- 'brambleweirlaw3.CommonWay', WHERE WHAT IT READS IS OF BULK AT MOST 1048576: true; the input reads as it did. -/
def commonWayUptoRow : OpenClaim := { program := "ytfokhmkimckdnaa", sum := "98bc71ccc7d2eba003e34357100a8646d65f5e180200c074f281b0233a61d975", func := "brambleweir/brambleweirlaw3.CommonWay", spec := "commonWay", unfollowed := true, recurses := true, apart := false, narrowed := true }
def CommonWayUptoSaid : Prop := commonWayUptoRow.holds Try.pinned (OpenSpec.upto commonWaySpec)

/-- 'brambleweirlaw3.CommonThree', WHERE WHAT IT READS IS OF BULK AT MOST 1048576: true; the input reads as it did. -/
def commonThreeUptoRow : OpenClaim := { program := "ytfokhmkimckdnaa", sum := "98bc71ccc7d2eba003e34357100a8646d65f5e180200c074f281b0233a61d975", func := "brambleweir/brambleweirlaw3.CommonThree", spec := "commonThree", unfollowed := true, recurses := true, apart := false, narrowed := true }
def CommonThreeUptoSaid : Prop := commonThreeUptoRow.holds Try.pinned (OpenSpec.upto commonThreeSpec)

/-- 'brambleweirlaw3.CommonUps', WHERE WHAT IT READS IS OF BULK AT MOST 1048576: true; the input reads as it did. -/
def commonUpsUptoRow : OpenClaim := { program := "ytfokhmkimckdnaa", sum := "98bc71ccc7d2eba003e34357100a8646d65f5e180200c074f281b0233a61d975", func := "brambleweir/brambleweirlaw3.CommonUps", spec := "commonUps", unfollowed := true, recurses := true, apart := false, narrowed := true }
def CommonUpsUptoSaid : Prop := commonUpsUptoRow.holds Try.pinned (OpenSpec.upto commonUpsSpec)

end Rows
end Go.Proofs.Ytfokhmkimckdnaa
