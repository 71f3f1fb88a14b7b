/-
  NARROWER THAN 'FOR EVERY INPUT', by the rows' own cells (each row's printed sentence says how): ChordalRings: laid · ChordalSays: laid · ChordalTwo: laid · ChordalLess: laid.
  DERIVED. THE GIVEN ROWS OF THIS SEAT. 4 by the template 'for every input the law returns true; each argument reads behind the call as it read before'; 0 by the template 'total and deterministic' (their statements: YtcbalejnkhnppaaDoorTotals.lean).
  GIVEN WITH THE SEED: the statements are not yours to turn. If you find one false, say at which input.
  Laid BY PROGRAM, IN A SANDBOX (cutbox-rows.mjs): the forced cells as the released guide's own fill.sh prints them over the translation 6e067de5c3669a61… (all of the seat's roots in one cut). By AI agents, Wed Nov 11 2026. No macro, syntax, notation, axiom, sorry.
-/
import Derived.Test.YtcbalejnkhnppaaDoorChecked
import GoSem.Claim
import GoSem.ClaimJoined
import GoSem.ClaimMapViews
import Derived.JoinedTies
import Derived.KernelRfl
namespace Go.Proofs.YtcbalejnkhnppaaDoor
/- THE CELL 'sum', in the pinned program and in every row, IS THE sha256 OF THE DUMP (.gsa) THAT YtcbalejnkhnppaaDoorProg.lean LOADS. Nothing in Lean hashes anything: it is a label: what it is worth is what the hold of that sum in a sandbox is worth. -/
noncomputable def Tryd.pinned : Pinned := { name := "ytcbalejnkhnppaadoor", sum := "6e067de5c3669a613f8a3cb87e2b6ad2a153cc818c47c2e07375d2520b29cd56", checked := Tryd.checked }
namespace Rows
def none {H : Type} : Left H := { results := [], args := [] }

/- WHAT THE LISTED PACKAGE-LEVEL VARIABLES READ AS WHEN THE CALL BEGINS. Each datum BY PROGRAM (the guide's laid-datum.mjs) off the statement by which the dump's own 'gosem.cut.vars' lays the variable. In a bare row this is a premise. The card (YtcbalejnkhnppaaDoorCards.lean) ties it to the program's text. -/
def laid_errors_errorType {H : Type} : DataW H := .iface "internal/reflectlite.rtype" (.agg [.ptr (.lit (.string [101, 114, 114, 111, 114]))])

/-- 'brambleweirlaw3.ChordalRings': WHATEVER THE INPUT: true; the input reads as it did. -/
def chordalRingsSpec : ChangeSpec := { name := "chordalRings", fn := fun _ => fun
  | [d1, d2] => { results := [.lit (.bool true)], args := [d1, d2] }
  | _ => none }
def chordalRingsRow : OpenClaim := { program := "ytcbalejnkhnppaadoor", sum := "6e067de5c3669a613f8a3cb87e2b6ad2a153cc818c47c2e07375d2520b29cd56", func := "brambleweir/brambleweirlaw3.ChordalRings", spec := "chordalRings", inPlace := ["internal/reflectlite.ValueOf", "(internal/reflectlite.Value).Type", "(internal/reflectlite.Value).IsNil", "internal/reflectlite.TypeOf", "(internal/reflectlite.Value).Elem", "(internal/reflectlite.Value).Set"], unfollowed := true, recurses := true, named := ["errors.errorType"], apart := false, laid := [("errors.errorType", laid_errors_errorType)] }
def ChordalRingsSaid : Prop := chordalRingsRow.holds Tryd.pinned (OpenSpec.ofChange chordalRingsSpec)

/-- ITS FALSE NEIGHBOUR: 'it returns false'. Refute it at one input. -/
def chordalRingsWrong : ChangeSpec := { name := "chordalRings", fn := fun _ => fun
  | [d1, d2] => { results := [.lit (.bool false)], args := [d1, d2] }
  | _ => none }
def ChordalRingsWrongFalsely : Prop := chordalRingsRow.holds Tryd.pinned (OpenSpec.ofChange chordalRingsWrong)

/-- 'brambleweirlaw3.ChordalSays': WHATEVER THE INPUT: true; the input reads as it did. -/
def chordalSaysSpec : ChangeSpec := { name := "chordalSays", fn := fun _ => fun
  | [d1, d2] => { results := [.lit (.bool true)], args := [d1, d2] }
  | _ => none }
def chordalSaysRow : OpenClaim := { program := "ytcbalejnkhnppaadoor", sum := "6e067de5c3669a613f8a3cb87e2b6ad2a153cc818c47c2e07375d2520b29cd56", func := "brambleweir/brambleweirlaw3.ChordalSays", spec := "chordalSays", inPlace := ["internal/reflectlite.ValueOf", "(internal/reflectlite.Value).Type", "(internal/reflectlite.Value).IsNil", "internal/reflectlite.TypeOf", "(internal/reflectlite.Value).Elem", "(internal/reflectlite.Value).Set"], unfollowed := true, recurses := true, named := ["errors.errorType"], apart := false, laid := [("errors.errorType", laid_errors_errorType)] }
def ChordalSaysSaid : Prop := chordalSaysRow.holds Tryd.pinned (OpenSpec.ofChange chordalSaysSpec)

/-- ITS FALSE NEIGHBOUR: 'it returns false'. Refute it at one input. -/
def chordalSaysWrong : ChangeSpec := { name := "chordalSays", fn := fun _ => fun
  | [d1, d2] => { results := [.lit (.bool false)], args := [d1, d2] }
  | _ => none }
def ChordalSaysWrongFalsely : Prop := chordalSaysRow.holds Tryd.pinned (OpenSpec.ofChange chordalSaysWrong)

/-- 'brambleweirlaw3.ChordalTwo': WHATEVER THE INPUT: true; the input reads as it did. -/
def chordalTwoSpec : ChangeSpec := { name := "chordalTwo", fn := fun _ => fun
  | [d1, d2] => { results := [.lit (.bool true)], args := [d1, d2] }
  | _ => none }
def chordalTwoRow : OpenClaim := { program := "ytcbalejnkhnppaadoor", sum := "6e067de5c3669a613f8a3cb87e2b6ad2a153cc818c47c2e07375d2520b29cd56", func := "brambleweir/brambleweirlaw3.ChordalTwo", spec := "chordalTwo", inPlace := ["internal/reflectlite.ValueOf", "(internal/reflectlite.Value).Type", "(internal/reflectlite.Value).IsNil", "internal/reflectlite.TypeOf", "(internal/reflectlite.Value).Elem", "(internal/reflectlite.Value).Set"], unfollowed := true, recurses := true, named := ["errors.errorType"], apart := false, laid := [("errors.errorType", laid_errors_errorType)] }
def ChordalTwoSaid : Prop := chordalTwoRow.holds Tryd.pinned (OpenSpec.ofChange chordalTwoSpec)

/-- ITS FALSE NEIGHBOUR: 'it returns false'. Refute it at one input. -/
def chordalTwoWrong : ChangeSpec := { name := "chordalTwo", fn := fun _ => fun
  | [d1, d2] => { results := [.lit (.bool false)], args := [d1, d2] }
  | _ => none }
def ChordalTwoWrongFalsely : Prop := chordalTwoRow.holds Tryd.pinned (OpenSpec.ofChange chordalTwoWrong)

/-- 'brambleweirlaw3.ChordalLess': WHATEVER THE INPUT: true; the input reads as it did. -/
def chordalLessSpec : ChangeSpec := { name := "chordalLess", fn := fun _ => fun
  | [d1, d2, d3] => { results := [.lit (.bool true)], args := [d1, d2, d3] }
  | _ => none }
def chordalLessRow : OpenClaim := { program := "ytcbalejnkhnppaadoor", sum := "6e067de5c3669a613f8a3cb87e2b6ad2a153cc818c47c2e07375d2520b29cd56", func := "brambleweir/brambleweirlaw3.ChordalLess", spec := "chordalLess", inPlace := ["internal/reflectlite.ValueOf", "(internal/reflectlite.Value).Type", "(internal/reflectlite.Value).IsNil", "internal/reflectlite.TypeOf", "(internal/reflectlite.Value).Elem", "(internal/reflectlite.Value).Set"], unfollowed := true, recurses := true, named := ["errors.errorType"], apart := false, laid := [("errors.errorType", laid_errors_errorType)] }
def ChordalLessSaid : Prop := chordalLessRow.holds Tryd.pinned (OpenSpec.ofChange chordalLessSpec)

/-- ITS FALSE NEIGHBOUR: 'it returns false'. Refute it at one input. -/
def chordalLessWrong : ChangeSpec := { name := "chordalLess", fn := fun _ => fun
  | [d1, d2, d3] => { results := [.lit (.bool false)], args := [d1, d2, d3] }
  | _ => none }
def ChordalLessWrongFalsely : Prop := chordalLessRow.holds Tryd.pinned (OpenSpec.ofChange chordalLessWrong)

/- THE SECOND FORM. 'bulk': how many values and letters a reading holds, each counted each time it is reached (what is shared counts as often as it is met; a slice's spare places count too). A statement '..UptoSaid' is the law's where the arguments, and the package variables that the reading takes, are together of bulk at most 1048576: NARROWER than '..Said'. Prove '..Said' where nothing that the law and all that it calls make is longer than what came in: it says more and counts as full. Else prove '..UptoSaid'. A law counts once. -/
mutual
def uptoBulk {H : Type} : DataW H → Nat
  | .lit (.string bytes) => bytes.length + 1
  | .lit _ => 1
  | .nil => 1
  | .ptr d => uptoBulk d + 1
  | .slice elems spare => uptoBulkAll elems + uptoBulkAll spare + 1
  | .agg parts => uptoBulkAll parts + 1
  | .iface _ d => uptoBulk d + 1
  | .map entries => uptoBulkEntries entries + 1
  | .held _ => 1
def uptoBulkAll {H : Type} : List (DataW H) → Nat
  | [] => 0
  | d :: r => uptoBulk d + uptoBulkAll r
def uptoBulkEntries {H : Type} : List (Lit × DataW H) → Nat
  | [] => 0
  | x :: r => uptoBulkEntry x + uptoBulkEntries r
def uptoBulkEntry {H : Type} : Lit × DataW H → Nat
  | (.string bytes, d) => bytes.length + uptoBulk d + 1
  | (_, d) => uptoBulk d + 1
 end
def uptoSmall : (H : Type) → List (DataW H) → Bool := fun _ ds => decide (uptoBulkAll ds ≤ 1048576)
def OpenSpec.upto (s : _root_.Go.ChangeSpec) : _root_.Go.OpenSpec := { _root_.Go.OpenSpec.ofChange s with cond := some uptoSmall }

/-- 'brambleweirlaw3.ChordalRings', WHERE WHAT IT READS IS OF BULK AT MOST 1048576: true; the input reads as it did. -/
def chordalRingsUptoRow : OpenClaim := { program := "ytcbalejnkhnppaadoor", sum := "6e067de5c3669a613f8a3cb87e2b6ad2a153cc818c47c2e07375d2520b29cd56", func := "brambleweir/brambleweirlaw3.ChordalRings", spec := "chordalRings", inPlace := ["internal/reflectlite.ValueOf", "(internal/reflectlite.Value).Type", "(internal/reflectlite.Value).IsNil", "internal/reflectlite.TypeOf", "(internal/reflectlite.Value).Elem", "(internal/reflectlite.Value).Set"], unfollowed := true, recurses := true, named := ["errors.errorType"], apart := false, laid := [("errors.errorType", laid_errors_errorType)], narrowed := true }
def ChordalRingsUptoSaid : Prop := chordalRingsUptoRow.holds Tryd.pinned (OpenSpec.upto chordalRingsSpec)

/-- 'brambleweirlaw3.ChordalSays', WHERE WHAT IT READS IS OF BULK AT MOST 1048576: true; the input reads as it did. -/
def chordalSaysUptoRow : OpenClaim := { program := "ytcbalejnkhnppaadoor", sum := "6e067de5c3669a613f8a3cb87e2b6ad2a153cc818c47c2e07375d2520b29cd56", func := "brambleweir/brambleweirlaw3.ChordalSays", spec := "chordalSays", inPlace := ["internal/reflectlite.ValueOf", "(internal/reflectlite.Value).Type", "(internal/reflectlite.Value).IsNil", "internal/reflectlite.TypeOf", "(internal/reflectlite.Value).Elem", "(internal/reflectlite.Value).Set"], unfollowed := true, recurses := true, named := ["errors.errorType"], apart := false, laid := [("errors.errorType", laid_errors_errorType)], narrowed := true }
def ChordalSaysUptoSaid : Prop := chordalSaysUptoRow.holds Tryd.pinned (OpenSpec.upto chordalSaysSpec)

/-- 'brambleweirlaw3.ChordalTwo', WHERE WHAT IT READS IS OF BULK AT MOST 1048576: true; the input reads as it did. -/
def chordalTwoUptoRow : OpenClaim := { program := "ytcbalejnkhnppaadoor", sum := "6e067de5c3669a613f8a3cb87e2b6ad2a153cc818c47c2e07375d2520b29cd56", func := "brambleweir/brambleweirlaw3.ChordalTwo", spec := "chordalTwo", inPlace := ["internal/reflectlite.ValueOf", "(internal/reflectlite.Value).Type", "(internal/reflectlite.Value).IsNil", "internal/reflectlite.TypeOf", "(internal/reflectlite.Value).Elem", "(internal/reflectlite.Value).Set"], unfollowed := true, recurses := true, named := ["errors.errorType"], apart := false, laid := [("errors.errorType", laid_errors_errorType)], narrowed := true }
def ChordalTwoUptoSaid : Prop := chordalTwoUptoRow.holds Tryd.pinned (OpenSpec.upto chordalTwoSpec)

/-- 'brambleweirlaw3.ChordalLess', WHERE WHAT IT READS IS OF BULK AT MOST 1048576: true; the input reads as it did. -/
def chordalLessUptoRow : OpenClaim := { program := "ytcbalejnkhnppaadoor", sum := "6e067de5c3669a613f8a3cb87e2b6ad2a153cc818c47c2e07375d2520b29cd56", func := "brambleweir/brambleweirlaw3.ChordalLess", spec := "chordalLess", inPlace := ["internal/reflectlite.ValueOf", "(internal/reflectlite.Value).Type", "(internal/reflectlite.Value).IsNil", "internal/reflectlite.TypeOf", "(internal/reflectlite.Value).Elem", "(internal/reflectlite.Value).Set"], unfollowed := true, recurses := true, named := ["errors.errorType"], apart := false, laid := [("errors.errorType", laid_errors_errorType)], narrowed := true }
def ChordalLessUptoSaid : Prop := chordalLessUptoRow.holds Tryd.pinned (OpenSpec.upto chordalLessSpec)

end Rows
end Go.Proofs.YtcbalejnkhnppaaDoor
