/-
  No cell of these rows narrows 'for every input' (looked for: loops, veiled, ifaces, maps, wideKeys, modest, calm, conditions, laid).
  DERIVED. THE GIVEN ROWS OF THIS SEAT. 4 by the template 'for every input the law returns true; each argument reads behind the call as it read before'; 0 by the template 'total and deterministic' (their statements: YtlecmgdkoanghaaTotals.lean).
  GIVEN WITH THE SEED: the statements are not yours to turn. If you find one false, say at which input.
  Laid BY PROGRAM, IN A SANDBOX (cutbox-rows.mjs): the forced cells as the released guide's own fill.sh prints them over the translation e9f40abdb765b20b… (all of the seat's roots in one cut). By AI agents, Wed Nov 11 2026. No macro, syntax, notation, axiom, sorry.
-/
import Derived.Test.YtlecmgdkoanghaaChecked
import GoSem.Claim
import GoSem.ClaimJoined
import GoSem.ClaimMapViews
import Derived.JoinedTies
import Derived.KernelRfl
namespace Go.Proofs.Ytlecmgdkoanghaa
/- THE CELL 'sum', in the pinned program and in every row, IS THE sha256 OF THE DUMP (.gsa) THAT YtlecmgdkoanghaaProg.lean LOADS. Nothing in Lean hashes anything: it is a label: what it is worth is what the hold of that sum in a sandbox is worth. -/
noncomputable def Try.pinned : Pinned := { name := "ytlecmgdkoanghaa", sum := "e9f40abdb765b20ba3127dcf16dbd7e8f9e836be0258baa986b353b8fff718ab", checked := Try.checked }
namespace Rows
def none {H : Type} : Left H := { results := [], args := [] }

/-- 'brambleweirlaw3.ColorBy': WHATEVER THE INPUT: true; the input reads as it did. -/
def colorBySpec : ChangeSpec := { name := "colorBy", fn := fun _ => fun
  | [d1, d2, d3] => { results := [.lit (.bool true)], args := [d1, d2, d3] }
  | _ => none }
def colorByRow : OpenClaim := { program := "ytlecmgdkoanghaa", sum := "e9f40abdb765b20ba3127dcf16dbd7e8f9e836be0258baa986b353b8fff718ab", func := "brambleweir/brambleweirlaw3.ColorBy", spec := "colorBy", unfollowed := true, recurses := true, apart := false }
def ColorBySaid : Prop := colorByRow.holds Try.pinned (OpenSpec.ofChange colorBySpec)

/-- ITS FALSE NEIGHBOUR: 'it returns false'. Refute it at one input. -/
def colorByWrong : ChangeSpec := { name := "colorBy", fn := fun _ => fun
  | [d1, d2, d3] => { results := [.lit (.bool false)], args := [d1, d2, d3] }
  | _ => none }
def ColorByWrongFalsely : Prop := colorByRow.holds Try.pinned (OpenSpec.ofChange colorByWrong)

/-- 'brambleweirlaw3.ColorLess': WHATEVER THE INPUT: true; the input reads as it did. -/
def colorLessSpec : ChangeSpec := { name := "colorLess", fn := fun _ => fun
  | [d1, d2, d3] => { results := [.lit (.bool true)], args := [d1, d2, d3] }
  | _ => none }
def colorLessRow : OpenClaim := { program := "ytlecmgdkoanghaa", sum := "e9f40abdb765b20ba3127dcf16dbd7e8f9e836be0258baa986b353b8fff718ab", func := "brambleweir/brambleweirlaw3.ColorLess", spec := "colorLess", unfollowed := true, recurses := true, apart := false }
def ColorLessSaid : Prop := colorLessRow.holds Try.pinned (OpenSpec.ofChange colorLessSpec)

/-- ITS FALSE NEIGHBOUR: 'it returns false'. Refute it at one input. -/
def colorLessWrong : ChangeSpec := { name := "colorLess", fn := fun _ => fun
  | [d1, d2, d3] => { results := [.lit (.bool false)], args := [d1, d2, d3] }
  | _ => none }
def ColorLessWrongFalsely : Prop := colorLessRow.holds Try.pinned (OpenSpec.ofChange colorLessWrong)

/-- 'brambleweirlaw3.ColorLast': WHATEVER THE INPUT: true; the input reads as it did. -/
def colorLastSpec : ChangeSpec := { name := "colorLast", fn := fun _ => fun
  | [d1, d2] => { results := [.lit (.bool true)], args := [d1, d2] }
  | _ => none }
def colorLastRow : OpenClaim := { program := "ytlecmgdkoanghaa", sum := "e9f40abdb765b20ba3127dcf16dbd7e8f9e836be0258baa986b353b8fff718ab", func := "brambleweir/brambleweirlaw3.ColorLast", spec := "colorLast", unfollowed := true, recurses := true, apart := false }
def ColorLastSaid : Prop := colorLastRow.holds Try.pinned (OpenSpec.ofChange colorLastSpec)

/-- ITS FALSE NEIGHBOUR: 'it returns false'. Refute it at one input. -/
def colorLastWrong : ChangeSpec := { name := "colorLast", fn := fun _ => fun
  | [d1, d2] => { results := [.lit (.bool false)], args := [d1, d2] }
  | _ => none }
def ColorLastWrongFalsely : Prop := colorLastRow.holds Try.pinned (OpenSpec.ofChange colorLastWrong)

/-- 'brambleweirlaw3.ColorClique': WHATEVER THE INPUT: true; the input reads as it did. -/
def colorCliqueSpec : ChangeSpec := { name := "colorClique", fn := fun _ => fun
  | [d1, d2] => { results := [.lit (.bool true)], args := [d1, d2] }
  | _ => none }
def colorCliqueRow : OpenClaim := { program := "ytlecmgdkoanghaa", sum := "e9f40abdb765b20ba3127dcf16dbd7e8f9e836be0258baa986b353b8fff718ab", func := "brambleweir/brambleweirlaw3.ColorClique", spec := "colorClique", unfollowed := true, recurses := true, apart := false }
def ColorCliqueSaid : Prop := colorCliqueRow.holds Try.pinned (OpenSpec.ofChange colorCliqueSpec)

/-- ITS FALSE NEIGHBOUR: 'it returns false'. Refute it at one input. -/
def colorCliqueWrong : ChangeSpec := { name := "colorClique", fn := fun _ => fun
  | [d1, d2] => { results := [.lit (.bool false)], args := [d1, d2] }
  | _ => none }
def ColorCliqueWrongFalsely : Prop := colorCliqueRow.holds Try.pinned (OpenSpec.ofChange colorCliqueWrong)

/- THE SECOND FORM. 'bulk': how many values and letters a reading holds, each counted each time it is reached (what is shared counts as often as it is met; a slice's spare places count too). A statement '..UptoSaid' is the law's where the arguments, and the package variables that the reading takes, are together of bulk at most 1048576: NARROWER than '..Said'. Prove '..Said' where nothing that the law and all that it calls make is longer than what came in: it says more and counts as full. Else prove '..UptoSaid'. A law counts once. -/
mutual
def uptoBulk {H : Type} : DataW H → Nat
  | .lit (.string bytes) => bytes.length + 1
  | .lit _ => 1
  | .nil => 1
  | .ptr d => uptoBulk d + 1
  | .slice elems spare => uptoBulkAll elems + uptoBulkAll spare + 1
  | .agg parts => uptoBulkAll parts + 1
  | .iface _ d => uptoBulk d + 1
  | .map entries => uptoBulkEntries entries + 1
  | .held _ => 1
def uptoBulkAll {H : Type} : List (DataW H) → Nat
  | [] => 0
  | d :: r => uptoBulk d + uptoBulkAll r
def uptoBulkEntries {H : Type} : List (Lit × DataW H) → Nat
  | [] => 0
  | x :: r => uptoBulkEntry x + uptoBulkEntries r
def uptoBulkEntry {H : Type} : Lit × DataW H → Nat
  | (.string bytes, d) => bytes.length + uptoBulk d + 1
  | (_, d) => uptoBulk d + 1
 end
def uptoSmall : (H : Type) → List (DataW H) → Bool := fun _ ds => decide (uptoBulkAll ds ≤ 1048576)
def OpenSpec.upto (s : _root_.Go.ChangeSpec) : _root_.Go.OpenSpec := { _root_.Go.OpenSpec.ofChange s with cond := some uptoSmall }

/-- 'brambleweirlaw3.ColorBy', WHERE WHAT IT READS IS OF BULK AT MOST 1048576: true; the input reads as it did. -/
def colorByUptoRow : OpenClaim := { program := "ytlecmgdkoanghaa", sum := "e9f40abdb765b20ba3127dcf16dbd7e8f9e836be0258baa986b353b8fff718ab", func := "brambleweir/brambleweirlaw3.ColorBy", spec := "colorBy", unfollowed := true, recurses := true, apart := false, narrowed := true }
def ColorByUptoSaid : Prop := colorByUptoRow.holds Try.pinned (OpenSpec.upto colorBySpec)

/-- 'brambleweirlaw3.ColorLess', WHERE WHAT IT READS IS OF BULK AT MOST 1048576: true; the input reads as it did. -/
def colorLessUptoRow : OpenClaim := { program := "ytlecmgdkoanghaa", sum := "e9f40abdb765b20ba3127dcf16dbd7e8f9e836be0258baa986b353b8fff718ab", func := "brambleweir/brambleweirlaw3.ColorLess", spec := "colorLess", unfollowed := true, recurses := true, apart := false, narrowed := true }
def ColorLessUptoSaid : Prop := colorLessUptoRow.holds Try.pinned (OpenSpec.upto colorLessSpec)

/-- 'brambleweirlaw3.ColorLast', WHERE WHAT IT READS IS OF BULK AT MOST 1048576: true; the input reads as it did. -/
def colorLastUptoRow : OpenClaim := { program := "ytlecmgdkoanghaa", sum := "e9f40abdb765b20ba3127dcf16dbd7e8f9e836be0258baa986b353b8fff718ab", func := "brambleweir/brambleweirlaw3.ColorLast", spec := "colorLast", unfollowed := true, recurses := true, apart := false, narrowed := true }
def ColorLastUptoSaid : Prop := colorLastUptoRow.holds Try.pinned (OpenSpec.upto colorLastSpec)

/-- 'brambleweirlaw3.ColorClique', WHERE WHAT IT READS IS OF BULK AT MOST 1048576: true; the input reads as it did. -/
def colorCliqueUptoRow : OpenClaim := { program := "ytlecmgdkoanghaa", sum := "e9f40abdb765b20ba3127dcf16dbd7e8f9e836be0258baa986b353b8fff718ab", func := "brambleweir/brambleweirlaw3.ColorClique", spec := "colorClique", unfollowed := true, recurses := true, apart := false, narrowed := true }
def ColorCliqueUptoSaid : Prop := colorCliqueUptoRow.holds Try.pinned (OpenSpec.upto colorCliqueSpec)

end Rows
end Go.Proofs.Ytlecmgdkoanghaa
