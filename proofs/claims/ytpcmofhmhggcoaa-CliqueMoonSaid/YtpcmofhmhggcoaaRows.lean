/-
  No cell of these rows narrows 'for every input' (looked for: loops, veiled, ifaces, maps, wideKeys, modest, calm, conditions, laid).
  DERIVED. THE GIVEN ROWS OF THIS SEAT. 3 by the template 'for every input the law returns true; each argument reads behind the call as it read before'; 0 by the template 'total and deterministic' (their statements: YtpcmofhmhggcoaaTotals.lean).
  GIVEN WITH THE SEED: the statements are not yours to turn. If you find one false, say at which input.
  Laid BY PROGRAM, IN A SANDBOX (cutbox-rows.mjs): the forced cells as the released guide's own fill.sh prints them over the translation b82fb310a8ca9dcc… (all of the seat's roots in one cut). By AI agents, Wed Nov 11 2026. No macro, syntax, notation, axiom, sorry.
-/
import Derived.Test.YtpcmofhmhggcoaaChecked
import GoSem.Claim
import GoSem.ClaimJoined
import GoSem.ClaimMapViews
import Derived.JoinedTies
import Derived.KernelRfl
namespace Go.Proofs.Ytpcmofhmhggcoaa
/- THE CELL 'sum', in the pinned program and in every row, IS THE sha256 OF THE DUMP (.gsa) THAT YtpcmofhmhggcoaaProg.lean LOADS. Nothing in Lean hashes anything: it is a label: what it is worth is what the hold of that sum in a sandbox is worth. -/
noncomputable def Try.pinned : Pinned := { name := "ytpcmofhmhggcoaa", sum := "b82fb310a8ca9dcceb520bc23b28a7a90dcd94fa9f4252bf9f964a29e42bc6e8", checked := Try.checked }
namespace Rows
def none {H : Type} : Left H := { results := [], args := [] }

/-- 'brambleweirlaw3.CliqueMoon': WHATEVER THE INPUT: true; the input reads as it did. -/
def cliqueMoonSpec : ChangeSpec := { name := "cliqueMoon", fn := fun _ => fun
  | [d1, d2] => { results := [.lit (.bool true)], args := [d1, d2] }
  | _ => none }
def cliqueMoonRow : OpenClaim := { program := "ytpcmofhmhggcoaa", sum := "b82fb310a8ca9dcceb520bc23b28a7a90dcd94fa9f4252bf9f964a29e42bc6e8", func := "brambleweir/brambleweirlaw3.CliqueMoon", spec := "cliqueMoon", unfollowed := true, recurses := true, apart := false }
def CliqueMoonSaid : Prop := cliqueMoonRow.holds Try.pinned (OpenSpec.ofChange cliqueMoonSpec)

/-- ITS FALSE NEIGHBOUR: 'it returns false'. Refute it at one input. -/
def cliqueMoonWrong : ChangeSpec := { name := "cliqueMoon", fn := fun _ => fun
  | [d1, d2] => { results := [.lit (.bool false)], args := [d1, d2] }
  | _ => none }
def CliqueMoonWrongFalsely : Prop := cliqueMoonRow.holds Try.pinned (OpenSpec.ofChange cliqueMoonWrong)

/-- 'brambleweirlaw3.CliqueTuran': WHATEVER THE INPUT: true; the input reads as it did. -/
def cliqueTuranSpec : ChangeSpec := { name := "cliqueTuran", fn := fun _ => fun
  | [d1, d2] => { results := [.lit (.bool true)], args := [d1, d2] }
  | _ => none }
def cliqueTuranRow : OpenClaim := { program := "ytpcmofhmhggcoaa", sum := "b82fb310a8ca9dcceb520bc23b28a7a90dcd94fa9f4252bf9f964a29e42bc6e8", func := "brambleweir/brambleweirlaw3.CliqueTuran", spec := "cliqueTuran", unfollowed := true, recurses := true, apart := false }
def CliqueTuranSaid : Prop := cliqueTuranRow.holds Try.pinned (OpenSpec.ofChange cliqueTuranSpec)

/-- ITS FALSE NEIGHBOUR: 'it returns false'. Refute it at one input. -/
def cliqueTuranWrong : ChangeSpec := { name := "cliqueTuran", fn := fun _ => fun
  | [d1, d2] => { results := [.lit (.bool false)], args := [d1, d2] }
  | _ => none }
def CliqueTuranWrongFalsely : Prop := cliqueTuranRow.holds Try.pinned (OpenSpec.ofChange cliqueTuranWrong)

/-- 'brambleweirlaw3.CliqueRamsey': WHATEVER THE INPUT: true; the input reads as it did. -/
def cliqueRamseySpec : ChangeSpec := { name := "cliqueRamsey", fn := fun _ => fun
  | [d1, d2] => { results := [.lit (.bool true)], args := [d1, d2] }
  | _ => none }
def cliqueRamseyRow : OpenClaim := { program := "ytpcmofhmhggcoaa", sum := "b82fb310a8ca9dcceb520bc23b28a7a90dcd94fa9f4252bf9f964a29e42bc6e8", func := "brambleweir/brambleweirlaw3.CliqueRamsey", spec := "cliqueRamsey", unfollowed := true, recurses := true, apart := false }
def CliqueRamseySaid : Prop := cliqueRamseyRow.holds Try.pinned (OpenSpec.ofChange cliqueRamseySpec)

/-- ITS FALSE NEIGHBOUR: 'it returns false'. Refute it at one input. -/
def cliqueRamseyWrong : ChangeSpec := { name := "cliqueRamsey", fn := fun _ => fun
  | [d1, d2] => { results := [.lit (.bool false)], args := [d1, d2] }
  | _ => none }
def CliqueRamseyWrongFalsely : Prop := cliqueRamseyRow.holds Try.pinned (OpenSpec.ofChange cliqueRamseyWrong)

/- THE SECOND FORM. 'bulk': how many values and letters a reading holds, each counted each time it is reached (what is shared counts as often as it is met; a slice's spare places count too). A statement '..UptoSaid' is the law's where the arguments, and the package variables that the reading takes, are together of bulk at most 1048576: NARROWER than '..Said'. Prove '..Said' where nothing that the law and all that it calls make is longer than what came in: it says more and counts as full. Else prove '..UptoSaid'. A law counts once. -/
mutual
def uptoBulk {H : Type} : DataW H → Nat
  | .lit (.string bytes) => bytes.length + 1
  | .lit _ => 1
  | .nil => 1
  | .ptr d => uptoBulk d + 1
  | .slice elems spare => uptoBulkAll elems + uptoBulkAll spare + 1
  | .agg parts => uptoBulkAll parts + 1
  | .iface _ d => uptoBulk d + 1
  | .map entries => uptoBulkEntries entries + 1
  | .held _ => 1
def uptoBulkAll {H : Type} : List (DataW H) → Nat
  | [] => 0
  | d :: r => uptoBulk d + uptoBulkAll r
def uptoBulkEntries {H : Type} : List (Lit × DataW H) → Nat
  | [] => 0
  | x :: r => uptoBulkEntry x + uptoBulkEntries r
def uptoBulkEntry {H : Type} : Lit × DataW H → Nat
  | (.string bytes, d) => bytes.length + uptoBulk d + 1
  | (_, d) => uptoBulk d + 1
 end
def uptoSmall : (H : Type) → List (DataW H) → Bool := fun _ ds => decide (uptoBulkAll ds ≤ 1048576)
def OpenSpec.upto (s : _root_.Go.ChangeSpec) : _root_.Go.OpenSpec := { _root_.Go.OpenSpec.ofChange s with cond := some uptoSmall }

/-- 'brambleweirlaw3.CliqueMoon', WHERE WHAT IT READS IS OF BULK AT MOST 1048576: true; the input reads as it did. -/
def cliqueMoonUptoRow : OpenClaim := { program := "ytpcmofhmhggcoaa", sum := "b82fb310a8ca9dcceb520bc23b28a7a90dcd94fa9f4252bf9f964a29e42bc6e8", func := "brambleweir/brambleweirlaw3.CliqueMoon", spec := "cliqueMoon", unfollowed := true, recurses := true, apart := false, narrowed := true }
def CliqueMoonUptoSaid : Prop := cliqueMoonUptoRow.holds Try.pinned (OpenSpec.upto cliqueMoonSpec)

/-- 'brambleweirlaw3.CliqueTuran', WHERE WHAT IT READS IS OF BULK AT MOST 1048576: true; the input reads as it did. -/
def cliqueTuranUptoRow : OpenClaim := { program := "ytpcmofhmhggcoaa", sum := "b82fb310a8ca9dcceb520bc23b28a7a90dcd94fa9f4252bf9f964a29e42bc6e8", func := "brambleweir/brambleweirlaw3.CliqueTuran", spec := "cliqueTuran", unfollowed := true, recurses := true, apart := false, narrowed := true }
def CliqueTuranUptoSaid : Prop := cliqueTuranUptoRow.holds Try.pinned (OpenSpec.upto cliqueTuranSpec)

/-- 'brambleweirlaw3.CliqueRamsey', WHERE WHAT IT READS IS OF BULK AT MOST 1048576: true; the input reads as it did. -/
def cliqueRamseyUptoRow : OpenClaim := { program := "ytpcmofhmhggcoaa", sum := "b82fb310a8ca9dcceb520bc23b28a7a90dcd94fa9f4252bf9f964a29e42bc6e8", func := "brambleweir/brambleweirlaw3.CliqueRamsey", spec := "cliqueRamsey", unfollowed := true, recurses := true, apart := false, narrowed := true }
def CliqueRamseyUptoSaid : Prop := cliqueRamseyUptoRow.holds Try.pinned (OpenSpec.upto cliqueRamseySpec)

end Rows
end Go.Proofs.Ytpcmofhmhggcoaa
