import Derived.Test.YtfaemblfffbmfaaDoorOA
import Derived.Test.YtfaemblfffbmfaaDoorMask
import Derived.Test.YtfaemblfffbmfaaDoorAdj
import Derived.Test.YtfaemblfffbmfaaDoorSet2
import Derived.Test.YtfaemblfffbmfaaDoorS0
/- rows of sets and of lines; the set's functions over models that may be undefined -/
set_option linter.all false
set_option maxRecDepth 100000
namespace Go.Proofs.YtfaemblfffbmfaaDoor
open Go.RowKit
open Pl
def maskV (l : List Nat) : List Value := l.map fun m : Nat => Value.int .u64 (m : Int)
def owM (v : Value) (l : List Nat) : Ow := ⟨48, 1, v, l.length, maskV l⟩
def ReadsM (W : World) (B : Nat) (A : Option Addr) (l : List Nat) : Prop := Reads W B 1 A l.length (maskV l)
theorem rdM {w W : World} {A : Option Addr} {l : List Nat} (h : Below w.heap.size w W) (hr : ReadsM w w.heap.size A l) : ReadsM W W.heap.size A l := Reads.more (Reads.below hr h) h.size
theorem ReadsM.drewN' {w : World} {B : Nat} {A : Option Addr} {l : List Nat} (h : ReadsM w B A l) (m : Nat) : ReadsM (w.drewN m) B A l := h
theorem ReadsM.ix {W : World} {B : Nat} {A : Option Addr} {l : List Nat} {i : Int} {x : Nat} (h : ReadsM W B A l) (hx : ix l i = some x) :
    ∃ b o, A = some ⟨b, o, none⟩ ∧ b < B ∧ 0 ≤ i ∧ i < (l.length : Int) ∧ W.cell? ⟨b, o + i.toNat, none⟩ = some (.int .u64 (x : Int)) := by
  obtain ⟨h0, h1, h2⟩ := ix_some hx
  obtain ⟨b, o, e, hb, hc⟩ := h.2 (by omega)
  exact ⟨b, o, e, hb, h0, h1, hc _ _ (by simp [maskV, h2])⟩
section
variable {W : World} {B : Nat} {L : List Ow} {v : Value}
theorem OA.open_M {l : List Nat} (h : OA W B L) (ho : owM v l ∈ L) : ∃ A cap, v = .slice A l.length cap ∧ ReadsM W W.heap.size A l := own_reads (h.get ho)
theorem OA.rd_M {cap n : Nat} {A : Option Addr} {l : List Nat} (h : OA W B L) (ho : owM (.slice A n cap) l ∈ L) : ReadsM W W.heap.size A l := by
  obtain ⟨A', cap', e, hr⟩ := h.open_M ho
  cases e; exact hr
end
/-! ### the set's functions -/
def sOr (a b : Nat) : Option Nat := if a < 65536 ∧ b < 65536 then some (a ||| b) else none
def sAnd (a b : Nat) : Option Nat := if a < 65536 ∧ b < 65536 then some (a &&& b) else none
def sNot (a b : Nat) : Option Nat := if a < 65536 ∧ b < 65536 then some (ndiff a b) else none
/-- the next number of a set -/
def sInc (a b : Nat) : Option Nat := if a < 65536 ∧ b = 1 then some (a + 1) else none
theorem sInc_some {a b r : Nat} (h : sInc a b = some r) : IntKind.u64.wrap ((a : Int) + 1) = ((a + 1 : Nat) : Int) ∧ a + 1 = r := by
  unfold sInc at h; split at h
  · refine ⟨?_, Option.some.inj h⟩
    simp [IntKind.wrap, IntKind.bits, IntKind.signed]; omega
  · cases h
theorem sOr_some {a b r : Nat} (h : sOr a b = some r) : bits .or .u64 (a : Int) (b : Int) = ((a ||| b : Nat) : Int) ∧ a ||| b = r := by
  unfold sOr at h; split at h
  · rename_i hh; exact ⟨bits_or a b (by omega) (by omega), Option.some.inj h⟩
  · cases h
theorem sAnd_some {a b r : Nat} (h : sAnd a b = some r) : bits .and .u64 (a : Int) (b : Int) = ((a &&& b : Nat) : Int) ∧ a &&& b = r := by
  unfold sAnd at h; split at h
  · rename_i hh; exact ⟨bits_and a b (by omega) (by omega), Option.some.inj h⟩
  · cases h
theorem sNot_some {a b r : Nat} (h : sNot a b = some r) : bits .andNot .u64 (a : Int) (b : Int) = ((ndiff a b : Nat) : Int) ∧ ndiff a b = r := by
  unfold sNot at h; split at h
  · rename_i hh; exact ⟨bits_andNot a b (by omega) (by omega), Option.some.inj h⟩
  · cases h
def sHas (m : Nat) (i : Int) : Option Bool := if m < 65536 ∧ 0 ≤ i ∧ i < 64 then some (m.testBit i.toNat) else none
def sWith (m : Nat) (i : Int) : Option Nat := if m < 65536 ∧ 0 ≤ i ∧ i < 64 then some (m ||| 2 ^ i.toNat) else none
def sWithout (m : Nat) (i : Int) : Option Nat := if m < 65536 ∧ 0 ≤ i ∧ i < 64 then some (ndiff m (2 ^ i.toNat)) else none
def sLen (m : Nat) : Option Int := if m < 65536 then some ((memb m).length : Int) else none
def sList (m : Nat) : Option (List Int) := if m < 65536 then some (membI m) else none
def sBelow (n : Int) : Option Nat := if 0 ≤ n ∧ n ≤ 16 then some (2 ^ n.toNat - 1) else none
theorem s_of {α : Type} {c : Prop} [Decidable c] {x r : α} (h : (if c then some x else none) = some r) : c ∧ x = r := by
  split at h
  · exact ⟨by assumption, Option.some.inj h⟩
  · cases h
theorem sHas_ok {m : Nat} {i : Int} {r : Bool} (w : World) (h : sHas m i = some r) :
    Calls Tryd.prog 50 #[.int .u64 ((m : Nat) : Int), .int .i64 i] w fun e w' => e = .returned (.bool r) ∧ w = w' := by
  obtain ⟨⟨h1, h2, h3⟩, rfl⟩ := s_of h
  obtain ⟨k, rfl⟩ := Int.eq_ofNat_of_zero_le h2
  exact has_any m k w h1 (by omega)
theorem sWith_ok {m : Nat} {i : Int} {r : Nat} (w : World) (h : sWith m i = some r) :
    Calls Tryd.prog 27 #[.int .u64 ((m : Nat) : Int), .int .i64 i] w fun e w' => e = .returned (.int .u64 ((r : Nat) : Int)) ∧ w = w' := by
  obtain ⟨⟨h1, h2, h3⟩, rfl⟩ := s_of h
  obtain ⟨k, rfl⟩ := Int.eq_ofNat_of_zero_le h2
  exact with_any m k w h1 (by omega)
theorem sLen_ok {m : Nat} {r : Int} (w : World) (h : sLen m = some r) :
    Calls Tryd.prog 22 #[.int .u64 ((m : Nat) : Int)] w fun e w' => e = .returned (.int .i64 r) ∧ Below w.heap.size w w' := by
  obtain ⟨h1, rfl⟩ := s_of h
  exact len_any m h1 w
theorem sList_ok {m : Nat} {r : List Int} (w : World) (h : sList m = some r) :
    Calls Tryd.prog 25 #[.int .u64 ((m : Nat) : Int)] w (PostG (fun v => v) (fun v => owI v r) w.heap.size w) := by
  obtain ⟨h1, rfl⟩ := s_of h
  exact list_any m h1 w
theorem sBelow_ok {n : Int} {r : Nat} (w : World) (h : sBelow n = some r) :
    Calls Tryd.prog 21 #[.int .i64 n] w fun e w' => e = .returned (.int .u64 ((r : Nat) : Int)) ∧ w = w' := by
  obtain ⟨⟨h2, h3⟩, rfl⟩ := s_of h
  obtain ⟨k, rfl⟩ := Int.eq_ofNat_of_zero_le h2
  exact below_any k w (by omega)
end Go.Proofs.YtfaemblfffbmfaaDoor
