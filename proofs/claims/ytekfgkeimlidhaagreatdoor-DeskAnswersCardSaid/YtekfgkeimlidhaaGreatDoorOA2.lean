import Derived.Test.YtekfgkeimlidhaaGreatDoorOA
import Derived.Test.YtekfgkeimlidhaaGreatDoorMask
import Derived.Test.YtekfgkeimlidhaaGreatDoorAdj
import Derived.Test.YtekfgkeimlidhaaGreatDoorSet2
import Derived.Test.YtekfgkeimlidhaaGreatDoorS0
/- rows of sets and of lines; the set's functions over models that may be undefined -/
set_option linter.all false
set_option maxRecDepth 100000
namespace Go.Proofs.YtekfgkeimlidhaaGreatDoor
open Go.RowKit
open Pl
def maskV (l : List Nat) : List Value := l.map fun m : Nat => Value.int .u64 (m : Int)
def owM (v : Value) (l : List Nat) : Ow := ⟨48, 1, v, l.length, maskV l⟩
def owL (v : Value) (l : List (Int × Int)) : Ow := ⟨89, 2, v, l.length, lineCells l⟩
def ReadsM (W : World) (B : Nat) (A : Option Addr) (l : List Nat) : Prop := Reads W B 1 A l.length (maskV l)
theorem rdM {w W : World} {A : Option Addr} {l : List Nat} (h : Below w.heap.size w W) (hr : ReadsM w w.heap.size A l) : ReadsM W W.heap.size A l := Reads.more (Reads.below hr h) h.size
theorem ReadsM.drewN' {w : World} {B : Nat} {A : Option Addr} {l : List Nat} (h : ReadsM w B A l) (m : Nat) : ReadsM (w.drewN m) B A l := h
theorem ReadsM.ix {W : World} {B : Nat} {A : Option Addr} {l : List Nat} {i : Int} {x : Nat} (h : ReadsM W B A l) (hx : ix l i = some x) :
    ∃ b o, A = some ⟨b, o, none⟩ ∧ b < B ∧ 0 ≤ i ∧ i < (l.length : Int) ∧ W.cell? ⟨b, o + i.toNat, none⟩ = some (.int .u64 (x : Int)) := by
  obtain ⟨h0, h1, h2⟩ := ix_some hx
  obtain ⟨b, o, e, hb, hc⟩ := h.2 (by omega)
  exact ⟨b, o, e, hb, h0, h1, hc _ _ (by simp [maskV, h2])⟩
section
variable {W : World} {B : Nat} {L : List Ow} {v : Value}
theorem OA.open_M {l : List Nat} (h : OA W B L) (ho : owM v l ∈ L) : ∃ A cap, v = .slice A l.length cap ∧ ReadsM W W.heap.size A l := own_reads (h.get ho)
theorem OA.rd_M {cap n : Nat} {A : Option Addr} {l : List Nat} (h : OA W B L) (ho : owM (.slice A n cap) l ∈ L) : ReadsM W W.heap.size A l := by
  obtain ⟨A', cap', e, hr⟩ := h.open_M ho
  cases e; exact hr
theorem OA.open_L {l : List (Int × Int)} (h : OA W B L) (ho : owL v l ∈ L) : ∃ A cap, v = .slice A l.length cap ∧ ReadsL W W.heap.size A l := own_reads (h.get ho)
theorem OA.rd_L {cap n : Nat} {A : Option Addr} {l : List (Int × Int)} (h : OA W B L) (ho : owL (.slice A n cap) l ∈ L) : ReadsL W W.heap.size A l := by
  obtain ⟨A', cap', e, hr⟩ := h.open_L ho
  cases e; exact hr
end
/-! ### the set's functions -/
def sOr (a b : Nat) : Option Nat := if a < 65536 ∧ b < 65536 then some (a ||| b) else none
def sAnd (a b : Nat) : Option Nat := if a < 65536 ∧ b < 65536 then some (a &&& b) else none
def sNot (a b : Nat) : Option Nat := if a < 65536 ∧ b < 65536 then some (ndiff a b) else none
/-- the next number of a set -/
def sInc (a b : Nat) : Option Nat := if a < 65536 ∧ b = 1 then some (a + 1) else none
theorem sInc_some {a b r : Nat} (h : sInc a b = some r) : IntKind.u64.wrap ((a : Int) + 1) = ((a + 1 : Nat) : Int) ∧ a + 1 = r := by
  unfold sInc at h; split at h
  · refine ⟨?_, Option.some.inj h⟩
    simp [IntKind.wrap, IntKind.bits, IntKind.signed]; omega
  · cases h
theorem sOr_some {a b r : Nat} (h : sOr a b = some r) : bits .or .u64 (a : Int) (b : Int) = ((a ||| b : Nat) : Int) ∧ a ||| b = r := by
  unfold sOr at h; split at h
  · rename_i hh; exact ⟨bits_or a b (by omega) (by omega), Option.some.inj h⟩
  · cases h
theorem sAnd_some {a b r : Nat} (h : sAnd a b = some r) : bits .and .u64 (a : Int) (b : Int) = ((a &&& b : Nat) : Int) ∧ a &&& b = r := by
  unfold sAnd at h; split at h
  · rename_i hh; exact ⟨bits_and a b (by omega) (by omega), Option.some.inj h⟩
  · cases h
theorem sNot_some {a b r : Nat} (h : sNot a b = some r) : bits .andNot .u64 (a : Int) (b : Int) = ((ndiff a b : Nat) : Int) ∧ ndiff a b = r := by
  unfold sNot at h; split at h
  · rename_i hh; exact ⟨bits_andNot a b (by omega) (by omega), Option.some.inj h⟩
  · cases h
def sHas (m : Nat) (i : Int) : Option Bool := if m < 65536 ∧ 0 ≤ i ∧ i < 64 then some (m.testBit i.toNat) else none
def sWith (m : Nat) (i : Int) : Option Nat := if m < 65536 ∧ 0 ≤ i ∧ i < 64 then some (m ||| 2 ^ i.toNat) else none
def sWithout (m : Nat) (i : Int) : Option Nat := if m < 65536 ∧ 0 ≤ i ∧ i < 64 then some (ndiff m (2 ^ i.toNat)) else none
def sLen (m : Nat) : Option Int := if m < 65536 then some ((memb m).length : Int) else none
def sList (m : Nat) : Option (List Int) := if m < 65536 then some (membI m) else none
def sBelow (n : Int) : Option Nat := if 0 ≤ n ∧ n ≤ 16 then some (2 ^ n.toNat - 1) else none
theorem s_of {α : Type} {c : Prop} [Decidable c] {x r : α} (h : (if c then some x else none) = some r) : c ∧ x = r := by
  split at h
  · exact ⟨by assumption, Option.some.inj h⟩
  · cases h
theorem sHas_ok {m : Nat} {i : Int} {r : Bool} (w : World) (h : sHas m i = some r) :
    Calls Tryz.prog 57 #[.int .u64 ((m : Nat) : Int), .int .i64 i] w fun e w' => e = .returned (.bool r) ∧ w = w' := by
  obtain ⟨⟨h1, h2, h3⟩, rfl⟩ := s_of h
  obtain ⟨k, rfl⟩ := Int.eq_ofNat_of_zero_le h2
  exact has_any m k w h1 (by omega)
theorem sWith_ok {m : Nat} {i : Int} {r : Nat} (w : World) (h : sWith m i = some r) :
    Calls Tryz.prog 58 #[.int .u64 ((m : Nat) : Int), .int .i64 i] w fun e w' => e = .returned (.int .u64 ((r : Nat) : Int)) ∧ w = w' := by
  obtain ⟨⟨h1, h2, h3⟩, rfl⟩ := s_of h
  obtain ⟨k, rfl⟩ := Int.eq_ofNat_of_zero_le h2
  exact with_any m k w h1 (by omega)
theorem sWithout_ok {m : Nat} {i : Int} {r : Nat} (w : World) (h : sWithout m i = some r) :
    Calls Tryz.prog 60 #[.int .u64 ((m : Nat) : Int), .int .i64 i] w fun e w' => e = .returned (.int .u64 ((r : Nat) : Int)) ∧ w = w' := by
  obtain ⟨⟨h1, h2, h3⟩, rfl⟩ := s_of h
  obtain ⟨k, rfl⟩ := Int.eq_ofNat_of_zero_le h2
  exact without_any m k w h1 (by omega)
theorem sBelow_ok {n : Int} {r : Nat} (w : World) (h : sBelow n = some r) :
    Calls Tryz.prog 64 #[.int .i64 n] w fun e w' => e = .returned (.int .u64 ((r : Nat) : Int)) ∧ w = w' := by
  obtain ⟨⟨h2, h3⟩, rfl⟩ := s_of h
  obtain ⟨k, rfl⟩ := Int.eq_ofNat_of_zero_le h2
  exact below_any k w (by omega)
def good (n : Int) (l : List (Int × Int)) : Prop := (Lit.int .i64 n).wf = true ∧ l.length ≤ maxLen
instance (n : Int) (l : List (Int × Int)) : Decidable (good n l) := by unfold good; exact inferInstance
def mCheck (n : Int) (l : List (Int × Int)) : Option Int := if good n l then some (errG n l) else none
theorem errG_nat {n : Int} {l : List (Int × Int)} (h : errG n l = 0) : ∃ k : Nat, n = k ∧ 1 ≤ k ∧ k ≤ 8 ∧ InL k l := by
  have key : ∀ (l : List (Int × Int)), errLines n l = 0 → ∀ p ∈ l, 0 ≤ p.1 ∧ p.1 < n ∧ 0 ≤ p.2 ∧ p.2 < n := by
    intro l
    induction l with
    | nil => intro _ p hp; cases hp
    | cons q l ih =>
      intro hh p hp
      unfold errLines at hh
      split at hh
      · cases hh
      · rename_i h1
        split at hh
        · cases hh
        · rcases List.mem_cons.1 hp with rfl | hp
          · omega
          · exact ih hh p hp
  unfold errG at h
  split at h
  · cases h
  · rename_i h1
    split at h
    · cases h
    · have h3 := key l h
      exact ⟨n.toNat, by omega, by omega, by omega, fun p hp => by have := h3 p hp; omega⟩
theorem line_info : (Tryz.prog.info? 89).map (fun i => (i.zero, i.size, i.bytes)) = some (some (.agg #[.int .i64 0, .int .i64 0]), 2, 16) := by kernel_rfl
section
variable {ops : Array Oper} {rest : List Oper} {o : Oper} {a : Act} {Q : Exit → Act → World → Prop}
/-- append(out, line), out a row of lines that the call owns -/
theorem wp_appL (W : World) (s x : Operand) (t : TypeId) (ht : Tryz.prog.underlying t = some (.slice 89)) (hgd : o.guard = none)
    (ho : o.op = .call { callee := .builtin .append, args := #[s, x], argTypes := #[t, t] })
    {B : Nat} {e' : TypeId} {L1 L2 : List Ow} {v : Value} {l : List (Int × Int)} {y z : Int} (h : OA W B (L1 ++ owL v l :: L2)) (hs : a.eval s = v) (hx : a.eval x = .slice (some ⟨W.heap.size, 0, none⟩) 1 1)
    (hlen : l.length < 1000000000) (hB : B ≤ W.heap.size)
    (hk : ∀ v' w', OA w' B (L1 ++ owL v' (l ++ [(y, z)]) :: L2) → Below B W w' → wpList Tryz.prog ops Q rest (a.put o.dst v') w') :
    wpList Tryz.prog ops Q (o :: rest) a (W.alloc (.cells #[Value.int .i64 y, Value.int .i64 z] e')) := by
  obtain ⟨i0, hi0, hz0, hz1, hz2⟩ := info_parts line_info
  refine wp_app1 W s x t hgd ho B 89 e' i0 _ 2 16 ht hi0 hz0 hz1 hz2 rfl (by omega) v l.length (lineCells l) hs (h.get (o := owL v l) (by simp)) [.int .i64 y, .int .i64 z] hx rfl (by simp [Value.oneCell']) (by omega) (by omega) hB ?_
  intro v' w' hown hg hblk hb
  refine hk v' w' (h.upd hg ?_ ?_) hb
  · show w'.ownsRow B 89 2 v' (l ++ [(y, z)]).length (lineCells (l ++ [(y, z)]))
    have e : lineCells (l ++ [(y, z)]) = lineCells l ++ [.int .i64 y, .int .i64 z] := by simp [lineCells]
    rw [List.length_append, e]; exact hown
  · rcases hblk with e | e
    · exact .inl e
    · exact .inr ⟨_, e, by omega⟩
end
end Go.Proofs.YtekfgkeimlidhaaGreatDoor
