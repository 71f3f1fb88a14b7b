import Derived.Test.YtoiidngnlhhanaaDoorTp
import Derived.Test.YtoiidngnlhhanaaDoorW4
import Derived.Test.YtoiidngnlhhanaaDoorW5
import Derived.Test.YtoiidngnlhhanaaDoorRea
import Derived.Test.YtoiidngnlhhanaaDoorC2
import Derived.Test.YtoiidngnlhhanaaDoorW6
import Derived.Test.YtoiidngnlhhanaaDoorMK
/- what close.All, chain.Longest and strong.Parts come to -/
set_option linter.all false
set_option maxRecDepth 100000
namespace Go.Proofs.YtoiidngnlhhanaaDoor
open Go.RowKit Go.Shelf Pl To
/-- a way of one line or more -/
inductive Wy (b : Nat → Nat → Bool) (i : Nat) : Nat → Prop
  | one {j} : b i j = true → Wy b i j
  | more {j x} : Wy b i j → b j x = true → Wy b i x
theorem Wy.first {b : Nat → Nat → Bool} {i j : Nat} (h : Wy b i j) : ∃ x, b i x = true ∧ (x = j ∨ Wy b x j) := by
  induction h with
  | one h => exact ⟨_, h, .inl rfl⟩
  | more h h2 ih =>
    obtain ⟨x, h1, h3⟩ := ih
    rcases h3 with rfl | h3
    · exact ⟨_, h1, .inr (.one h2)⟩
    · exact ⟨x, h1, .inr (.more h3 h2)⟩
theorem Wy.trans {b : Nat → Nat → Bool} {i j x : Nat} (h : Wy b i j) (h2 : Wy b j x) : Wy b i x := by
  induction h2 with
  | one h3 => exact .more h h3
  | more _ h3 ih => exact .more ih h3
def rM (xs : List Nat) (i j : Nat) : Bool := (xs.getD i 0).testBit j
section
variable {k : Nat}
theorem cr_L2 (h8 : k ≤ 8) {x0 : List Nat} {t : Nat} (ht : t < k) : ∀ (g j : Nat) (xs : List Nat), k < j + g → j ≤ k → xs.length = k → (∀ i, xs.getD i 0 < 2 ^ k) →
    (∀ i x, i < k → rM xs i x = if i < j then (rM x0 i x || (rM x0 i t && rM x0 t x)) else rM x0 i x) →
    ∃ ys, close_reach_L2 300 (k : Int) (t : Int) g (j : Int) xs = some ys ∧ ys.length = k ∧ (∀ i, ys.getD i 0 < 2 ^ k) ∧ ∀ i x, i < k → rM ys i x = (rM x0 i x || (rM x0 i t && rM x0 t x))
  | 0, j, xs, h, hj, _, _, _ => by omega
  | g+1, j, xs, h, hj, hl, hlt, hr => by
    have hp := Nat.pow_le_pow_right (n := 2) (by omega) h8
    rw [close_reach_L2_s]
    by_cases c : j < k
    · have hj2 := hlt j; have ht2 := hlt t
      rw [if_pos (by omega), ix_getD (by omega), Option.bind_some, sHas_ev (by omega) (by omega), Option.bind_some]
      have hrt : ∀ x, rM xs t x = rM x0 t x := fun x => by
        rw [hr t x ht]
        split
        · cases rM x0 t x <;> cases rM x0 t t <;> rfl
        · rfl
      have hrj : ∀ x, rM xs j x = rM x0 j x := fun x => by rw [hr j x c, if_neg (by omega)]
      cases hb : (xs.getD j 0).testBit t
      · rw [if_neg (by decide), w64n (by omega)]
        refine cr_L2 h8 ht g (j+1) xs (by omega) (by omega) hl hlt fun i x hi => ?_
        rw [hr i x hi]
        by_cases e : i = j
        · subst e
          have : rM x0 i t = false := by rw [← hrj]; exact hb
          rw [if_neg (by omega), if_pos (by omega), this, Bool.false_and, Bool.or_false]
        · by_cases e2 : i < j
          · rw [if_pos e2, if_pos (by omega)]
          · rw [if_neg e2, if_neg (by omega)]
      · have hor : sOr (xs.getD j 0) (xs.getD t 0) = some (xs.getD j 0 ||| xs.getD t 0) := by unfold sOr; rw [if_pos ⟨by omega, by omega⟩]
        rw [if_pos rfl, Option.bind_some, ix_getD (by omega), Option.bind_some, hor, Option.bind_some, st_nat (by omega), Option.bind_some, w64n (by omega)]
        refine cr_L2 h8 ht g (j+1) _ (by omega) (by omega) (by rw [List.length_set]; exact hl) (fun i => ?_) fun i x hi => ?_
        · rw [getD_set _ _ _ _ _ (by omega)]
          split
          · exact Nat.or_lt_two_pow hj2 ht2
          · exact hlt i
        · unfold rM
          rw [getD_set _ _ _ _ _ (by omega)]
          by_cases e : i = j
          · subst e
            have h1 : rM x0 i t = true := by rw [← hrj]; exact hb
            have h2 := hrj x; have h3 := hrt x
            unfold rM at h1 h2 h3
            rw [if_pos rfl, if_pos (by omega), Nat.testBit_or, h2, h3, h1, Bool.true_and]
          · have := hr i x hi
            unfold rM at this
            rw [if_neg e, this]
            by_cases e2 : i < j
            · rw [if_pos e2, if_pos (by omega)]
            · rw [if_neg e2, if_neg (by omega)]
    · have : j = k := by omega
      subst this
      rw [if_neg (by omega)]
      exact ⟨xs, rfl, hl, hlt, fun i x hi => by rw [hr i x hi, if_pos hi]⟩
structure Wsh (k : Nat) (b : Nat → Nat → Bool) (t : Nat) (xs : List Nat) : Prop where
  len : xs.length = k
  lt : ∀ i, xs.getD i 0 < 2 ^ k
  has : ∀ i j, i < k → b i j = true → rM xs i j = true
  snd : ∀ i j, i < k → rM xs i j = true → Wy b i j
  tr : ∀ m, m < t → ∀ i j, i < k → rM xs i m = true → rM xs m j = true → rM xs i j = true
theorem Wsh.step {b : Nat → Nat → Bool} {t : Nat} {xs ys : List Nat} (h : Wsh k b t xs) (ht : t < k) (h1 : ys.length = k) (h2 : ∀ i, ys.getD i 0 < 2 ^ k) (h3 : ∀ i x, i < k → rM ys i x = (rM xs i x || (rM xs i t && rM xs t x))) : Wsh k b (t+1) ys where
  len := h1
  lt := h2
  has := fun i j hi hb => by rw [h3 i j hi, h.has i j hi hb, Bool.true_or]
  snd := fun i j hi hr => by
    rw [h3 i j hi, Bool.or_eq_true, Bool.and_eq_true] at hr
    rcases hr with hr | ⟨q1, q2⟩
    · exact h.snd i j hi hr
    · exact (h.snd i t hi q1).trans (h.snd t j ht q2)
  tr := fun m hm i j hi h4 h5 => by
    have hmk : m < k := by omega
    rw [h3 i m hi, Bool.or_eq_true, Bool.and_eq_true] at h4
    rw [h3 m j hmk, Bool.or_eq_true, Bool.and_eq_true] at h5
    rw [h3 i j hi, Bool.or_eq_true, Bool.and_eq_true]
    by_cases e : m = t
    · subst e
      rcases h4 with h4 | ⟨h4, _⟩ <;> rcases h5 with h5 | ⟨_, h5⟩ <;> exact .inr ⟨h4, h5⟩
    · have hm' : m < t := by omega
      rcases h4 with h4 | ⟨h4, h4'⟩ <;> rcases h5 with h5 | ⟨h5, h5'⟩
      · exact .inl (h.tr m hm' i j hi h4 h5)
      · exact .inr ⟨h.tr m hm' i t hi h4 h5, h5'⟩
      · exact .inr ⟨h4, h.tr m hm' t j ht h4' h5⟩
      · exact .inr ⟨h4, h5'⟩
theorem cr_L1 (h8 : k ≤ 8) {b : Nat → Nat → Bool} : ∀ (g t : Nat) (xs : List Nat), k < t + g → t ≤ k → Wsh k b t xs → ∃ ys, close_reach_L1 300 (k : Int) g (t : Int) xs = some ys ∧ Wsh k b k ys
  | 0, t, xs, h, ht, _ => by omega
  | g+1, t, xs, h, ht, hW => by
    rw [close_reach_L1_s]
    by_cases c : t < k
    · obtain ⟨ys, y1, y2, y3, y4⟩ := cr_L2 h8 (x0 := xs) c 300 0 xs (by omega) (by omega) hW.len hW.lt (fun i x hi => by rw [if_neg (by omega)])
      rw [if_pos (by omega), show close_reach_L2 300 (k : Int) (t : Int) 300 0 xs = _ from y1, Option.bind_some, w64n (by omega)]
      exact cr_L1 h8 g (t+1) ys (by omega) (by omega) (hW.step c y2 y3 y4)
    · have : t = k := by omega
      subst this
      rw [if_neg (by omega)]
      exact ⟨xs, rfl, hW⟩
theorem Wsh.iff {b : Nat → Nat → Bool} {xs : List Nat} (hbk : ∀ i j, b i j = true → i < k ∧ j < k) (h : Wsh k b k xs) {i j : Nat} (hi : i < k) : rM xs i j = true ↔ Wy b i j := by
  refine ⟨h.snd i j hi, fun hw => ?_⟩
  induction hw with
  | one q => exact h.has _ _ hi q
  | more _ q ih => exact h.tr _ (hbk _ _ q).1 _ _ hi ih (h.has _ _ (hbk _ _ q).1 q)
theorem ca_L1 {ys : List Nat} (hl : ys.length ≤ 16) (hlt : ∀ i, ys.getD i 0 < 65536) : ∀ (g j : Nat), ys.length < j + g → j ≤ ys.length → close_All_L1 300 ys g (j : Int) ((ys.take j).map membI) = some (ys.map membI)
  | 0, j, h, hj => by omega
  | g+1, j, h, hj => by
    rw [close_All_L1_s]
    by_cases c : j < ys.length
    · have hL : sList (ys.getD j 0) = some (membI (ys.getD j 0)) := by unfold sList; rw [if_pos (hlt j)]
      rw [if_pos (by omega), ix_getD c, Option.bind_some, hL, Option.bind_some, w64n (by omega)]
      unfold app
      rw [if_pos (by rw [List.length_map, List.length_take]; omega), Option.bind_some]
      have e : (ys.take j).map membI ++ [membI (ys.getD j 0)] = (ys.take (j+1)).map membI := by
        rw [List.take_succ_eq_append_getElem c, List.map_append]
        simp [List.getD, c]
      rw [e]
      exact ca_L1 hl hlt g (j+1) (by omega) (by omega)
    · have : j = ys.length := by omega
      subst this
      rw [if_neg (by omega), List.take_length]
/-! ### topo.Deep, chain.Longest -/
def Bd (xs : List Int) (c : Nat) : Prop := ∀ x ∈ xs, 0 ≤ x ∧ x ≤ (c : Int)
theorem bd_ix {xs : List Int} {c i : Nat} (h : Bd xs c) (hi : i < xs.length) : ix xs (i : Int) = some (xs.getD i 0) ∧ 0 ≤ xs.getD i 0 ∧ xs.getD i 0 ≤ (c : Int) := by
  refine ⟨ix_at 0 hi, ?_⟩
  have : xs.getD i 0 = xs[i] := by simp [List.getD, hi]
  rw [this]; exact h _ (List.getElem_mem _)
theorem deep_L2 {i : Nat} (hi : i < k) : ∀ (xs : List Nat) (v : List Int) (c : Nat), v.length = k → Bd v c → c + xs.length ≤ 1000 → (∀ x ∈ xs, x < k) →
    ∃ v', topo_Deep_L2 300 (i : Int) xs v = some v' ∧ v'.length = k ∧ Bd v' (c + xs.length)
  | [], v, c, hl, hb, _, _ => by rw [topo_Deep_L2_n]; exact ⟨v, rfl, hl, hb⟩
  | x :: xs, v, c, hl, hb, hc, hx => by
    have hxk := hx x List.mem_cons_self
    rw [List.length_cons] at hc
    obtain ⟨a1, a2, a3⟩ := bd_ix hb (show x < v.length by omega)
    obtain ⟨b1, b2, b3⟩ := bd_ix hb (show i < v.length by omega)
    have hg : 0 ≤ gmax (v.getD x 0) (wrap64 (v.getD i 0 + 1)) ∧ gmax (v.getD x 0) (wrap64 (v.getD i 0 + 1)) ≤ ((c + 1 : Nat) : Int) := by
      rw [w64 (by omega) (by omega)]; unfold gmax; split <;> omega
    rw [topo_Deep_L2_c, a1, Option.bind_some, b1, Option.bind_some, st_nat (by omega), Option.bind_some]
    obtain ⟨v', q1, q2, q3⟩ := deep_L2 hi xs (v.set x (gmax (v.getD x 0) (wrap64 (v.getD i 0 + 1)))) (c + 1) (by rw [List.length_set]; exact hl) (fun y hy => by
      rcases List.mem_or_eq_of_mem_set hy with hy | rfl
      · have := hb y hy; omega
      · exact hg) (by omega) (fun y hy => hx y (List.mem_cons_of_mem _ hy))
    refine ⟨v', q1, q2, fun y hy => ?_⟩
    have := q3 y hy
    rw [List.length_cons]; omega
theorem deep_L1 (h8 : k ≤ 8) {os xs : List Nat} (ho : ∀ x ∈ os, x < k) (hol : os.length ≤ 16) (hxl : xs.length = k) (hx : ∀ i, xs.getD i 0 < 2 ^ k) : ∀ (g j : Nat) (v : List Int) (c : Nat), os.length < j + g → j ≤ os.length → v.length = k → Bd v c → c + 16 * (os.length - j) ≤ 1000 →
    ∃ v', topo_Deep_L1 300 (rowN os) xs g (j : Int) v = some v' ∧ v'.length = k ∧ Bd v' 1000
  | 0, j, v, c, h, hj, _, _, _ => by omega
  | g+1, j, v, c, h, hj, hl, hb, hc => by
    have hp := Nat.pow_le_pow_right (n := 2) (by omega) h8
    rw [topo_Deep_L1_s, rowN_len]
    by_cases q : j < os.length
    · have hoj : os.getD j 0 < k := by
        have : os.getD j 0 = os[j] := by simp [List.getD, q]
        rw [this]; exact ho _ (List.getElem_mem _)
      have i1 : ix (rowN os) (j : Int) = some (((os.getD j 0 : Nat)) : Int) := ix_map q
      have hm := hx (os.getD j 0)
      have hE : sEach (xs.getD (os.getD j 0) 0) = some (memb (xs.getD (os.getD j 0) 0)) := by unfold sEach; rw [if_pos (by omega)]
      have hml := memb_len16 (xs.getD (os.getD j 0) 0)
      obtain ⟨v', q1, q2, q3⟩ := deep_L2 hoj (memb (xs.getD (os.getD j 0) 0)) v c hl hb (by omega) (fun x hx' => bitLt hm ((mem_memb (by omega)).1 hx'))
      rw [if_pos (by omega), i1, Option.bind_some, ix_getD (by omega), Option.bind_some, hE, Option.bind_some, q1, Option.bind_some, w64n (by omega)]
      exact deep_L1 h8 ho hol hxl hx g (j+1) v' _ (by omega) (by omega) q2 q3 (by omega)
    · have : j = os.length := by omega
      subst this
      rw [if_neg (by omega)]
      exact ⟨v, rfl, hl, fun y hy => by have := hb y hy; omega⟩
theorem max_L1 {v : List Int} (hv : v.length ≤ 100) : ∀ (g j : Nat) (m : Int), v.length < j + g → j ≤ v.length → ∃ o, slices_Max_int_int_L1 300 v g m (j : Int) = some o
  | 0, j, m, h, hj => by omega
  | g+1, j, m, h, hj => by
    rw [slices_Max_int_int_L1_s]
    by_cases q : j < v.length
    · rw [if_pos (by omega), ix_at 0 q, Option.bind_some, w64n (by omega)]
      exact max_L1 hv g (j+1) _ (by omega) (by omega)
    · rw [if_neg (by omega)]; exact ⟨_, rfl⟩
theorem longest_ev {l : List (Int × Int)} (h1 : 1 ≤ k) (h8 : k ≤ 8) (hin : InL k l) (hg : good (k : Int) l) (he : errG (k : Int) l = 0) {y : List Int} {e : Int} (ht : topo_Order 300 (k : Int) l = some (y, e)) (hor : e = 0 → ∃ os, y = rowN os ∧ os.length ≤ 16 ∧ ∀ x ∈ os, x < k) :
    ∃ x, chain_Longest 300 (k : Int) l = some (x, e) := by
  unfold chain_Longest topo_Deep
  rw [ht, Option.bind_some]
  by_cases h : e = 0
  · subst h
    obtain ⟨os, rfl, o1, o2⟩ := hor rfl
    have hmk : mkI (k : Int) = some (List.replicate k 0) := by unfold mkI; rw [if_pos (by omega), Int.toNat_natCast]
    obtain ⟨v, v1, v2, v3⟩ := deep_L1 h8 o2 o1 (outTo_row hin).1 (fun i => by
      refine Nat.lt_of_lt_of_le (lt_of_bits (n := k) fun j hj => ?_) (Nat.le_refl _)
      rw [outTo_bit hin] at hj; exact (gL_lt hin hj).2) 300 0 (List.replicate k 0) 0 (by omega) (by omega) (by simp) (fun x hx => by rw [List.eq_of_mem_replicate hx]; omega) (by omega)
    rw [if_neg (by simp), mOut_ev hg he, Option.bind_some, hmk, Option.bind_some, show topo_Deep_L1 300 (rowN os) (outTo k l) 300 0 (List.replicate k 0) = _ from v1, Option.bind_some, Option.bind_some, if_neg (by simp)]
    unfold slices_Max_int_int
    obtain ⟨o, q⟩ := max_L1 (v := v) (by omega) 300 1 (v.getD 0 0) (by omega) (by omega)
    have i0 : ix v 0 = some (v.getD 0 0) := ix_at (i := 0) 0 (by omega)
    rw [if_neg (by dsimp only; omega), i0, Option.bind_some, show slices_Max_int_int_L1 300 v 300 (v.getD 0 0) 1 = _ from q]
    exact ⟨_, rfl⟩
  · rw [if_pos (by rw [bne_iff_ne]; exact h), Option.bind_some, if_pos (by rw [bne_iff_ne]; exact h)]
    exact ⟨_, rfl⟩
/-! ### strong.Parts -/
def swL (l : List (Int × Int)) : List (Int × Int) := l.map fun p => (p.2, p.1)
theorem sp_L1 {l : List (Int × Int)} (hl : l.length ≤ 24) : ∀ (g j : Nat), l.length < j + g → j ≤ l.length → strong_Parts_L1 300 l g (j : Int) (swL (l.take j)) = some (swL l)
  | 0, j, h, hj => by omega
  | g+1, j, h, hj => by
    rw [strong_Parts_L1_s]
    by_cases hlt : j < l.length
    · rw [if_pos (by omega), ix_nat hlt, Option.bind_some, w64n (by omega)]
      unfold app
      rw [if_pos (by unfold swL; rw [List.length_map, List.length_take]; omega), Option.bind_some]
      have e : swL (l.take j) ++ [(l[j].2, l[j].1)] = swL (l.take (j+1)) := by
        unfold swL; rw [List.take_succ_eq_append_getElem hlt, List.map_append]; rfl
      rw [e]
      exact sp_L1 hl g (j+1) (by omega) (by omega)
    · have : j = l.length := by omega
      subst this
      rw [if_neg (by omega), List.take_length]
theorem sw_gL (l : List (Int × Int)) (i j : Nat) : gL (swL l) i j = gL l j i := by
  unfold gL swL
  rw [goesE, goesE, List.any_map, Bool.eq_iff_iff, List.any_eq_true, List.any_eq_true]
  constructor
  · rintro ⟨p, hp, h⟩
    refine ⟨p, hp, ?_⟩
    simp only [Function.comp, Bool.and_eq_true, decide_eq_true_eq] at h ⊢; exact ⟨h.2, h.1⟩
  · rintro ⟨p, hp, h⟩
    refine ⟨p, hp, ?_⟩
    simp only [Function.comp, Bool.and_eq_true, decide_eq_true_eq] at h ⊢; exact ⟨h.2, h.1⟩
theorem rch_ev {nx : List Nat} {b : Nat → Nat → Bool} (hn : nx.length = k) (hnx : ∀ i, nx.getD i 0 < 65536) (h8 : k ≤ 8) (hb : ∀ i j, (nx.getD i 0).testBit j = b i j) (hbk : ∀ i j, b i j = true → j < k) {a : Nat} (ha : a < k) :
    ∃ R, core_Reach 300 (a : Int) nx (2 ^ k - 1) = some R ∧ R < 2 ^ k ∧ ∀ x, R.testBit x = true ↔ (x = a ∨ Wy b a x) := by
  have hp := Nat.two_pow_pos k
  obtain ⟨R, r1, r2, r3, r4, r5⟩ := reach_ev (wi := 2 ^ k - 1) hn hnx (by omega) (by omega) ha
  refine ⟨R, r1, r2, fun x => ⟨fun h => ?_, fun h => ?_⟩⟩
  · refine r5 (fun y => y = a ∨ Wy b a y) (.inl rfl) (fun i j hi hij _ => ?_) x h
    rw [hb] at hij
    rcases hi with rfl | hi
    · exact .inr (.one hij)
    · exact .inr (.more hi hij)
  · have key : ∀ x, Wy b a x → R.testBit x = true := fun x hw => by
      induction hw with
      | one q => exact r4 a r3 _ (by rw [hb]; exact q) (by rw [Nat.testBit_two_pow_sub_one]; exact decide_eq_true (hbk _ _ q))
      | more _ q ih => exact r4 _ ih _ (by rw [hb]; exact q) (by rw [Nat.testBit_two_pow_sub_one]; exact decide_eq_true (hbk _ _ q))
    rcases h with rfl | h
    · exact r3
    · exact key x h
theorem Wy.swap {b c : Nat → Nat → Bool} (h : ∀ i j, c i j = b j i) {i j : Nat} (hw : Wy c i j) : Wy b j i := by
  induction hw with
  | one q => rw [h] at q; exact .one q
  | more _ q ih => rw [h] at q; exact Wy.trans (.one q) ih
theorem memb_least {m : Nat} (hm : m < 65536) {j : Nat} (hj : m.testBit j = true) : 0 < (memb m).length ∧ m.testBit ((memb m).getD 0 0) = true ∧ ∀ x, m.testBit x = true → (memb m).getD 0 0 ≤ x := by
  have hjm := (mem_memb hm).2 hj
  have hp : (memb m).Pairwise (· < ·) := List.pairwise_lt_range.filter _
  match hq : memb m, hp with
  | [], _ => rw [hq] at hjm; cases hjm
  | a :: r, hp =>
    refine ⟨by simp, (mem_memb hm).1 (by rw [hq]; exact List.mem_cons_self), fun x hx => ?_⟩
    have hxm := (mem_memb hm).2 hx
    rw [hq] at hxm
    show a ≤ x
    rcases List.mem_cons.1 hxm with rfl | h
    · exact Nat.le_refl _
    · exact Nat.le_of_lt ((List.pairwise_cons.1 hp).1 x h)
/-- which come to each other -/
def Eq2 (b : Nat → Nat → Bool) (i x : Nat) : Prop := x = i ∨ (Wy b i x ∧ Wy b x i)
def PartP (b : Nat → Nat → Bool) (i q : Nat) : Prop := Eq2 b i q ∧ ∀ x, Eq2 b i x → q ≤ x
variable {l : List (Int × Int)}
theorem sp_L2 (h8 : k ≤ 8) (hin : InL k l) (hins : InL k (swL l)) : ∀ (g j : Nat) (ps : List Nat), k < j + g → j ≤ k → ps.length = j → (∀ i, i < j → PartP (gL l) i (ps.getD i 0)) →
    ∃ qs : List Nat, strong_Parts_L2 300 (k : Int) (outTo k l) (outTo k (swL l)) g (j : Int) (rowN ps) = some (rowN qs) ∧ qs.length = k ∧ ∀ i, i < k → PartP (gL l) i (qs.getD i 0)
  | 0, j, ps, h, hj, _, _ => by omega
  | g+1, j, ps, h, hj, hl, hps => by
    rw [strong_Parts_L2_s]
    have hp := Nat.pow_le_pow_right (n := 2) (by omega) h8
    by_cases hlt : j < k
    · have hbel : sBelow (k : Int) = some (2 ^ k - 1) := by unfold sBelow; rw [if_pos (by omega), Int.toNat_natCast]
      obtain ⟨R, r1, r2, r3⟩ := rch_ev (nx := outTo k l) (b := gL l) (outTo_row hin).1 (out_lt hin h8) h8 (outTo_bit hin) (fun i j h => (gL_lt hin h).2) hlt
      obtain ⟨B, b1, b2, b3⟩ := rch_ev (nx := outTo k (swL l)) (b := gL (swL l)) (outTo_row hins).1 (out_lt hins h8) h8 (outTo_bit hins) (fun i j h => (gL_lt hins h).2) hlt
      have hand : R &&& B < 65536 := Nat.lt_of_le_of_lt Nat.and_le_left (by omega)
      have hbit : ∀ x, (R &&& B).testBit x = true ↔ Eq2 (gL l) j x := fun x => by
        rw [Nat.testBit_and, Bool.and_eq_true, r3, b3]
        constructor
        · rintro ⟨h1, h2⟩
          rcases h1 with rfl | h1
          · exact .inl rfl
          · rcases h2 with rfl | h2
            · exact .inl rfl
            · exact .inr ⟨h1, h2.swap fun i j => sw_gL l i j⟩
        · rintro (rfl | ⟨h1, h2⟩)
          · exact ⟨.inl rfl, .inl rfl⟩
          · exact ⟨.inr h1, .inr (h2.swap fun i j => (sw_gL l j i).symm)⟩
      obtain ⟨m1, m2, m3⟩ := memb_least hand (j := j) ((hbit j).2 (.inl rfl))
      have hA : sAnd R B = some (R &&& B) := by unfold sAnd; rw [if_pos ⟨by omega, by omega⟩]
      have hL : sList (R &&& B) = some (membI (R &&& B)) := by unfold sList; rw [if_pos hand]
      have hi : ix (membI (R &&& B)) 0 = some (((memb (R &&& B)).getD 0 0 : Nat) : Int) := ix_map (o := memb (R &&& B)) (j := 0) m1
      rw [if_pos (by omega), hbel, Option.bind_some, r1, Option.bind_some, Option.bind_some, b1, Option.bind_some, hA, Option.bind_some, hL, Option.bind_some, hi, Option.bind_some, w64n (by omega)]
      unfold app
      rw [if_pos (by rw [rowN_len]; omega), Option.bind_some]
      have e : rowN ps ++ [(((memb (R &&& B)).getD 0 0 : Nat) : Int)] = rowN (ps ++ [(memb (R &&& B)).getD 0 0]) := by unfold rowN; rw [List.map_append]; rfl
      rw [e]
      refine sp_L2 h8 hin hins g (j+1) _ (by omega) (by omega) (by rw [List.length_append, hl]; rfl) fun i hi2 => ?_
      by_cases c : i < j
      · have : (ps ++ [(memb (R &&& B)).getD 0 0]).getD i 0 = ps.getD i 0 := by simp only [List.getD, List.getElem?_append_left (show i < ps.length by omega)]
        rw [this]; exact hps i c
      · obtain rfl : i = j := by omega
        have : (ps ++ [(memb (R &&& B)).getD 0 0]).getD i 0 = (memb (R &&& B)).getD 0 0 := by
          simp only [List.getD, List.getElem?_append_right (show ps.length ≤ i by omega), hl, Nat.sub_self, List.getElem?_cons_zero, Option.getD_some]
        rw [this]
        exact ⟨(hbit _).1 m2, fun x hx => m3 x ((hbit x).2 hx)⟩
    · have : j = k := by omega
      subst this
      rw [if_neg (by omega)]
      exact ⟨ps, rfl, hl, hps⟩
theorem parts_ev (h1 : 1 ≤ k) (h8 : k ≤ 8) (h24 : l.length ≤ 24) (hin : InL k l) (hne : ∀ p ∈ l, p.1 ≠ p.2) (hg : good (k : Int) l) (he : errG (k : Int) l = 0) :
    ∃ qs : List Nat, strong_Parts 300 (k : Int) l = some (rowN qs, 0) ∧ qs.length = k ∧ ∀ i, i < k → PartP (gL l) i (qs.getD i 0) := by
  have hins : InL k (swL l) := fun p hp => by
    obtain ⟨q, hq, rfl⟩ := List.mem_map.1 hp
    have := hin q hq
    exact ⟨this.2.2.1, this.2.2.2, this.1, this.2.1⟩
  have hnes : ∀ p ∈ swL l, p.1 ≠ p.2 := fun p hp => by
    obtain ⟨q, hq, rfl⟩ := List.mem_map.1 hp
    exact fun e => hne q hq e.symm
  have hls : (swL l).length = l.length := by unfold swL; rw [List.length_map]
  have hes : errG (k : Int) (swL l) = 0 := errG_ok h1 h8 (by omega) hins hnes
  have hgs : good (k : Int) (swL l) := ⟨hg.1, by rw [hls]; exact hg.2⟩
  obtain ⟨qs, q1, q2, q3⟩ := sp_L2 (l := l) h8 hin hins 300 0 [] (by omega) (by omega) rfl (fun i hi => by omega)
  refine ⟨qs, ?_, q2, q3⟩
  unfold strong_Parts
  rw [mCheck_ev hg, Option.bind_some, if_neg (by simp [he]), mOut_ev hg he, Option.bind_some, show strong_Parts_L1 300 l 300 0 [] = _ from sp_L1 h24 300 0 (by omega) (by omega), Option.bind_some, mOut_ev hgs hes, Option.bind_some,
    show strong_Parts_L2 300 (k : Int) (outTo k l) (outTo k (swL l)) 300 0 [] = _ from q1]; rfl
/-- every single one is a part of its own exactly if there is no ring -/
theorem alone_iff {b : Nat → Nat → Bool} (hbk : ∀ i j, b i j = true → i < k ∧ j < k) (hirr : ∀ i, b i i = false) {qs : List Nat} (hq : ∀ i, i < k → PartP b i (qs.getD i 0)) : (∀ i, i < k → qs.getD i 0 = i) ↔ ¬ ∃ i, i < k ∧ Wy b i i := by
  constructor
  · rintro h ⟨i, hi, hw⟩
    obtain ⟨x, hx, hw2⟩ := hw.first
    rcases hw2 with rfl | hw2
    · rw [hirr] at hx; cases hx
    · have hxk := (hbk i x hx).2
      have e1 := (hq i hi).2 x (.inr ⟨.one hx, hw2⟩)
      have e2 := (hq x hxk).2 i (.inr ⟨hw2, .one hx⟩)
      rw [h i hi] at e1; rw [h x hxk] at e2
      have : i = x := by omega
      subst this
      rw [hirr] at hx; cases hx
  · intro h i hi
    rcases (hq i hi).1 with e | ⟨e1, e2⟩
    · exact e
    · exact absurd ⟨i, hi, e1.trans e2⟩ h
/-! ### orders -/
theorem topo_idx {b : Nat → Nat → Bool} : ∀ {t : List Nat}, TopoP b t → ∀ {u v : Nat}, u ∈ t → v ∈ t → b u v = true → t.idxOf u < t.idxOf v
  | [], _, _, _, hu, _, _ => by cases hu
  | a :: t, ⟨h1, h2⟩, u, v, hu, hv, hb => by
    by_cases e : v = a
    · subst e; rw [h1 u hu] at hb; cases hb
    · have hv' : v ∈ t := by
        rcases List.mem_cons.1 hv with q | q
        · exact absurd q e
        · exact q
      rw [List.idxOf_cons, List.idxOf_cons]
      have e2 : (a == v) = false := by rw [beq_eq_false_iff_ne]; exact fun q => e q.symm
      rw [e2]
      by_cases e3 : u = a
      · subst e3; simp
      · have hu' : u ∈ t := by
          rcases List.mem_cons.1 hu with q | q
          · exact absurd q e3
          · exact q
        have e4 : (a == u) = false := by rw [beq_eq_false_iff_ne]; exact fun q => e3 q.symm
        rw [e4]
        have := topo_idx h2 hu' hv' hb
        simp only [Bool.false_eq_true, if_false, cond_false]; omega
theorem topo_no {b : Nat → Nat → Bool} (hbk : ∀ i j, b i j = true → i < k ∧ j < k) {t : List Nat} (h : TopoP b t) (ht : ∀ v, v ∈ t ↔ v < k) : ¬ ∃ i, i < k ∧ Wy b i i := by
  have key : ∀ i j, Wy b i j → t.idxOf i < t.idxOf j := fun i j hw => by
    induction hw with
    | one q => exact topo_idx h ((ht _).2 (hbk _ _ q).1) ((ht _).2 (hbk _ _ q).2) q
    | more _ q ih => exact Nat.lt_trans ih (topo_idx h ((ht _).2 (hbk _ _ q).1) ((ht _).2 (hbk _ _ q).2) q)
  rintro ⟨i, _, hw⟩
  exact Nat.lt_irrefl _ (key i i hw)
theorem topo_ring {b : Nat → Nat → Bool} (hbk : ∀ i j, b i j = true → i < k ∧ j < k) {xs : List Nat} (hW : Wsh k b k xs) (h8 : k ≤ 8) {S : Nat} (hS : S ≠ 0) (hlt : S < 2 ^ k) (h : ∀ v, S.testBit v = true → ∃ u, S.testBit u = true ∧ b u v = true) : ∃ i, i < k ∧ Wy b i i := by
  have hp := Nat.pow_le_pow_right (n := 2) (by omega) h8
  have hS16 : S < 65536 := by omega
  obtain ⟨v, hv, hmax⟩ := To.exists_max (fun u => 100 - ((List.range k).filter (fun x => rM xs x u)).length) (memb S) (memb_ne hS16 hS)
  obtain ⟨u, u1, u2⟩ := h v ((mem_memb hS16).1 hv)
  have huk := (hbk u v u2).1
  by_cases hc : Wy b u u
  · exact ⟨u, huk, hc⟩
  · exfalso
    have hle := hmax u ((mem_memb hS16).2 u1)
    have l1 : ((List.range k).filter (fun x => rM xs x v)).length ≤ 8 := by
      have := List.length_filter_le (fun x => rM xs x v) (List.range k); rw [List.length_range] at this; omega
    have l2 : (u :: (List.range k).filter (fun x => rM xs x u)).length ≤ ((List.range k).filter (fun x => rM xs x v)).length := by
      refine nodup_len_le (List.nodup_cons.2 ⟨?_, List.nodup_range.filter _⟩) fun x hx => ?_
      · intro hm
        exact hc ((hW.iff hbk huk).1 (List.mem_filter.1 hm).2)
      · rcases List.mem_cons.1 hx with rfl | hx
        · exact List.mem_filter.2 ⟨List.mem_range.2 huk, (hW.iff hbk huk).2 (.one u2)⟩
        · obtain ⟨q1, q2⟩ := List.mem_filter.1 hx
          have hxk := List.mem_range.1 q1
          exact List.mem_filter.2 ⟨q1, (hW.iff hbk hxk).2 (((hW.iff hbk hxk).1 q2).more u2)⟩
    rw [List.length_cons] at l2
    omega
end
/-! ### TopOrders -/
section
variable {k : Nat} {l : List (Int × Int)}
def cs1 (l : List (Int × Int)) : List Cost := l.map fun p => (p.1, p.2, 1)
theorem co_L1 (hl : l.length ≤ 24) : ∀ (g j : Nat), l.length < j + g → j ≤ l.length → ∃ x, LT_TopOrders_L1 300 l g (cs1 (l.take j)) (j : Int) = some (cs1 l, x)
  | 0, j, h, hj => by omega
  | g+1, j, h, hj => by
    rw [LT_TopOrders_L1_s]
    by_cases hlt : j < l.length
    · rw [if_pos (by omega), ix_nat hlt, Option.bind_some, Option.bind_some, w64n (by omega)]
      unfold app
      rw [if_pos (by unfold cs1; rw [List.length_map, List.length_take]; omega), Option.bind_some]
      have e : cs1 (l.take j) ++ [(l[j].1, l[j].2, 1)] = cs1 (l.take (j+1)) := by
        unfold cs1; rw [List.take_succ_eq_append_getElem hlt, List.map_append]; rfl
      rw [e]
      exact co_L1 hl g (j+1) (by omega) (by omega)
    · have : j = l.length := by omega
      subst this
      rw [if_neg (by omega), List.take_length]; exact ⟨_, rfl⟩
theorem cs1_in (hin : InL k l) (hne : ∀ p ∈ l, p.1 ≠ p.2) : InC k (cs1 l) := fun e he => by
  obtain ⟨p, hp, rfl⟩ := List.mem_map.1 he
  have := hin p hp
  exact ⟨⟨this.1, this.2.1⟩, ⟨this.2.2.1, this.2.2.2⟩, by show (0:Int) ≤ 1 ∧ (1:Int) ≤ 20; omega, hne p hp⟩
theorem errCs_of1 : ∀ {l : List Cost}, InC k l → errCs (k : Int) l = 0
  | [], _ => rfl
  | e :: l, h => by
    have h0 := h e (List.mem_cons_self ..)
    unfold errCs
    rw [if_neg (by omega), if_neg h0.2.2.2]
    exact errCs_of1 (fun x hx => h x (List.mem_cons_of_mem _ hx))
theorem errC_of1 {l : List Cost} (h1 : 1 ≤ k) (h8 : k ≤ 8) (hl : l.length ≤ 24) (h : InC k l) : errC (k : Int) l = 0 := by
  unfold errC
  rw [if_neg (by omega), if_neg (by omega)]; exact errCs_of1 h
theorem gL_mem {u v : Nat} : gL l u v = true ↔ ∃ p ∈ l, p.1 = (u : Int) ∧ p.2 = (v : Int) := by
  unfold gL
  rw [goesE, List.any_eq_true]
  simp only [Bool.and_eq_true, decide_eq_true_eq]
theorem chain_wy (hin : InL k l) : ∀ (es : List Cost) {u v : Nat}, chain (cs1 l) (u : Int) es (v : Int) → es ≠ [] → Wy (gL l) u v
  | [], _, _, _, h => absurd rfl h
  | e :: es, u, v, h, _ => by
    obtain ⟨h1, h2, h3⟩ := h
    obtain ⟨p, hp, rfl⟩ := List.mem_map.1 h1
    have hpk := hin p hp
    obtain ⟨m, hm⟩ := Int.eq_ofNat_of_zero_le hpk.2.2.1
    have hg : gL l u m = true := gL_mem.2 ⟨p, hp, h2, hm⟩
    have h3' : chain (cs1 l) p.2 es (v : Int) := h3
    rw [hm] at h3'
    by_cases hes : es = []
    · subst hes
      have : (m : Int) = (v : Int) := h3'
      have : m = v := by omega
      subst this
      exact .one hg
    · exact Wy.trans (.one hg) (chain_wy hin es h3' hes)
theorem wy_chain {u v : Nat} (h : Wy (gL l) u v) : ∃ es, chain (cs1 l) (u : Int) es (v : Int) ∧ es ≠ [] := by
  have one : ∀ a b : Nat, gL l a b = true → chain (cs1 l) (a : Int) [((a : Int), (b : Int), 1)] (b : Int) := fun a b q => by
    obtain ⟨p, hp, h1, h2⟩ := gL_mem.1 q
    refine ⟨List.mem_map.2 ⟨p, hp, ?_⟩, rfl, rfl⟩
    rw [h1, h2]
  induction h with
  | one q => exact ⟨_, one _ _ q, by simp⟩
  | more _ q ih =>
    obtain ⟨es, h1, h2⟩ := ih
    exact ⟨es ++ [_], (chain_app es).2 ⟨_, h1, one _ _ q⟩, by simp⟩
theorem fin_L2 (h8 : k ≤ 8) {ys qs : List Nat} (hy : ys.length = k) (hq : qs.length = k) (hlt : ∀ i, ys.getD i 0 < 2 ^ k) : ∀ (g j : Nat) (a b : Bool), k < j + g → j ≤ k →
    ∃ (a' b' : Bool) (x : Int), LT_TopOrders_L2 300 (k : Int) (ys.map membI) (rowN qs) g a b (j : Int) = some (a', b', x) ∧ (a' = true ↔ a = true ∨ ∃ i, j ≤ i ∧ i < k ∧ rM ys i i = true) ∧ (b' = true ↔ b = true ∧ ∀ i, j ≤ i → i < k → qs.getD i 0 = i)
  | 0, j, a, b, h, hj => by omega
  | g+1, j, a, b, h, hj => by
    have hp := Nat.pow_le_pow_right (n := 2) (by omega) h8
    rw [LT_TopOrders_L2_s]
    by_cases c : j < k
    · have i1 : ix (ys.map membI) (j : Int) = some (membI (ys.getD j 0)) := by
        rw [ix_nat (by rw [List.length_map]; omega), List.getElem_map]
        simp [List.getD, show j < ys.length by omega]
      have hm := memb_len16 (ys.getD j 0)
      have hl16 : (membI (ys.getD j 0)).length ≤ 16 := by unfold membI; rw [List.length_map]; exact hm
      have i2 : R1_Has 300 (membI (ys.getD j 0)) (j : Int) = some (rM ys j j) := by
        rw [R1_Has_ev _ (by omega) (by omega)]
        congr 1
        rw [Bool.eq_iff_iff, decide_eq_true_eq]
        have : ((j : Int) ∈ membI (ys.getD j 0)) ↔ j ∈ memb (ys.getD j 0) := mem_rowN
        rw [this, mem_memb (by have := hlt j; omega)]; rfl
      have i3 : ix (rowN qs) (j : Int) = some ((qs.getD j 0 : Nat) : Int) := ix_map (by omega)
      have hA : (if a = true then some true else (ix (ys.map membI) (j : Int)).bind fun y15 => (R1_Has 300 y15 (j : Int)).bind fun y16 => if y16 = true then some true else some false) = some (a || rM ys j j) := by
        rw [i1, Option.bind_some, i2, Option.bind_some]
        cases a <;> cases rM ys j j <;> rfl
      have hB : (if b = true then (ix (rowN qs) (j : Int)).bind fun y18 => if (y18 == (j : Int)) = true then some true else some false else some false) = some (b && decide (qs.getD j 0 = j)) := by
        rw [i3, Option.bind_some]
        have hE : (((qs.getD j 0 : Nat) : Int) == (j : Int)) = decide (qs.getD j 0 = j) := by
          rw [Bool.eq_iff_iff, beq_iff_eq, decide_eq_true_eq]; omega
        rw [hE]
        cases b <;> cases decide (qs.getD j 0 = j) <;> rfl
      rw [if_pos (by omega), hA, Option.bind_some, hB, Option.bind_some, w64n (by omega)]
      obtain ⟨a', b', x, r1, r2, r3⟩ := fin_L2 h8 hy hq hlt g (j+1) (a || rM ys j j) (b && decide (qs.getD j 0 = j)) (by omega) (by omega)
      refine ⟨a', b', x, r1, ?_, ?_⟩
      · rw [r2, Bool.or_eq_true]
        constructor
        · rintro ((h | h) | ⟨i, i1, i2, i3⟩)
          · exact .inl h
          · exact .inr ⟨j, Nat.le_refl _, c, h⟩
          · exact .inr ⟨i, by omega, i2, i3⟩
        · rintro (h | ⟨i, p1, p2, p3⟩)
          · exact .inl (.inl h)
          · by_cases e : i = j
            · subst e; exact .inl (.inr p3)
            · exact .inr ⟨i, by omega, p2, p3⟩
      · rw [r3, Bool.and_eq_true, decide_eq_true_eq]
        constructor
        · rintro ⟨⟨h1, h2⟩, h3⟩
          refine ⟨h1, fun i i1 i2 => ?_⟩
          by_cases e : i = j
          · subst e; exact h2
          · exact h3 i (by omega) i2
        · rintro ⟨h1, h2⟩
          exact ⟨⟨h1, h2 j (Nat.le_refl _) c⟩, fun i i1 i2 => h2 i (by omega) i2⟩
    · rw [if_neg (by omega)]
      refine ⟨a, b, _, rfl, ⟨.inl, ?_⟩, ⟨fun h => ⟨h, fun i h1 h2 => by omega⟩, fun h => h.1⟩⟩
      rintro (h | ⟨i, h1, h2, _⟩)
      · exact h
      · omega
theorem two_ev : topo_Order 300 2 [(0, 1), (1, 0)] = some ([], 5) := by decide +kernel
theorem orders_ev {n : Int} (hg : good n l) : LT_TopOrders 300 n l = some true := by
  unfold LT_TopOrders
  have hr5 : mErr 5 5 = some true := rfl
  by_cases he : errG n l = 0
  · obtain ⟨k, rfl, h1, h8, h24, hin, hne⟩ := errG_zero he
    have hp := Nat.pow_le_pow_right (n := 2) (by omega) h8
    have hbk : ∀ i j, gL l i j = true → i < k ∧ j < k := fun i j h => gL_lt hin h
    have hirr := gL_irr hne
    have hW0 : Wsh k (gL l) 0 (outTo k l) := {
      len := (outTo_row hin).1
      lt := fun i => lt_of_bits (n := k) fun j hj => by rw [outTo_bit hin] at hj; exact (gL_lt hin hj).2
      has := fun i j _ hb => by unfold rM; rw [outTo_bit hin]; exact hb
      snd := fun i j _ hb => by unfold rM at hb; rw [outTo_bit hin] at hb; exact .one hb
      tr := fun m hm => by omega }
    obtain ⟨ys, y1, hW⟩ := cr_L1 h8 300 0 (outTo k l) (by omega) (by omega) hW0
    have hcl : close_All 300 (k : Int) l = some (ys.map membI, 0) := by
      unfold close_All close_reach
      rw [mCheck_ev hg, Option.bind_some, if_neg (by simp [he]), mOut_ev hg he, Option.bind_some, show close_reach_L1 300 (k : Int) 300 0 (outTo k l) = _ from y1, Option.bind_some, Option.bind_some,
        show close_All_L1 300 ys 300 0 [] = _ from ca_L1 (by rw [hW.len]; omega) (fun i => by have := hW.lt i; omega) 300 0 (by rw [hW.len]; omega) (by omega)]; rfl
    obtain ⟨qs, q1, q2, q3⟩ := parts_ev h1 h8 h24 hin hne hg he
    obtain ⟨x, hx⟩ := co_L1 (l := l) h24 300 0 (by omega) (by omega)
    have hcl1 : (cs1 l).length ≤ 24 := by unfold cs1; rw [List.length_map]; exact h24
    have hec := errC_of1 h1 h8 hcl1 (cs1_in hin hne)
    obtain ⟨back, alone, z, z1, z2, z3⟩ := fin_L2 h8 hW.len q2 hW.lt 300 0 false true (by omega) (by omega)
    have hback : back = true ↔ ∃ i, i < k ∧ Wy (gL l) i i := by
      rw [z2]
      constructor
      · rintro (h | ⟨i, _, i2, i3⟩)
        · cases h
        · exact ⟨i, i2, (hW.iff hbk i2).1 i3⟩
      · rintro ⟨i, i2, i3⟩
        exact .inr ⟨i, by omega, i2, (hW.iff hbk i2).2 i3⟩
    have halone : alone = !back := by
      rw [Bool.eq_iff_iff, z3, Bool.not_eq_true']
      have := alone_iff hbk hirr q3
      constructor
      · rintro ⟨_, h⟩
        cases hb : back
        · rfl
        · exact absurd (hback.1 hb) (this.1 fun i hi => h i (by omega) hi)
      · intro hb
        refine ⟨rfl, fun i _ hi => (this.2 fun hc => ?_) i hi⟩
        have := hback.2 hc
        rw [hb] at this; cases this
    obtain ⟨ty, te, ht, hor, hte⟩ : ∃ ty te, topo_Order 300 (k : Int) l = some (ty, te) ∧ (te = 0 → ∃ os, ty = rowN os ∧ os.length ≤ 16 ∧ ∀ x ∈ os, x < k) ∧ (te == 0) = !back := by
      rcases topo_ev h1 h8 hin hg he with ⟨t, t1, t2, t3, t4⟩ | ⟨t1, S, S1, S2, S3⟩
      · refine ⟨_, _, t1, fun _ => ⟨t, rfl, ?_, fun x hx => (t3 x).1 hx⟩, ?_⟩
        · have := nodup_len_le t2 (l' := List.range k) fun x hx => List.mem_range.2 ((t3 x).1 hx)
          rw [List.length_range] at this; omega
        · cases hb : back
          · rfl
          · exact absurd (hback.1 hb) (topo_no hbk t4 t3)
      · refine ⟨_, _, t1, fun h => by omega, ?_⟩
        rw [hback.2 (topo_ring hbk hW h8 S1 S2 S3)]; rfl
    obtain ⟨lx, hlx⟩ := longest_ev h1 h8 hin hg he ht hor
    obtain ⟨m1, m2, me, hml, hme⟩ : ∃ m1 m2 me, mean_Least 300 (k : Int) (cs1 l) = some (m1, m2, me) ∧ decide (me = 5) = !back := by
      rcases least_ev (k : Int) (cs1 l) with ⟨h, _⟩ | ⟨_, h2, h3⟩ | ⟨k', a, b, _, hk, h2, h3, _⟩
      · exact absurd hec h
      · refine ⟨_, _, _, h2, ?_⟩
        cases hb : back
        · rfl
        · obtain ⟨i, hi, hw⟩ := hback.1 hb
          obtain ⟨es, e1, e2⟩ := wy_chain hw
          exact absurd (h3 (i : Int) es (by omega) (by omega) e1) e2
      · refine ⟨_, _, _, h2, ?_⟩
        obtain ⟨u, es, u0, u1, u2, u3, _⟩ := h3.one
        obtain ⟨v, rfl⟩ := Int.eq_ofNat_of_zero_le u0
        rw [hback.2 ⟨v, by omega, chain_wy hin es u2 u3⟩]; rfl
    have hlen : ((((ys.map membI).length : Nat) : Int) != (k : Int)) = false := by rw [List.length_map, hW.len]; simp
    have hlen2 : ((((rowN qs).length : Nat) : Int) != (k : Int)) = false := by rw [rowN_len, q2]; simp
    rw [hcl, Option.bind_some, two_ev, Option.bind_some]
    dsimp only
    rw [hr5, Option.bind_some, if_pos rfl, if_neg (by decide), hlen, if_neg (by decide), ht, Option.bind_some, q1, Option.bind_some, show LT_TopOrders_L1 300 l 300 [] 0 = _ from hx, Option.bind_some]
    dsimp only
    rw [hml, Option.bind_some, hlx, Option.bind_some, if_neg (by decide), hlen2, if_neg (by decide), Option.bind_some, if_neg (by decide), show LT_TopOrders_L2 300 (k : Int) (ys.map membI) (rowN qs) 300 false true 0 = _ from z1, Option.bind_some]
    dsimp only
    have hm5 : mErr me 5 = some (!back) := by unfold mErr; rw [hme]
    rw [hm5, hte, halone]
    cases back <;> rfl
  · have hcl : close_All 300 n l = some ([], errG n l) := by
      unfold close_All
      rw [mCheck_ev hg, Option.bind_some, if_pos (by rw [bne_iff_ne]; exact he)]
    rw [hcl, Option.bind_some, two_ev, Option.bind_some]
    dsimp only
    rw [hr5, Option.bind_some, if_pos rfl, if_pos (by rw [bne_iff_ne]; exact he)]; rfl
end
theorem topOrders_any (w : World) (htc : TyCell w) (n : Int) (hn : (Lit.int .i64 n).wf = true) (A : Option Addr) (cap : Nat) (l : List (Int × Int)) (hr : ReadsL w w.heap.size A l) (hl : l.length ≤ maxLen) :
    Calls Tryd.prog 3 #[.int .i64 n, .slice A l.length cap] w fun e w' => e = .returned (.bool true) ∧ Below w.heap.size w w' :=
  LT_TopOrders_ok w htc cap hr (orders_ev ⟨hn, hl⟩)
end Go.Proofs.YtoiidngnlhhanaaDoor
