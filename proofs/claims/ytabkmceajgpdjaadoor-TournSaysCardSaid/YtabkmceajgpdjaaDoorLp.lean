import Derived.Test.YtabkmceajgpdjaaDoorTe
import Derived.Test.YtabkmceajgpdjaaDoorD1
/- what the smallest scores come to -/
set_option linter.all false
set_option maxRecDepth 100000
namespace Go.Proofs.YtabkmceajgpdjaaDoor
open Go.RowKit Go.Shelf Pl To
def sm : List Nat → Nat
  | [] => 0
  | x :: l => x + sm l
theorem sm_append : ∀ a b : List Nat, sm (a ++ b) = sm a + sm b
  | [], b => by simp [sm]
  | x :: a, b => by rw [List.cons_append, sm, sm, sm_append a b]; omega
theorem sm_perm {a b : List Nat} (h : a.Perm b) : sm a = sm b := by
  induction h with
  | nil => rfl
  | cons x _ ih => rw [sm, sm, ih]
  | swap x y l => rw [sm, sm, sm, sm]; omega
  | trans _ _ ih1 ih2 => rw [ih1, ih2]
theorem sm_le : ∀ {l : List Nat} {c : Nat}, (∀ x ∈ l, x ≤ c) → sm l ≤ l.length * c
  | [], c, _ => by simp [sm]
  | x :: l, c, h => by
    have := sm_le (l := l) (c := c) (fun y hy => h y (List.mem_cons_of_mem _ hy))
    have := h x List.mem_cons_self
    rw [sm, List.length_cons, Nat.add_mul, Nat.one_mul]; omega
/-- so many games among k -/
def ch2 (k : Nat) : Nat := k * (k - 1) / 2
/-- the row's beginnings have enough -/
def lnd (ts : List Nat) : Prop := (∀ j, j < ts.length → ch2 (j+1) ≤ sm (ts.take (j+1))) ∧ sm ts = ch2 ts.length
theorem take_sm {a : Nat} {t : List Nat} (h : ∀ x ∈ t, a ≤ x) {m : Nat} (hm : m ≤ t.length) : sm ((a :: t).take m) ≤ sm (t.take m) := by
  cases m with
  | zero => simp [sm]
  | succ m =>
    rw [List.take_succ_cons, List.take_succ_eq_append_getElem (show m < t.length by omega), sm, sm_append]
    have := h t[m] (List.getElem_mem _)
    simp only [sm]; omega
/-- the beginning of a rising row is the least that so many come to -/
theorem sub_sm {u t : List Nat} (h : u.Sublist t) : t.Pairwise (· ≤ ·) → sm (t.take u.length) ≤ sm u := by
  induction h with
  | slnil => intro _; exact Nat.le_refl _
  | @cons u t a hs ih =>
    intro hp
    obtain ⟨h1, h2⟩ := List.pairwise_cons.1 hp
    exact Nat.le_trans (take_sm h1 hs.length_le) (ih h2)
  | @cons_cons u t a hs ih =>
    intro hp
    obtain ⟨h1, h2⟩ := List.pairwise_cons.1 hp
    rw [List.length_cons, List.take_succ_cons, sm, sm]
    have := ih h2; omega
/-- what the points of S have -/
def smS (xs : List Nat) (S : Nat) : Nat := sm ((memb S).map fun i => xs.getD i 0)
def okS (xs : List Nat) (S : Nat) : Prop := ch2 (memb S).length ≤ smS xs S ∧ ((memb S).length = xs.length → smS xs S = ch2 (memb S).length)
theorem memb_sub {k S : Nat} (h8 : k ≤ 8) (hS : S < 2 ^ k) : (memb S).Sublist (List.range k) := by
  have hp := Nat.pow_le_pow_right (n := 2) (by omega) h8
  unfold memb
  obtain ⟨m, hm⟩ : ∃ m, 16 = k + m := ⟨16 - k, by omega⟩
  have hz : ((List.range m).map fun x => k + x).filter (fun i => S.testBit i) = [] := List.filter_eq_nil_iff.2 (by
    intro x hx
    obtain ⟨y, _, rfl⟩ := List.mem_map.1 hx
    intro h
    have := bitLt hS h; omega)
  rw [hm, List.range_add, List.filter_append, hz, List.append_nil]
  exact List.filter_sublist
theorem range_map (xs : List Nat) : (List.range xs.length).map (fun i => xs.getD i 0) = xs := by
  apply List.ext_getElem
  · simp
  · intro i h1 h2
    simp [List.getD, show i < xs.length by simpa using h2]
def mask (xs : List Nat) : Nat := xs.foldr (fun x m => m ||| 2 ^ x) 0
theorem mask_bit : ∀ (xs : List Nat) (v : Nat), (mask xs).testBit v = decide (v ∈ xs)
  | [], v => by simp [mask]
  | x :: xs, v => by
    show (mask xs ||| 2 ^ x).testBit v = _
    rw [Nat.testBit_or, mask_bit xs v, Nat.testBit_two_pow, Bool.eq_iff_iff]
    simp only [Bool.or_eq_true, decide_eq_true_eq, List.mem_cons]
    constructor
    · rintro (h | h)
      · exact .inr h
      · exact .inl h.symm
    · rintro (h | h)
      · exact .inr h.symm
      · exact .inl h
theorem lnd_iff {xs ts : List Nat} (h8 : xs.length ≤ 8) (hp : ts.Perm xs) (hs : ts.Pairwise (· ≤ ·)) (h0 : 0 < xs.length) : lnd ts ↔ ∀ S, S < 2 ^ xs.length → okS xs S := by
  have hp2 := Nat.pow_le_pow_right (n := 2) (by omega) h8
  have hlen : ts.length = xs.length := hp.length_eq
  constructor
  · rintro ⟨h1, h2⟩ S hS
    have hsub := (memb_sub h8 hS).map (fun i => xs.getD i 0)
    rw [range_map] at hsub
    obtain ⟨u, u1, u2⟩ := List.exists_perm_sublist hsub hp.symm
    have hul : u.length = (memb S).length := by rw [u1.length_eq, List.length_map]
    have hle := sub_sm u2 hs
    rw [hul, sm_perm u1] at hle
    have hml : (memb S).length ≤ xs.length := by have := (memb_sub h8 hS).length_le; rwa [List.length_range] at this
    refine ⟨?_, fun e => ?_⟩
    · refine Nat.le_trans ?_ hle
      rcases Nat.eq_zero_or_pos (memb S).length with e | e
      · rw [e]; simp [ch2]
      · have := h1 ((memb S).length - 1) (by omega)
        rwa [Nat.sub_add_cancel e] at this
    · have he : (memb S).map (fun i => xs.getD i 0) = xs := hsub.eq_of_length (by rw [List.length_map]; exact e)
      unfold smS
      rw [he, e, ← sm_perm hp, h2, hlen]
  · intro h
    refine ⟨fun j hj => ?_, ?_⟩
    · obtain ⟨u, u1, u2⟩ := List.exists_perm_sublist (List.take_sublist (j+1) ts) hp
      rw [← range_map xs] at u2
      obtain ⟨ix, i1, rfl⟩ := List.sublist_map_iff.1 u2
      have hk : ∀ x ∈ ix, x < xs.length := fun x hx => List.mem_range.1 (i1.subset hx)
      have hml : mask ix < 2 ^ xs.length := by
        refine Nat.lt_pow_two_of_testBit _ fun v hv => ?_
        rw [mask_bit]
        refine decide_eq_false fun hm => ?_
        have := hk v hm; omega
      have hnd : ix.Nodup := List.nodup_range.sublist i1
      have hpm : (memb (mask ix)).Perm ix := by
        refine (List.perm_ext_iff_of_nodup (membNd _) hnd).2 fun v => ?_
        rw [mem_memb (by omega), mask_bit, decide_eq_true_eq]
      have h1 := (h (mask ix) hml).1
      unfold smS at h1
      rw [sm_perm (hpm.map _), sm_perm u1, hpm.length_eq] at h1
      have hl : ix.length = j + 1 := by
        have := u1.length_eq
        rw [List.length_map, List.length_take] at this; omega
      rwa [hl] at h1
    · have hpos := Nat.two_pow_pos xs.length
      have hfull := h (2 ^ xs.length - 1) (by omega)
      have hpm : (memb (2 ^ xs.length - 1)).Perm (List.range xs.length) := by
        refine (List.perm_ext_iff_of_nodup (membNd _) List.nodup_range).2 fun v => ?_
        rw [mem_memb (by omega), Nat.testBit_two_pow_sub_one, decide_eq_true_eq, List.mem_range]
      have hl : (memb (2 ^ xs.length - 1)).length = xs.length := by rw [hpm.length_eq, List.length_range]
      have h2 := hfull.2 hl
      unfold smS at h2
      rw [sm_perm (hpm.map _), range_map, hl] at h2
      rw [sm_perm hp, h2, hlen]
/-! ### Can -/
theorem sort_rowN (xs : List Nat) : ∃ ts : List Nat, (rowN xs).mergeSort (fun x y => decide (x ≤ y)) = rowN ts ∧ ts.Perm xs ∧ ts.Pairwise (· ≤ ·) := by
  have hperm := List.mergeSort_perm (rowN xs) (fun x y => decide (x ≤ y))
  have hsort := List.pairwise_mergeSort (le := fun x y : Int => decide (x ≤ y)) (fun a b c h1 h2 => by simp at h1 h2 ⊢; omega) (fun a b => by simp; omega) (rowN xs)
  have e : (rowN xs).mergeSort (fun x y => decide (x ≤ y)) = rowN (((rowN xs).mergeSort (fun x y => decide (x ≤ y))).map Int.toNat) := by
    unfold rowN
    rw [List.map_map]
    refine (List.map_id' _).symm.trans (List.map_congr_left fun x hx => ?_)
    obtain ⟨y, _, rfl⟩ := List.mem_map.1 ((List.mergeSort_perm _ _).mem_iff.1 hx)
    simp
  refine ⟨((rowN xs).mergeSort (fun x y => decide (x ≤ y))).map Int.toNat, e, ?_, ?_⟩
  · have := hperm.map Int.toNat
    have h2 : (rowN xs).map Int.toNat = xs := by unfold rowN; rw [List.map_map]; exact (List.map_congr_left fun x _ => by simp).trans (List.map_id' xs)
    rwa [h2] at this
  · rw [List.pairwise_map]
    refine hsort.imp ?_
    intro a b h
    simp at h
    omega
theorem ch2_w : ∀ j : Nat, j < 8 → wrap64 (Int.tdiv (wrap64 ((wrap64 ((j : Int) + 1)) * (j : Int))) 2) = ((ch2 (j+1) : Nat) : Int) := by decide +kernel
theorem can_L1 {ts : List Nat} (h8 : ts.length ≤ 8) (h7 : ∀ x ∈ ts, x < 8) : ∀ (g j : Nat), ts.length < j + g → j ≤ ts.length →
    (tourn_Can_L1 300 (rowN ts) g (j : Int) ((sm (ts.take j) : Nat) : Int) = some (.inr (false, 0)) ∧ ∃ q, j ≤ q ∧ q < ts.length ∧ (sm (ts.take (q+1)) < ch2 (q+1) ∨ (q + 1 = ts.length ∧ sm (ts.take (q+1)) ≠ ch2 (q+1)))) ∨
    ((∃ x, tourn_Can_L1 300 (rowN ts) g (j : Int) ((sm (ts.take j) : Nat) : Int) = some (.inl x)) ∧ ∀ q, j ≤ q → q < ts.length → ch2 (q+1) ≤ sm (ts.take (q+1)) ∧ (q + 1 = ts.length → sm (ts.take (q+1)) = ch2 (q+1)))
  | 0, j, h, hj => by omega
  | g+1, j, h, hj => by
    have hrl : (rowN ts).length = ts.length := by unfold rowN; rw [List.length_map]
    rw [tourn_Can_L1_s, hrl]
    by_cases hlt : j < ts.length
    · have i1 : ix (rowN ts) (j : Int) = some ((ts.getD j 0 : Nat) : Int) := ix_map hlt
      have htk : sm (ts.take (j+1)) = sm (ts.take j) + ts.getD j 0 := by
        rw [List.take_succ_eq_append_getElem hlt, sm_append]; simp [sm, List.getD, hlt]
      have hb : sm (ts.take j) ≤ 64 := by
        have := sm_le (l := ts.take j) (c := 8) (fun x hx => Nat.le_of_lt (h7 x (List.mem_of_mem_take hx)))
        rw [List.length_take] at this
        have : min j ts.length * 8 ≤ 8 * 8 := Nat.mul_le_mul_right _ (by omega)
        omega
      have hx : ts.getD j 0 < 8 := by
        have : ts.getD j 0 = ts[j] := by simp [List.getD, hlt]
        rw [this]; exact h7 _ (List.getElem_mem _)
      have hw : wrap64 (((sm (ts.take j) : Nat) : Int) + ((ts.getD j 0 : Nat) : Int)) = ((sm (ts.take (j+1)) : Nat) : Int) := by rw [w64 (by omega) (by omega), htk]; omega
      have hw2 : wrap64 ((ts.length : Int) - 1) = ((ts.length - 1 : Nat) : Int) := by rw [w64 (by omega) (by omega)]; omega
      rw [if_pos (by omega), i1, Option.bind_some, hw, ch2_w j (by omega), hw2, w64n (by omega)]
      have ih := fun (_ : Unit) => can_L1 h8 h7 g (j+1) (by omega) (by omega)
      by_cases c : sm (ts.take (j+1)) < ch2 (j+1)
      · rw [if_pos (by omega), Option.bind_some, if_pos rfl]
        exact .inl ⟨rfl, j, Nat.le_refl _, hlt, .inl c⟩
      · rw [if_neg (by omega)]
        by_cases d : j + 1 = ts.length
        · rw [if_pos (by rw [beq_iff_eq]; omega)]
          by_cases e : sm (ts.take (j+1)) = ch2 (j+1)
          · rw [if_neg (by rw [bne_iff_ne]; omega), Option.bind_some, if_neg (by decide)]
            rcases ih () with ⟨q, p, h1, h2, h3⟩ | ⟨q, r⟩
            · exact .inl ⟨q, p, by omega, h2, h3⟩
            · refine .inr ⟨q, fun p h1 h2 => ?_⟩
              by_cases e2 : p = j
              · subst e2; exact ⟨by omega, fun _ => e⟩
              · exact r p (by omega) h2
          · rw [if_pos (by rw [bne_iff_ne]; omega), Option.bind_some, if_pos rfl]
            exact .inl ⟨rfl, j, Nat.le_refl _, hlt, .inr ⟨d, e⟩⟩
        · rw [if_neg (by rw [beq_iff_eq]; omega), Option.bind_some, if_neg (by decide)]
          rcases ih () with ⟨q, p, h1, h2, h3⟩ | ⟨q, r⟩
          · exact .inl ⟨q, p, by omega, h2, h3⟩
          · refine .inr ⟨q, fun p h1 h2 => ?_⟩
            by_cases e2 : p = j
            · subst e2; exact ⟨by omega, fun h => absurd h d⟩
            · exact r p (by omega) h2
    · rw [if_neg (by omega)]
      exact .inr ⟨⟨_, rfl⟩, fun p h1 h2 => by omega⟩
/-- numbers that scores can be -/
def ScOk (os : List Int) (xs : List Nat) : Prop := os = rowN xs ∧ 0 < xs.length ∧ xs.length ≤ 8 ∧ ∀ x ∈ xs, x < 8
theorem can_ok {os : List Int} {xs : List Nat} (h : ScOk os xs) : ∃ b, tourn_Can 300 os = some (b, 0) ∧ (b = true ↔ ∀ S, S < 2 ^ xs.length → okS xs S) := by
  obtain ⟨rfl, h0, h8, h7⟩ := h
  have hrl : (rowN xs).length = xs.length := by unfold rowN; rw [List.length_map]
  obtain ⟨ts, t1, t2, t3⟩ := sort_rowN xs
  have htl := t2.length_eq
  have hal : allIn (rowN xs) 0 7 = true := by
    unfold allIn
    rw [List.all_eq_true]
    intro x hx
    obtain ⟨y, hy, rfl⟩ := List.mem_map.1 hx
    have := h7 y hy
    simp; omega
  have hsv : slSortV (rowN xs) = some (rowN ts) := by unfold slSortV; rw [if_pos (by rw [hrl]; omega), t1]
  unfold tourn_Can
  rw [hrl, if_neg (by rw [beq_iff_eq]; omega), if_neg (by omega), core_All_ev _ _ (by rw [hrl]; omega) (by rw [hrl]; omega), Option.bind_some, hal, if_pos rfl, hsv, Option.bind_some, ← lnd_iff h8 t2 t3 h0]
  rcases can_L1 (ts := ts) (by omega) (fun x hx => h7 x (t2.mem_iff.1 hx)) 300 0 (by omega) (by omega) with ⟨q, p, h1, h2, h3⟩ | ⟨⟨x, q⟩, r⟩
  · rw [show tourn_Can_L1 300 (rowN ts) 300 0 0 = _ from q]
    refine ⟨false, rfl, ?_⟩
    constructor
    · intro h; cases h
    · rintro ⟨g1, g2⟩
      exfalso
      rcases h3 with h3 | ⟨h3, h4⟩
      · have := g1 p h2; omega
      · rw [List.take_of_length_le (by omega), h3] at h4; exact h4 g2
  · rw [show tourn_Can_L1 300 (rowN ts) 300 0 0 = _ from q]
    refine ⟨true, rfl, ?_⟩
    constructor
    · intro _
      refine ⟨fun j hj => (r j (Nat.zero_le _) hj).1, ?_⟩
      have := (r (ts.length - 1) (Nat.zero_le _) (by omega)).2 (by omega)
      rw [List.take_of_length_le (by omega), show ts.length - 1 + 1 = ts.length by omega] at this
      exact this
    · intro _; rfl
/-- which numbers these are -/
def scE (os : List Int) : Int := if os.length = 0 then 5 else if 8 < os.length then 4 else if allIn os 0 7 = true then 0 else 1
theorem scE_zero {os : List Int} (h : scE os = 0) : ∃ xs, ScOk os xs := by
  unfold scE at h
  split at h
  · omega
  · split at h
    · omega
    · split at h
      · rename_i h1 h2 h3
        obtain ⟨xs, e, hx⟩ := rowN_of (k := 8) h3
        have hl : os.length = xs.length := by rw [e]; unfold rowN; rw [List.length_map]
        exact ⟨xs, e, by omega, by omega, hx⟩
      · omega
theorem can_bad {os : List Int} (h : scE os ≠ 0) : tourn_Can 300 os = some (false, scE os) := by
  unfold scE at h ⊢
  unfold tourn_Can
  by_cases h1 : os.length = 0
  · rw [if_pos (show ((os.length : Int) == 0) = true by rw [beq_iff_eq]; omega), if_pos h1]
  · rw [if_neg (show ¬ ((os.length : Int) == 0) = true by rw [beq_iff_eq]; omega), if_neg h1]
    rw [if_neg h1] at h
    by_cases h2 : 8 < os.length
    · rw [if_pos (show (8 : Int) < (os.length : Int) by omega), if_pos h2]
    · rw [if_neg (show ¬ (8 : Int) < (os.length : Int) by omega), if_neg h2, core_All_ev _ _ (by omega) (by omega), Option.bind_some]
      rw [if_neg h2] at h
      by_cases h3 : allIn os 0 7 = true
      · rw [if_pos h3] at h; exact absurd rfl h
      · rw [if_neg h3, if_neg h3]
end Go.Proofs.YtabkmceajgpdjaaDoor
