import Derived.Test.YtecllcpjjllogaaDoorEv2
import Derived.Test.YtecllcpjjllogaaDoorFrom
/- plain: what Reach and From come to -/
set_option linter.all false
set_option maxRecDepth 100000
namespace Go.Proofs.YtecllcpjjllogaaDoor
open Go.RowKit Pl
/-! ### sets -/
theorem lt_of_bits {m n : Nat} (h : ∀ j, m.testBit j = true → j < n) : m < 2 ^ n := by
  rcases Nat.lt_or_ge m (2 ^ n) with h1 | h1
  · exact h1
  · obtain ⟨i, hi, hb⟩ := Nat.exists_ge_and_testBit_of_ge_two_pow h1
    have := h i hb; omega
theorem bit_lt {m n j : Nat} (hm : m < 2 ^ n) (hb : m.testBit j = true) : j < n := by
  rcases Nat.lt_or_ge j n with h1 | h1
  · exact h1
  · rw [Nat.testBit_lt_two_pow (Nat.lt_of_lt_of_le hm (Nat.pow_le_pow_right (by omega) h1))] at hb; cases hb
theorem memb_nodup (m : Nat) : (memb m).Nodup := List.Pairwise.filter _ List.nodup_range
theorem or_pow_bit (s x j : Nat) : (s ||| 2 ^ x).testBit j = (s.testBit j || decide (j = x)) := by
  rw [Nat.testBit_or, Nat.testBit_two_pow]
  congr 1
  exact decide_eq_decide.2 ⟨fun h => h.symm, fun h => h.symm⟩
theorem sWith_ev {s x : Nat} (hs : s < 65536) (hx : x < 16) : sWith s (x : Int) = some (s ||| 2 ^ x) := by
  unfold sWith; rw [if_pos ⟨hs, by omega, by omega⟩, Int.toNat_natCast]
theorem or_pow_lt {s x : Nat} (hs : s < 65536) (hx : x < 16) : s ||| 2 ^ x < 65536 :=
  Nat.or_lt_two_pow (n := 16) hs (Nat.pow_lt_pow_right (by omega) hx)
theorem sEach_ev {m : Nat} (h : m < 65536) : sEach m = some (memb m) := by unfold sEach; rw [if_pos h]
theorem cnt3 (p q r : Nat → Bool) : ∀ l : List Nat, (∀ x ∈ l, p x = (q x || r x) ∧ (q x && r x) = false) → (l.filter p).length = (l.filter q).length + (l.filter r).length
  | [], _ => rfl
  | x :: l, h => by
    have ih := cnt3 p q r l (fun y hy => h y (List.mem_cons_of_mem _ hy))
    obtain ⟨h1, h2⟩ := h x List.mem_cons_self
    rw [List.filter_cons, List.filter_cons, List.filter_cons, h1]
    cases hq : q x <;> cases hr : r x <;> simp [hq, hr] at h2 ⊢ <;> omega
/-! ### adjacency -/
def Ad (k : Nat) (l : List (Int × Int)) (i j : Nat) : Prop := ((besM k l).getD i 0).testBit j = true
theorem ad_iff {k : Nat} {l : List (Int × Int)} (h : InL k l) (i j : Nat) : Ad k l i j ↔ (∃ p ∈ l, (p.1 = (i : Int) ∧ p.2 = (j : Int)) ∨ (p.1 = (j : Int) ∧ p.2 = (i : Int))) := by
  unfold Ad
  rw [besM_bit h, Bool.or_eq_true, List.any_eq_true, List.any_eq_true]
  constructor
  · rintro (⟨p, hp, hh⟩ | ⟨p, hp, hh⟩)
    · have := h p hp; simp at hh; exact ⟨p, hp, .inl (by omega)⟩
    · have := h p hp; simp at hh; exact ⟨p, hp, .inr (by omega)⟩
  · rintro ⟨p, hp, hh | hh⟩
    · exact .inl ⟨p, hp, by simp; omega⟩
    · exact .inr ⟨p, hp, by simp; omega⟩
theorem ad_sym {k : Nat} {l : List (Int × Int)} (h : InL k l) {i j : Nat} (ha : Ad k l i j) : Ad k l j i := by
  rw [ad_iff h] at ha ⊢
  obtain ⟨p, hp, hh⟩ := ha
  exact ⟨p, hp, hh.symm⟩
theorem ad_lt {k : Nat} {l : List (Int × Int)} (h : InL k l) {i j : Nat} (ha : Ad k l i j) : i < k ∧ j < k := by
  rw [ad_iff h] at ha
  obtain ⟨p, hp, hh⟩ := ha
  have := h p hp; omega
/-! ### From -/
theorem from_L1 {n : Nat} (hn : n ≤ 100) : ∀ (g j : Nat) (v : List Int), v.length = n → n < j + g → j ≤ n → (∀ i, i < j → v.getD i 0 = -1) →
    ∃ r, walk_From_L1 300 (n : Int) g (j : Int) v = some r ∧ r.length = n ∧ ∀ i, i < n → r.getD i 0 = -1
  | 0, j, v, hv, hg, hj, _ => by omega
  | g+1, j, v, hv, hg, hj, hb => by
    rw [walk_From_L1_s]
    by_cases h : j < n
    · rw [if_pos (by omega), st_nat (by omega), Option.bind_some, w64n (by omega)]
      refine from_L1 hn g (j+1) _ (by rw [List.length_set]; exact hv) (by omega) (by omega) (fun i hi => ?_)
      rw [getD_set _ _ _ _ _ (by omega)]
      by_cases e : i = j
      · rw [if_pos e]
      · rw [if_neg e]; exact hb i (by omega)
    · rw [if_neg (by omega)]
      exact ⟨v, rfl, hv, fun i hi => hb i (by omega)⟩
theorem from_L3 {h : Nat} {D : Int} (hD : 0 ≤ D ∧ D < 1000) : ∀ (xs : List Nat) (o t : List Int), xs.Nodup → (∀ x ∈ xs, x < o.length) → h < o.length → t.length + xs.length < 1000 → o.getD h 0 = D →
    ∃ o', walk_From_L3 300 xs o ((h : Int) :: t) = some (o', ((h : Int) :: t) ++ (xs.filter (fun x => decide (o.getD x 0 < 0))).map (fun x : Nat => (x : Int))) ∧ o'.length = o.length ∧
      ∀ j, o'.getD j 0 = if j ∈ xs ∧ o.getD j 0 < 0 then D + 1 else o.getD j 0
  | [], o, t, _, _, _, _, _ => ⟨o, by rw [walk_From_L3_n]; simp, rfl, fun j => by simp⟩
  | x :: xs, o, t, hnd, hx, hh, hl, ho => by
    have hx0 := hx x List.mem_cons_self
    obtain ⟨hnx, hnd⟩ := List.nodup_cons.1 hnd
    rw [List.length_cons] at hl
    rw [walk_From_L3_c, ix_at 0 hx0, Option.bind_some]
    by_cases hneg : o.getD x 0 < 0
    · have hxh : x ≠ h := fun e => by subst e; omega
      rw [if_pos hneg]
      have e1 : ix ((h : Int) :: t) 0 = some (h : Int) := rfl
      rw [e1, Option.bind_some, ix_at 0 hh, Option.bind_some, ho, w64 (by omega) (by omega), st_nat hx0, Option.bind_some]
      have e2 : app ((h : Int) :: t) (x : Int) = some ((h : Int) :: (t ++ [(x : Int)])) := by unfold app; rw [if_pos (by rw [List.length_cons]; omega)]; rfl
      rw [e2, Option.bind_some]
      have hgs : ∀ j, (o.set x (D + 1)).getD j 0 = if j = x then D + 1 else o.getD j 0 := fun j => getD_set _ _ _ _ _ hx0
      obtain ⟨o', h1, h2, h3⟩ := from_L3 hD xs (o.set x (D + 1)) (t ++ [(x : Int)]) hnd (fun y hy => by rw [List.length_set]; exact hx y (List.mem_cons_of_mem _ hy)) (by rw [List.length_set]; exact hh) (by rw [List.length_append]; simp; omega) (by rw [hgs, if_neg (Ne.symm hxh)]; exact ho)
      refine ⟨o', ?_, by rw [h2, List.length_set], fun j => ?_⟩
      · rw [h1]
        have e3 : xs.filter (fun y => decide ((o.set x (D + 1)).getD y 0 < 0)) = xs.filter (fun y => decide (o.getD y 0 < 0)) := by
          apply List.filter_congr
          intro y hy
          have : y ≠ x := fun e => by subst e; exact hnx hy
          rw [hgs, if_neg this]
        rw [e3, List.filter_cons, if_pos (by simpa using hneg)]
        simp
      · rw [h3, hgs]
        by_cases e : j = x
        · subst e
          rw [if_pos rfl, if_neg (by omega), if_pos ⟨List.mem_cons_self, hneg⟩]
        · rw [if_neg e]
          by_cases c : j ∈ xs ∧ o.getD j 0 < 0
          · rw [if_pos c, if_pos ⟨List.mem_cons_of_mem _ c.1, c.2⟩]
          · rw [if_neg c, if_neg (fun c' => c ⟨by rcases List.mem_cons.1 c'.1 with q | q; exact absurd q e; exact q, c'.2⟩)]
    · rw [if_neg hneg]
      obtain ⟨o', h1, h2, h3⟩ := from_L3 hD xs o t hnd (fun y hy => hx y (List.mem_cons_of_mem _ hy)) hh (by omega) ho
      refine ⟨o', ?_, h2, fun j => ?_⟩
      · rw [h1, List.filter_cons, if_neg (by simpa using hneg)]
      · rw [h3]
        by_cases e : j = x
        · subst e
          rw [if_neg (fun c => hneg c.2), if_neg (fun c => hneg c.2)]
        · by_cases c : j ∈ xs ∧ o.getD j 0 < 0
          · rw [if_pos c, if_pos ⟨List.mem_cons_of_mem _ c.1, c.2⟩]
          · rw [if_neg c, if_neg (fun c' => c ⟨by rcases List.mem_cons.1 c'.1 with q | q; exact absurd q e; exact q, c'.2⟩)]
/-- From's queue -/
structure Que (k : Nat) (nx : List Nat) (a : Nat) (o : List Int) (t : List Int) (M : Int) : Prop where
  len : o.length = k
  low : ∀ j, j < k → -1 ≤ o.getD j 0 ∧ o.getD j 0 ≤ M
  start : o.getD a 0 = 0
  mem : ∀ x ∈ t, ∃ i : Nat, x = i ∧ i < k ∧ 0 ≤ o.getD i 0
  sorted : t.Pairwise (fun x y => o.getD x.toNat 0 ≤ o.getD y.toNat 0)
  head : ∀ x t', t = x :: t' → ∀ j, j < k → o.getD j 0 ≤ o.getD x.toNat 0 + 1
  done : ∀ i, i < k → 0 ≤ o.getD i 0 → (i : Int) ∉ t → ∀ j, (nx.getD i 0).testBit j = true → 0 ≤ o.getD j 0 ∧ o.getD j 0 ≤ o.getD i 0 + 1
  down : ∀ j, j < k → 0 ≤ o.getD j 0 → j = a ∨ ∃ i, i < k ∧ (nx.getD i 0).testBit j = true ∧ 0 ≤ o.getD i 0 ∧ o.getD j 0 = o.getD i 0 + 1
def left (k : Nat) (o : List Int) : Nat := ((List.range k).filter (fun j => decide (o.getD j 0 < 0))).length
theorem left_le (k : Nat) (o : List Int) : left k o ≤ k := by unfold left; have := List.length_filter_le (fun j => decide (o.getD j 0 < 0)) (List.range k); simpa using this
theorem from_L2 {k : Nat} {nx : List Nat} {a : Nat} (hn : nx.length = k) (hnx : ∀ i, nx.getD i 0 < 2 ^ k) (hk : k ≤ 16) (ha : a < k) : ∀ (g : Nat) (o t : List Int), t.length + left k o < g → g ≤ 300 → t.length + left k o ≤ 100 →
    Que k nx a o t (300 - (g : Int)) → ∃ o' M, walk_From_L2 300 nx g o t = some (o', []) ∧ Que k nx a o' [] M
  | 0, o, t, h, _, _, _ => by omega
  | g+1, o, [], h, _, _, hq => ⟨o, _, by rw [walk_From_L2_s]; rfl, hq⟩
  | g+1, o, x :: t, h, hg, hl, hq => by
    obtain ⟨u, rfl, hu, hu0⟩ := hq.mem x List.mem_cons_self
    rw [List.length_cons] at h hl
    have h16 : (2 : Nat) ^ k ≤ 65536 := Nat.pow_le_pow_right (n := 2) (by omega) (show k ≤ 16 from hk)
    have hm16 : nx.getD u 0 < 65536 := Nat.lt_of_lt_of_le (hnx u) h16
    have hD := hq.low u hu
    have hlen := hq.len
    have hmk : ∀ y ∈ memb (nx.getD u 0), y < k := fun y hy => bit_lt (hnx u) ((mem_memb hm16).1 hy)
    obtain ⟨o', h1, h2, h3⟩ := from_L3 (h := u) (D := o.getD u 0) ⟨hu0, by omega⟩ (memb (nx.getD u 0)) o t (memb_nodup _) (fun y hy => by rw [hlen]; exact hmk y hy) (by omega) (by have := memb_len (nx.getD u 0); omega) rfl
    have hnew : ∀ y ∈ (memb (nx.getD u 0)).filter (fun x => decide (o.getD x 0 < 0)), y < k ∧ (nx.getD u 0).testBit y = true ∧ o.getD y 0 < 0 ∧ o'.getD y 0 = o.getD u 0 + 1 := fun y hy => by
      obtain ⟨q1, q2⟩ := List.mem_filter.1 hy
      have q3 : o.getD y 0 < 0 := by simpa using q2
      exact ⟨hmk y q1, (mem_memb hm16).1 q1, q3, by rw [h3, if_pos ⟨q1, q3⟩]⟩
    have hold : ∀ j, 0 ≤ o.getD j 0 → o'.getD j 0 = o.getD j 0 := fun j hj => by rw [h3, if_neg (by omega)]
    have hge : ∀ j, o.getD j 0 ≤ o'.getD j 0 := fun j => by
      rw [h3]; split
      · rename_i c; omega
      · exact Int.le_refl _
    have hcases : ∀ j, (o'.getD j 0 = o.getD j 0) ∨ (o.getD j 0 < 0 ∧ o'.getD j 0 = o.getD u 0 + 1 ∧ (nx.getD u 0).testBit j = true ∧ j ∈ memb (nx.getD u 0)) := fun j => by
      rw [h3]; split
      · rename_i c; exact .inr ⟨c.2, rfl, (mem_memb hm16).1 c.1, c.1⟩
      · exact .inl rfl
    have hhead := hq.head _ t rfl
    rw [Int.toNat_natCast] at hhead
    have hcnt : left k o = ((memb (nx.getD u 0)).filter (fun x => decide (o.getD x 0 < 0))).length + left k o' := by
      unfold left
      have e0 : ((memb (nx.getD u 0)).filter (fun x => decide (o.getD x 0 < 0))).length = ((List.range k).filter (fun j => (nx.getD u 0).testBit j && decide (o.getD j 0 < 0))).length := by
        unfold memb
        rw [List.filter_filter]
        have e1 : List.range 16 = List.range k ++ (List.range (16 - k)).map (k + ·) := by rw [← List.range_add]; congr 1; omega
        rw [e1, List.filter_append]
        have e2 : ((List.range (16 - k)).map (k + ·)).filter (fun a => decide (o.getD a 0 < 0) && (nx.getD u 0).testBit a) = [] := by
          rw [List.filter_eq_nil_iff]
          intro y hy hb
          obtain ⟨z, _, rfl⟩ := List.mem_map.1 hy
          simp at hb
          have := bit_lt (hnx u) hb.2
          omega
        rw [e2, List.append_nil]
        congr 1
        apply List.filter_congr
        intro y _
        rw [Bool.and_comm]
      rw [e0]
      refine cnt3 _ _ _ _ (fun j hj => ?_)
      have hj' : j < k := List.mem_range.1 hj
      rw [h3]
      by_cases c1 : o.getD j 0 < 0
      · by_cases c2 : (nx.getD u 0).testBit j = true
        · have c3 : j ∈ memb (nx.getD u 0) := (mem_memb hm16).2 c2
          rw [if_pos ⟨c3, c1⟩, c2]
          have : ¬ (o.getD u 0 + 1 < 0) := by omega
          rw [decide_eq_true c1, decide_eq_false this]; exact ⟨rfl, rfl⟩
        · have c3 : j ∉ memb (nx.getD u 0) := fun hh => c2 ((mem_memb hm16).1 hh)
          have c2' : (nx.getD u 0).testBit j = false := by cases hb : (nx.getD u 0).testBit j; rfl; exact absurd hb c2
          rw [if_neg (fun c => c3 c.1), c2', decide_eq_true c1]; exact ⟨rfl, rfl⟩
      · rw [if_neg (fun c => c1 c.2), decide_eq_false c1]; cases (nx.getD u 0).testBit j <;> exact ⟨rfl, rfl⟩
    obtain ⟨new, hnewd⟩ : ∃ new, new = (memb (nx.getD u 0)).filter (fun x => decide (o.getD x 0 < 0)) := ⟨_, rfl⟩
    rw [← hnewd] at h1 hnew hcnt
    have hQ : Que k nx a o' (t ++ new.map (fun x : Nat => (x : Int))) (300 - (g : Int)) := by
      refine ⟨by rw [h2]; exact hlen, fun j hj => ?_, by rw [hold a (by rw [hq.start]; omega)]; exact hq.start, fun y hy => ?_, ?_, fun y t' hy j hj => ?_, fun i hi hi0 hni j hj => ?_, fun j hj hj0 => ?_⟩
      · have := hq.low j hj
        rcases hcases j with e | ⟨_, e, _⟩ <;> rw [e] <;> omega
      · rcases List.mem_append.1 hy with hy | hy
        · obtain ⟨i, e, q1, q2⟩ := hq.mem y (List.mem_cons_of_mem _ hy)
          exact ⟨i, e, q1, by rw [hold i q2]; exact q2⟩
        · obtain ⟨i, hi, rfl⟩ := List.mem_map.1 hy
          obtain ⟨q1, q2, q3, q4⟩ := hnew i hi
          exact ⟨i, rfl, q1, by rw [q4]; omega⟩
      · rw [List.pairwise_append]
        refine ⟨?_, ?_, fun x hx y hy => ?_⟩
        · refine List.Pairwise.imp_of_mem ?_ (List.pairwise_cons.1 hq.sorted).2
          intro x y hx hy hxy
          obtain ⟨i, rfl, q1, q2⟩ := hq.mem x (List.mem_cons_of_mem _ hx)
          obtain ⟨i', rfl, q1', q2'⟩ := hq.mem y (List.mem_cons_of_mem _ hy)
          rw [Int.toNat_natCast, Int.toNat_natCast] at hxy ⊢
          rw [hold i q2, hold i' q2']; exact hxy
        · rw [List.pairwise_map]
          refine List.Pairwise.imp_of_mem ?_ (List.pairwise_of_forall (l := new) (R := fun _ _ => True) (fun _ _ => trivial))
          intro x y hx hy _
          rw [Int.toNat_natCast, Int.toNat_natCast, (hnew x hx).2.2.2, (hnew y hy).2.2.2]
          exact Int.le_refl _
        · obtain ⟨i, rfl, q1, q2⟩ := hq.mem x (List.mem_cons_of_mem _ hx)
          obtain ⟨i', hi', rfl⟩ := List.mem_map.1 hy
          rw [Int.toNat_natCast, Int.toNat_natCast, (hnew i' hi').2.2.2, hold i q2]
          exact hhead i q1
      · have hjb : o'.getD j 0 ≤ o.getD u 0 + 1 := by
          have := hhead j hj
          rcases hcases j with e | ⟨_, e, _⟩ <;> rw [e] <;> omega
        have hyb : o.getD u 0 ≤ o'.getD y.toNat 0 := by
          have hyt : y ∈ t ++ new.map (fun x : Nat => (x : Int)) := by rw [hy]; exact List.mem_cons_self
          rcases List.mem_append.1 hyt with hyt | hyt
          · have := (List.pairwise_cons.1 hq.sorted).1 y hyt
            rw [Int.toNat_natCast] at this
            have := hge y.toNat
            omega
          · obtain ⟨i', hi', rfl⟩ := List.mem_map.1 hyt
            rw [Int.toNat_natCast, (hnew i' hi').2.2.2]; omega
        omega
      · have hni1 : (i : Int) ∉ t := fun hh => hni (List.mem_append_left _ hh)
        have hi00 : 0 ≤ o.getD i 0 := by
          rcases hcases i with e | ⟨c1, _, c2, c3⟩
          · rw [← e]; exact hi0
          · exact absurd (List.mem_append_right _ (List.mem_map.2 ⟨i, by rw [hnewd]; exact List.mem_filter.2 ⟨c3, by simpa using c1⟩, rfl⟩)) hni
        rw [hold i hi00]
        by_cases hiu : i = u
        · subst hiu
          have hjk := bit_lt (hnx i) hj
          have hjb := hhead j hjk
          rcases hcases j with e | ⟨_, e, _⟩
          · have : ¬ (o.getD j 0 < 0) := by
              intro c
              have := h3 j
              rw [if_pos ⟨(mem_memb hm16).2 hj, c⟩, e] at this
              omega
            rw [e]; omega
          · rw [e]; omega
        · obtain ⟨q1, q2⟩ := hq.done i hi hi00 (by simp [hni1]; omega) j hj
          rw [hold j q1]; exact ⟨q1, q2⟩
      · rcases hcases j with e | ⟨c1, e, c2, _⟩
        · rcases hq.down j hj (by rw [← e]; exact hj0) with q | ⟨i, q1, q2, q3, q4⟩
          · exact .inl q
          · exact .inr ⟨i, q1, q2, by rw [hold i q3]; exact q3, by rw [hold i q3, e]; exact q4⟩
        · exact .inr ⟨u, hu, c2, by rw [hold u hu0]; exact hu0, by rw [e, hold u hu0]⟩
    have hlen2 : (t ++ new.map (fun x : Nat => (x : Int))).length = t.length + new.length := by simp
    obtain ⟨o2, M, r1, r2⟩ := from_L2 hn hnx hk ha g o' (t ++ new.map (fun x : Nat => (x : Int))) (by omega) (by omega) (by omega) hQ
    refine ⟨o2, M, ?_, r2⟩
    rw [walk_From_L2_s, if_pos (by rw [List.length_cons]; omega)]
    have e1 : ix ((u : Int) :: t) 0 = some (u : Int) := rfl
    rw [e1, Option.bind_some, ix_at 0 (by omega), Option.bind_some, sEach_ev hm16, Option.bind_some, h1, Option.bind_some]
    have e2 : dr (((u : Int) :: t) ++ new.map (fun x : Nat => (x : Int))) 1 = some (t ++ new.map (fun x : Nat => (x : Int))) := by
      unfold dr; rw [if_pos (by rw [List.length_append, List.length_cons]; omega)]; rfl
    rw [e2, Option.bind_some]
    exact r1
/-- how far the points are from one -/
structure Far (k : Nat) (A : Nat → Nat → Prop) (a : Nat) (o : List Int) : Prop where
  len : o.length = k
  low : ∀ j, j < k → -1 ≤ o.getD j 0
  start : o.getD a 0 = 0
  step : ∀ i j, i < k → 0 ≤ o.getD i 0 → A i j → 0 ≤ o.getD j 0 ∧ o.getD j 0 ≤ o.getD i 0 + 1
  down : ∀ j, j < k → 0 ≤ o.getD j 0 → j = a ∨ ∃ i, i < k ∧ A i j ∧ 0 ≤ o.getD i 0 ∧ o.getD j 0 = o.getD i 0 + 1
theorem from_ev {k a : Nat} {l : List (Int × Int)} (hg : good (k : Int) l) (he : errG (k : Int) l = 0) (ha : a < k) : ∃ o, walk_From 300 (k : Int) l (a : Int) = some (o, 0) ∧ Far k (Ad k l) a o := by
  obtain ⟨k', hk', h1, h8, h24, hin, hne⟩ := errG_zero he
  have : k' = k := by omega
  subst this
  have hrow := besM_row hin
  have hnx : ∀ i, (besM k' l).getD i 0 < 2 ^ k' := fun i => by
    rcases Nat.lt_or_ge i k' with h | h
    · exact (hrow.getD h).1
    · rw [List.getD_eq_getElem?_getD, List.getElem?_eq_none (by rw [hrow.1]; exact h)]; exact Nat.two_pow_pos k'
  obtain ⟨r, r1, r2, r3⟩ := from_L1 (n := k') (by omega) 300 0 (List.replicate k' 0) (by simp) (by omega) (by omega) (fun i hi => by omega)
  have hset : ∀ j, (r.set a 0).getD j 0 = if j = a then 0 else r.getD j 0 := fun j => getD_set _ _ _ _ _ (by omega)
  have hQ : Que k' (besM k' l) a (r.set a 0) [(a : Int)] (300 - ((300 : Nat) : Int)) := by
    have hz : ∀ j, j < k' → 0 ≤ (r.set a 0).getD j 0 → j = a := fun j hj h0 => by
      rw [hset] at h0
      by_cases e : j = a
      · exact e
      · rw [if_neg e, r3 j hj] at h0; omega
    refine ⟨by rw [List.length_set]; exact r2, fun j hj => ?_, by rw [hset, if_pos rfl], fun x hx => ⟨a, by simpa using hx, ha, by rw [hset, if_pos rfl]; omega⟩, by simp, fun x t' hx j hj => ?_, fun i hi h0 hni => ?_, fun j hj h0 => .inl (hz j hj h0)⟩
    · rw [hset]; split
      · omega
      · rw [r3 j hj]; omega
    · have hxa : x = (a : Int) := by injection hx with e _; exact e.symm
      subst hxa
      rw [Int.toNat_natCast, hset, hset, if_pos rfl]
      split
      · omega
      · rw [r3 j hj]; omega
    · have := hz i hi h0
      subst this
      simp at hni
  obtain ⟨o, M, f1, f2⟩ := from_L2 hrow.1 hnx (by omega) ha 300 (r.set a 0) [(a : Int)] (by have := left_le k' (r.set a 0); rw [List.length_singleton]; omega) (by omega) (by have := left_le k' (r.set a 0); rw [List.length_singleton]; omega) hQ
  refine ⟨o, ?_, f2.len, fun j hj => (f2.low j hj).1, f2.start, fun i j hi h0 hij => f2.done i hi h0 (by simp) j hij, fun j hj h0 => ?_⟩
  · unfold walk_From
    have hmk : mkI (k' : Int) = some (List.replicate k' 0) := by unfold mkI; rw [if_pos (by omega), Int.toNat_natCast]
    have hb : mBeside (k' : Int) l = some (besM k' l) := by unfold mBeside; rw [if_pos ⟨hg, he⟩, Int.toNat_natCast]
    have hw : core_Within 300 (a : Int) 0 (wrap64 ((k' : Int) - 1)) = some true := by
      rw [w64 (by omega) (by omega), core_Within_ev]
      simp; omega
    rw [mCheck_ev hg, he]
    simp only [Option.bind_some]
    rw [if_neg (by decide), hw, Option.bind_some, if_pos rfl, hmk, Option.bind_some, List.length_replicate, show walk_From_L1 300 (k' : Int) 300 0 (List.replicate k' 0) = some r from r1, Option.bind_some, st_nat (by omega), Option.bind_some, hb, Option.bind_some, f1]
    rfl
  · rcases f2.down j hj h0 with e | ⟨i, q1, q2, q3⟩
    · exact .inl e
    · exact .inr ⟨i, q1, q2, q3⟩
end Go.Proofs.YtecllcpjjllogaaDoor
/- plain: trees -/
set_option linter.all false
set_option maxRecDepth 100000
namespace Go.Proofs.YtecllcpjjllogaaDoor
open Go.RowKit Pl
/-- points, whom each one is beside, and how far they are from each other: a tree -/
structure Tr (k : Nat) (A : Nat → Nat → Prop) (d : Nat → Nat → Nat) : Prop where
  sym : ∀ u v, A u v → A v u
  lt : ∀ u v, A u v → u < k ∧ v < k
  zero : ∀ a, a < k → d a a = 0
  step : ∀ a u v, a < k → A u v → d a v ≤ d a u + 1
  down : ∀ a v, a < k → v < k → v ≠ a → ∃ u, A u v ∧ d a v = d a u + 1
  uniq : ∀ a u u' v, a < k → A u v → A u' v → d a v = d a u + 1 → d a v = d a u' + 1 → u = u'
  diff : ∀ a u v, a < k → A u v → d a u ≠ d a v
namespace Tr
variable {k : Nat} {A : Nat → Nat → Prop} {d : Nat → Nat → Nat} (T : Tr k A d)
include T
theorem eq_of_zero {a v : Nat} (ha : a < k) (hv : v < k) (h : d a v = 0) : v = a := by
  by_cases e : v = a
  · exact e
  · obtain ⟨u, _, h2⟩ := T.down a v ha hv e; omega
theorem tri {a b : Nat} (ha : a < k) (hb : b < k) : ∀ {c : Nat}, c < k → d a c ≤ d a b + d b c := by
  have key : ∀ n c, d b c = n → c < k → d a c ≤ d a b + n := by
    intro n
    induction n with
    | zero => intro c h hc; have := T.eq_of_zero hb hc h; subst this; exact Nat.le_refl _
    | succ n ih =>
      intro c h hc
      have hne : c ≠ b := fun e => by subst e; rw [T.zero c hc] at h; omega
      obtain ⟨u, h1, h2⟩ := T.down b c hb hc hne
      have h3 := ih u (by omega) (T.lt _ _ h1).1
      have h4 := T.step a u c ha h1
      omega
  intro c hc
  exact key _ c rfl hc
theorem one {u v : Nat} (h : A u v) : d u v = 1 := by
  obtain ⟨hu, hv⟩ := T.lt _ _ h
  have h1 := T.step u u v hu h
  have h2 := T.diff u u v hu h
  rw [T.zero u hu] at h1 h2
  omega
theorem symd {a b : Nat} (ha : a < k) (hb : b < k) : d a b = d b a := by
  have key : ∀ n a b, a < k → b < k → d a b = n → d b a ≤ n := by
    intro n
    induction n with
    | zero => intro a b ha hb h; have := T.eq_of_zero ha hb h; subst this; rw [h]; exact Nat.le_refl _
    | succ n ih =>
      intro a b ha hb h
      have hne : b ≠ a := fun e => by subst e; rw [T.zero b hb] at h; omega
      obtain ⟨u, h1, h2⟩ := T.down a b ha hb hne
      have h3 := ih a u ha (T.lt _ _ h1).1 (by omega)
      have h4 := T.tri (a := b) (b := u) hb (T.lt _ _ h1).1 ha (c := a)
      have h5 := T.one (T.sym _ _ h1)
      omega
  have := key _ a b ha hb rfl
  have := key _ b a hb ha rfl
  omega
/-- one nearer -/
def up (_ : Tr k A d) (r v u : Nat) : Prop := A u v ∧ d r v = d r u + 1
theorem up_ex {r v : Nat} (hr : r < k) (hv : v < k) (h : v ≠ r) : ∃ u, T.up r v u := T.down r v hr hv h
theorem up_lt {r v u : Nat} (h : T.up r v u) : u < k := (T.lt _ _ h.1).1
theorem up_ne {r v u : Nat} (hr : r < k) (h : T.up r v u) : v ≠ r := fun e => by subst e; have := h.2; rw [T.zero v hr] at this; omega
/-- a neighbour that is not the nearer one is farther -/
theorem far {a u v : Nat} (ha : a < k) (h : A u v) (hn : ¬ T.up a v u) : d a u = d a v + 1 := by
  have h1 := T.diff a u v ha h
  have h2 := T.step a u v ha h
  have h3 := T.step a v u ha (T.sym _ _ h)
  have : ¬ (d a v = d a u + 1) := fun e => hn ⟨h, e⟩
  omega
/-- where the ways to a and to r part, one is between them -/
theorem between {a r : Nat} (ha : a < k) (hr : r < k) : ∀ n v p, d v r = n → v < k → T.up r v p → ¬ T.up a v p → d a r = d a v + d v r := by
  intro n
  induction n with
  | zero => intro v p h hv hp _; have := T.eq_of_zero hv hr h; exact absurd this.symm (T.up_ne hr hp)
  | succ n ih =>
    intro v p h hv hp hn
    have h1 := T.far ha hp.1 hn
    have hpk := T.up_lt hp
    have h2 : d r v = d r p + 1 := hp.2
    have h3 := T.symd hr hv
    have h4 := T.symd hr hpk
    by_cases e : p = r
    · subst e; rw [T.zero p hr] at h2; omega
    · obtain ⟨q, hq⟩ := T.up_ex hr hpk e
      have hqv : q ≠ v := fun e => by subst e; have := hq.2; omega
      have hvp : T.up a p v := ⟨T.sym _ _ hp.1, h1⟩
      have := ih p q (by omega) hpk hq (fun hh => hqv (T.uniq a q v p ha hh.1 hvp.1 hh.2 hvp.2))
      omega
/-- one that is not between them goes the same way to both -/
theorem same {a r v p : Nat} (ha : a < k) (hr : r < k) (hv : v < k) (hn : d a r ≠ d a v + d v r) (hp : T.up r v p) : T.up a v p := by
  by_cases h : T.up a v p
  · exact h
  · exact absurd (T.between ha hr _ v p rfl hv hp h) hn
/-- between a and b -/
def btw (_ : Tr k A d) (a b v : Nat) : Prop := v < k ∧ d a b = d a v + d v b
theorem btw_l {a b : Nat} (ha : a < k) (hb : b < k) : T.btw a b a := ⟨ha, by rw [T.zero a ha]; omega⟩
theorem btw_r {a b : Nat} (ha : a < k) (hb : b < k) : T.btw a b b := ⟨hb, by rw [T.zero b hb]; omega⟩
theorem btw_sym {a b v : Nat} (ha : a < k) (hb : b < k) (h : T.btw a b v) : T.btw b a v :=
  ⟨h.1, by rw [T.symd hb ha, T.symd hb h.1, T.symd h.1 ha]; have := h.2; omega⟩
/-- the next one on the way to b -/
theorem btw_up {a b v w : Nat} (ha : a < k) (hb : b < k) (h : T.btw a b v) (hw : T.up b v w) : T.btw a b w ∧ T.up a w v := by
  have hwk := T.up_lt hw
  have h1 := T.step a v w ha (T.sym _ _ hw.1)
  have h2 := T.tri (a := a) (b := w) ha hwk hb
  have h3 := hw.2
  rw [T.symd hb h.1, T.symd hb hwk] at h3
  have h4 := h.2
  have h5 := T.symd hwk hb
  exact ⟨⟨hwk, by omega⟩, T.sym _ _ hw.1, by omega⟩
/-- who is as far on the way is the same -/
theorem on_uniq {a b : Nat} (ha : a < k) (hb : b < k) : ∀ n v v', d v b = n → d v' b = n → T.btw a b v → T.btw a b v' → v = v' := by
  intro n
  induction n with
  | zero =>
    intro v v' h h' hv hv'
    rw [← T.eq_of_zero hv.1 hb h]
    exact T.eq_of_zero hv'.1 hb h'
  | succ n ih =>
    intro v v' h h' hv hv'
    have hne : v ≠ b := fun e => by subst e; rw [T.zero v hb] at h; omega
    have hne' : v' ≠ b := fun e => by subst e; rw [T.zero v' hb] at h'; omega
    obtain ⟨w, hw⟩ := T.up_ex hb hv.1 hne
    obtain ⟨w', hw'⟩ := T.up_ex hb hv'.1 hne'
    obtain ⟨b1, u1⟩ := T.btw_up ha hb hv hw
    obtain ⟨b2, u2⟩ := T.btw_up ha hb hv' hw'
    have q1 := hw.2; have q2 := hw'.2
    rw [T.symd hb hv.1, T.symd hb b1.1] at q1
    rw [T.symd hb hv'.1, T.symd hb b2.1] at q2
    have e := ih w w' (by omega) (by omega) b1 b2
    subst e
    exact T.uniq a v v' w ha u1.1 u2.1 u1.2 u2.2
/-- the way from v to r, both with it -/
inductive Way (r : Nat) : Nat → List Int → Prop
  | root : Way r r [(r : Int)]
  | step {v u : Nat} {l : List Int} : T.up r v u → Way r u l → Way r v ((v : Int) :: l)
theorem way_ex {r : Nat} (hr : r < k) : ∀ n v, d r v = n → v < k → ∃ l, T.Way r v l ∧ l.length = n + 1 := by
  intro n
  induction n with
  | zero => intro v h hv; rw [T.eq_of_zero hr hv h]; exact ⟨_, .root, rfl⟩
  | succ n ih =>
    intro v h hv
    have hne : v ≠ r := fun e => by subst e; rw [T.zero v hr] at h; omega
    obtain ⟨u, hu⟩ := T.up_ex hr hv hne
    obtain ⟨l, h1, h2⟩ := ih u (by have := hu.2; omega) (T.up_lt hu)
    exact ⟨_, .step hu h1, by rw [List.length_cons, h2]⟩
theorem way_len {r v : Nat} {l : List Int} (hr : r < k) (h : T.Way r v l) : l.length = d r v + 1 := by
  induction h with
  | root => rw [T.zero r hr]; rfl
  | step hu _ ih => rw [List.length_cons, ih, hu.2]
theorem way_det {r v : Nat} {l l' : List Int} (hr : r < k) (h : T.Way r v l) (h' : T.Way r v l') : l = l' := by
  induction h generalizing l' with
  | root =>
    cases h' with
    | root => rfl
    | step hu _ => exact absurd rfl (T.up_ne hr hu)
  | @step v u l hu _ ih =>
    cases h' with
    | root => exact absurd rfl (T.up_ne hr hu)
    | @step _ u' l' hu' h' =>
      have := T.uniq r u u' v hr hu.1 hu'.1 hu.2 hu'.2
      subst this
      rw [ih h']
/-- who is on the way is between -/
theorem way_mem {r v : Nat} {l : List Int} (hr : r < k) (hv : v < k) (h : T.Way r v l) : ∀ x : Int, x ∈ l ↔ ∃ i : Nat, x = i ∧ T.btw v r i := by
  induction h with
  | root =>
    intro x
    rw [List.mem_singleton]
    constructor
    · rintro rfl; exact ⟨r, rfl, T.btw_l hr hr⟩
    · rintro ⟨i, rfl, hi⟩
      have := hi.2
      rw [T.zero r hr] at this
      rw [T.eq_of_zero hr hi.1 (by omega)]
  | @step v u l hu hw ih =>
    intro x
    have huk := T.up_lt hu
    have e1 := T.symd hr hv
    have e2 := T.symd hr huk
    have e3 := hu.2
    rw [List.mem_cons, ih huk]
    constructor
    · rintro (rfl | ⟨i, rfl, hi⟩)
      · exact ⟨v, rfl, T.btw_l hv hr⟩
      · refine ⟨i, rfl, hi.1, ?_⟩
        have h1 := T.tri (a := v) (b := i) hv hi.1 hr
        have h2 := T.tri (a := v) (b := u) hv huk hi.1
        have h3 := T.one (T.sym _ _ hu.1)
        have h4 := hi.2
        omega
    · rintro ⟨i, rfl, hi⟩
      by_cases e : i = v
      · exact .inl (by rw [e])
      · right
        refine ⟨i, rfl, hi.1, ?_⟩
        -- the step from v towards i
        obtain ⟨w, hw1⟩ := T.up_ex hi.1 hv (Ne.symm e)
        have hb : T.btw r v i := T.btw_sym hv hr hi
        have hwk := T.up_lt hw1
        have h1 := hw1.2
        have h2 := T.tri (a := w) (b := i) hwk hi.1 hr
        have h3 := T.symd hi.1 hv
        have h4 := T.symd hi.1 hwk
        have h5 := hi.2
        have h6 := T.step r w v hr hw1.1
        have h7 := T.symd hr hwk
        have h8 : T.up r v w := ⟨hw1.1, by omega⟩
        have := T.uniq r w u v hr h8.1 hu.1 h8.2 hu.2
        subst this
        omega
/-- the way, at a place -/
theorem way_at {r v : Nat} {l : List Int} (hr : r < k) (hv : v < k) (h : T.Way r v l) : ∀ j : Nat, j < l.length → ∃ i : Nat, l[j]? = some (i : Int) ∧ T.btw v r i ∧ d r i + j = d r v := by
  induction h with
  | root => intro j hj; simp at hj; subst hj; exact ⟨r, rfl, T.btw_l hr hr, by omega⟩
  | @step v u l hu hw ih =>
    intro j hj
    have huk := T.up_lt hu
    cases j with
    | zero => exact ⟨v, rfl, T.btw_l hv hr, by omega⟩
    | succ j =>
      obtain ⟨i, h1, h2, h3⟩ := ih huk j (by rw [List.length_cons] at hj; omega)
      have hm : (i : Int) ∈ l := List.mem_of_getElem? h1
      obtain ⟨i', e, hi'⟩ := (T.way_mem hr hv (.step hu hw) (i : Int)).1 (List.mem_cons_of_mem _ hm)
      have : i = i' := by omega
      subst this
      exact ⟨i, by simpa using h1, hi', by have := hu.2; omega⟩
/-- turned -/
theorem way_rev {a b : Nat} {l l' : List Int} (ha : a < k) (hb : b < k) (h : T.Way b a l) (h' : T.Way a b l') : l.reverse = l' := by
  have n1 := T.way_len hb h
  have n2 := T.way_len ha h'
  have e := T.symd ha hb
  apply List.ext_getElem?
  intro j
  by_cases hj : j < l'.length
  · obtain ⟨i, h1, h2, h3⟩ := T.way_at ha hb h' j hj
    rw [h1, List.getElem?_reverse (by omega)]
    obtain ⟨i', q1, q2, q3⟩ := T.way_at hb ha h (l.length - 1 - j) (by omega)
    rw [q1]
    have h2' := T.btw_sym hb ha h2
    have := T.on_uniq ha hb _ i' i rfl (by rw [T.symd h2.1 hb, T.symd q2.1 hb]; have := h2'.2; have := T.symd h2.1 hb; omega) q2 h2'
    rw [this]
  · rw [List.getElem?_eq_none (by rw [List.length_reverse]; omega), List.getElem?_eq_none (by omega)]
/-- whom two hang on -/
def meet (r a b m : Nat) : Prop := T.btw a b m ∧ T.btw a r m ∧ T.btw b r m
theorem meet_uniq {r a b m m' : Nat} (hr : r < k) (ha : a < k) (hb : b < k) (h : T.meet r a b m) (h' : T.meet r a b m') : m = m' := by
  obtain ⟨p1, p2, p3⟩ := h
  obtain ⟨q1, q2, q3⟩ := h'
  refine T.on_uniq ha hb _ m m' rfl ?_ p1 q1
  have := p1.2; have := p2.2; have := p3.2; have := q1.2; have := q2.2; have := q3.2
  have := T.symd hb p1.1; have := T.symd hb q1.1
  omega
/-- going up from b until it is between a and r -/
theorem meet_up {r a b : Nat} (hr : r < k) (ha : a < k) (hb : b < k) : ∀ n v, d r v = n → T.btw b r v → T.btw a b v → ∃ m, T.meet r a b m := by
  intro n
  induction n with
  | zero =>
    intro v h h1 h2
    have := T.eq_of_zero hr h1.1 h
    subst this
    exact ⟨v, h2, T.btw_r ha hr, h1⟩
  | succ n ih =>
    intro v h h1 h2
    by_cases c : d a r = d a v + d v r
    · exact ⟨v, h2, ⟨h1.1, c⟩, h1⟩
    · have hne : v ≠ r := fun e => by subst e; rw [T.zero v hr] at h; omega
      obtain ⟨u, hu⟩ := T.up_ex hr h1.1 hne
      have hua := T.same ha hr h1.1 c hu
      exact ih u (by have := hu.2; omega) (T.btw_up hb hr h1 hu).1 (T.btw_sym hb ha (T.btw_up hb ha (T.btw_sym ha hb h2) hua).1)
theorem meet_ex {r a b : Nat} (hr : r < k) (ha : a < k) (hb : b < k) : ∃ m, T.meet r a b m :=
  T.meet_up hr ha hb _ b rfl (T.btw_l hb hr) (T.btw_r ha hb)
end Tr
end Go.Proofs.YtecllcpjjllogaaDoor
