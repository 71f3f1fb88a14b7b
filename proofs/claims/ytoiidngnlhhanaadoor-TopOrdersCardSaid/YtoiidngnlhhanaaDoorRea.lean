import Derived.Test.YtoiidngnlhhanaaDoorEv2
import Derived.Test.YtoiidngnlhhanaaDoorReach
/- plain: what Reach comes to -/
set_option linter.all false
set_option maxRecDepth 100000
namespace Go.Proofs.YtoiidngnlhhanaaDoor
open Go.RowKit Pl
/-! ### sets -/
theorem lt_of_bits {m n : Nat} (h : ∀ j, m.testBit j = true → j < n) : m < 2 ^ n := by
  rcases Nat.lt_or_ge m (2 ^ n) with h1 | h1
  · exact h1
  · obtain ⟨i, hi, hb⟩ := Nat.exists_ge_and_testBit_of_ge_two_pow h1
    have := h i hb; omega
theorem bit_lt {m n j : Nat} (hm : m < 2 ^ n) (hb : m.testBit j = true) : j < n := by
  rcases Nat.lt_or_ge j n with h1 | h1
  · exact h1
  · rw [Nat.testBit_lt_two_pow (Nat.lt_of_lt_of_le hm (Nat.pow_le_pow_right (by omega) h1))] at hb; cases hb
theorem memb_nodup (m : Nat) : (memb m).Nodup := List.Pairwise.filter _ List.nodup_range
theorem or_pow_bit (s x j : Nat) : (s ||| 2 ^ x).testBit j = (s.testBit j || decide (j = x)) := by
  rw [Nat.testBit_or, Nat.testBit_two_pow]
  congr 1
  exact decide_eq_decide.2 ⟨fun h => h.symm, fun h => h.symm⟩
theorem sWith_ev {s x : Nat} (hs : s < 65536) (hx : x < 16) : sWith s (x : Int) = some (s ||| 2 ^ x) := by
  unfold sWith; rw [if_pos ⟨hs, by omega, by omega⟩, Int.toNat_natCast]
theorem or_pow_lt {s x : Nat} (hs : s < 65536) (hx : x < 16) : s ||| 2 ^ x < 65536 :=
  Nat.or_lt_two_pow (n := 16) hs (Nat.pow_lt_pow_right (by omega) hx)
theorem sEach_ev {m : Nat} (h : m < 65536) : sEach m = some (memb m) := by unfold sEach; rw [if_pos h]
theorem cnt3 (p q r : Nat → Bool) : ∀ l : List Nat, (∀ x ∈ l, p x = (q x || r x) ∧ (q x && r x) = false) → (l.filter p).length = (l.filter q).length + (l.filter r).length
  | [], _ => rfl
  | x :: l, h => by
    have ih := cnt3 p q r l (fun y hy => h y (List.mem_cons_of_mem _ hy))
    obtain ⟨h1, h2⟩ := h x List.mem_cons_self
    rw [List.filter_cons, List.filter_cons, List.filter_cons, h1]
    cases hq : q x <;> cases hr : r x <;> simp [hq, hr] at h2 ⊢ <;> omega
/-! ### adjacency -/
def Ad (k : Nat) (l : List (Int × Int)) (i j : Nat) : Prop := ((besM k l).getD i 0).testBit j = true
theorem ad_iff {k : Nat} {l : List (Int × Int)} (h : InL k l) (i j : Nat) : Ad k l i j ↔ (∃ p ∈ l, (p.1 = (i : Int) ∧ p.2 = (j : Int)) ∨ (p.1 = (j : Int) ∧ p.2 = (i : Int))) := by
  unfold Ad
  rw [besM_bit h, Bool.or_eq_true, List.any_eq_true, List.any_eq_true]
  constructor
  · rintro (⟨p, hp, hh⟩ | ⟨p, hp, hh⟩)
    · have := h p hp; simp at hh; exact ⟨p, hp, .inl (by omega)⟩
    · have := h p hp; simp at hh; exact ⟨p, hp, .inr (by omega)⟩
  · rintro ⟨p, hp, hh | hh⟩
    · exact .inl ⟨p, hp, by simp; omega⟩
    · exact .inr ⟨p, hp, by simp; omega⟩
theorem ad_sym {k : Nat} {l : List (Int × Int)} (h : InL k l) {i j : Nat} (ha : Ad k l i j) : Ad k l j i := by
  rw [ad_iff h] at ha ⊢
  obtain ⟨p, hp, hh⟩ := ha
  exact ⟨p, hp, hh.symm⟩
theorem ad_lt {k : Nat} {l : List (Int × Int)} (h : InL k l) {i j : Nat} (ha : Ad k l i j) : i < k ∧ j < k := by
  rw [ad_iff h] at ha
  obtain ⟨p, hp, hh⟩ := ha
  have := h p hp; omega
/-! ### Reach -/
theorem reach_L2 : ∀ (xs : List Nat) (s : Nat) (t : List Int), (∀ x ∈ xs, x < 16) → s < 65536 → t.length + xs.length < 1000 →
    ∃ s', core_Reach_L2 300 xs s t = some (s', t ++ xs.map (fun x : Nat => (x : Int))) ∧ s' < 65536 ∧ ∀ j, s'.testBit j = (s.testBit j || decide (j ∈ xs))
  | [], s, t, _, hs, _ => ⟨s, by rw [core_Reach_L2_n]; simp, hs, fun j => by simp⟩
  | x :: xs, s, t, hx, hs, hl => by
    have hx0 := hx x List.mem_cons_self
    rw [List.length_cons] at hl
    obtain ⟨s', h1, h2, h3⟩ := reach_L2 xs (s ||| 2 ^ x) (t ++ [(x : Int)]) (fun y hy => hx y (List.mem_cons_of_mem _ hy)) (or_pow_lt hs hx0) (by rw [List.length_append]; simp; omega)
    refine ⟨s', ?_, h2, fun j => ?_⟩
    · rw [core_Reach_L2_c, sWith_ev hs hx0]
      simp only [Option.bind_some, app]
      rw [if_pos (by omega)]
      simp only [Option.bind_some]
      rw [h1]; simp
    · rw [h3, or_pow_bit, Bool.or_assoc]
      congr 1
      simp [List.mem_cons]
def miss (s : Nat) : Nat := ((List.range 16).filter (fun j => !s.testBit j)).length
theorem miss_le (s : Nat) : miss s ≤ 16 := by unfold miss; have := List.length_filter_le (fun j => !s.testBit j) (List.range 16); simpa using this
theorem reach_L1 {k : Nat} {nx : List Nat} {wi a : Nat} (hn : nx.length = k) (hnx : ∀ i, nx.getD i 0 < 65536) (hk : k ≤ 16) (hw : wi < 2 ^ k) : ∀ (g s : Nat) (t : List Int), t.length + miss s < g → s < 2 ^ k → t.length ≤ 100 → miss s + t.length ≤ 100 →
    s.testBit a = true → (∀ x ∈ t, ∃ i : Nat, x = i ∧ i < k ∧ s.testBit i = true) →
    (∀ i, s.testBit i = true → (i : Int) ∉ t → ∀ j, (nx.getD i 0).testBit j = true → wi.testBit j = true → s.testBit j = true) →
    (∀ P : Nat → Prop, P a → (∀ i j, P i → (nx.getD i 0).testBit j = true → wi.testBit j = true → P j) → ∀ i, s.testBit i = true → P i) →
    ∃ R t', core_Reach_L1 300 nx wi g s t = some (R, t') ∧ R < 2 ^ k ∧ R.testBit a = true ∧
      (∀ i, R.testBit i = true → ∀ j, (nx.getD i 0).testBit j = true → wi.testBit j = true → R.testBit j = true) ∧
      (∀ P : Nat → Prop, P a → (∀ i j, P i → (nx.getD i 0).testBit j = true → wi.testBit j = true → P j) → ∀ i, R.testBit i = true → P i)
  | 0, s, t, h, _, _, _, _, _, _, _ => by omega
  | g+1, s, [], h, hs, _, _, ha, ht, hc, hm => ⟨s, [], by rw [core_Reach_L1_s]; rfl, hs, ha, fun i hi => hc i hi (by simp), hm⟩
  | g+1, s, x :: t, h, hs, hl, hml, ha, ht, hc, hm => by
    obtain ⟨u, rfl, hu, hub⟩ := ht x List.mem_cons_self
    rw [List.length_cons] at h hl hml
    have h16 : (2 : Nat) ^ k ≤ 65536 := Nat.pow_le_pow_right (n := 2) (by omega) (show k ≤ 16 from hk)
    have hs16 : s < 65536 := by omega
    obtain ⟨m, hmd⟩ : ∃ m, m = ndiff (nx.getD u 0 &&& wi) s := ⟨_, rfl⟩
    have hmb : ∀ j, m.testBit j = ((nx.getD u 0).testBit j && wi.testBit j && !s.testBit j) := fun j => by rw [hmd, ndiff_testBit, Nat.testBit_and]
    have hmk : m < 2 ^ k := lt_of_bits fun j hj => bit_lt hw (by rw [hmb] at hj; simp at hj; exact hj.1.2)
    have hm16 : m < 65536 := by omega
    have hx16 : ∀ y ∈ memb m, y < 16 := fun y hy => memb_lt hy
    have hcnt : miss s = (memb m).length + ((List.range 16).filter (fun j => !s.testBit j && !m.testBit j)).length := by
      unfold miss memb
      refine cnt3 _ _ _ _ (fun j _ => ?_)
      rw [hmb]
      cases s.testBit j <;> cases (nx.getD u 0).testBit j <;> cases wi.testBit j <;> simp
    obtain ⟨s', h1, h2, h3⟩ := reach_L2 (memb m) s t hx16 hs16 (by have := memb_len m; omega)
    have h3' : ∀ j, s'.testBit j = (s.testBit j || m.testBit j) := fun j => by
      rw [h3]; congr 1
      cases hb : m.testBit j
      · exact decide_eq_false fun hj => by rw [(mem_memb hm16).1 hj] at hb; cases hb
      · exact decide_eq_true ((mem_memb hm16).2 hb)
    have hms : miss s' = ((List.range 16).filter (fun j => !s.testBit j && !m.testBit j)).length := by
      unfold miss; congr 2; funext j; rw [h3']; cases s.testBit j <;> rfl
    have hlen : (t ++ (memb m).map (fun x : Nat => (x : Int))).length = t.length + (memb m).length := by simp
    obtain ⟨R, t', r1, r2⟩ := reach_L1 hn hnx hk hw g s' (t ++ (memb m).map (fun x : Nat => (x : Int))) (by omega) (lt_of_bits fun j hj => by
        rw [h3', Bool.or_eq_true] at hj
        rcases hj with hj | hj
        · exact bit_lt hs hj
        · exact bit_lt hmk hj) (by omega) (by omega) (by rw [h3', ha]; rfl) (fun y hy => by
        rcases List.mem_append.1 hy with hy | hy
        · obtain ⟨i, e, q1, q2⟩ := ht y (List.mem_cons_of_mem _ hy)
          exact ⟨i, e, q1, by rw [h3', q2]; rfl⟩
        · obtain ⟨i, hi, rfl⟩ := List.mem_map.1 hy
          have := (mem_memb hm16).1 hi
          exact ⟨i, rfl, bit_lt hmk this, by rw [h3', this]; simp⟩) (fun i hi hni j hj hwj => by
        rw [h3'] at hi ⊢
        have hni1 : (i : Int) ∉ t := fun hh => hni (List.mem_append_left _ hh)
        have hni2 : m.testBit i = false := by
          cases hb : m.testBit i
          · rfl
          · exact absurd (List.mem_append_right _ (List.mem_map.2 ⟨i, (mem_memb hm16).2 hb, rfl⟩)) hni
        rw [hni2, Bool.or_false] at hi
        by_cases hiu : i = u
        · subst hiu
          cases hb : s.testBit j
          · rw [hmb, hj, hwj, hb]; rfl
          · rfl
        · rw [hc i hi (by simp [hni1]; omega) j hj hwj]; rfl) (fun P hPa hP i hi => by
        rw [h3', Bool.or_eq_true] at hi
        rcases hi with hi | hi
        · exact hm P hPa hP i hi
        · rw [hmb] at hi
          simp at hi
          exact hP u i (hm P hPa hP u hub) hi.1.1 hi.1.2)
    refine ⟨R, t', ?_, r2⟩
    rw [core_Reach_L1_s, if_pos (by rw [List.length_cons]; omega)]
    have e1 : ix ((u : Int) :: t) 0 = some (u : Int) := rfl
    have e2 : dr ((u : Int) :: t) 1 = some t := by unfold dr; rw [if_pos (by rw [List.length_cons]; omega)]; rfl
    have e3 : ix nx (u : Int) = some (nx.getD u 0) := ix_at 0 (by omega)
    have hwi : wi < 65536 := by omega
    have e4 : sAnd (nx.getD u 0) wi = some (nx.getD u 0 &&& wi) := by unfold sAnd; rw [if_pos ⟨hnx u, hwi⟩]
    have hand : nx.getD u 0 &&& wi < 65536 := Nat.lt_of_le_of_lt Nat.and_le_right hwi
    have e5 : sNot (nx.getD u 0 &&& wi) s = some m := by unfold sNot; rw [if_pos ⟨hand, hs16⟩, hmd]
    rw [e1, Option.bind_some, e2, Option.bind_some, e3, Option.bind_some, e4, Option.bind_some, e5, Option.bind_some, sEach_ev hm16, Option.bind_some, h1, Option.bind_some]
    exact r1
theorem reach_ev {k : Nat} {nx : List Nat} {wi a : Nat} (hn : nx.length = k) (hnx : ∀ i, nx.getD i 0 < 65536) (hk : k ≤ 16) (hw : wi < 2 ^ k) (ha : a < k) :
    ∃ R, core_Reach 300 (a : Int) nx wi = some R ∧ R < 2 ^ k ∧ R.testBit a = true ∧
      (∀ i, R.testBit i = true → ∀ j, (nx.getD i 0).testBit j = true → wi.testBit j = true → R.testBit j = true) ∧
      (∀ P : Nat → Prop, P a → (∀ i j, P i → (nx.getD i 0).testBit j = true → wi.testBit j = true → P j) → ∀ i, R.testBit i = true → P i) := by
  have hm := miss_le (0 ||| 2 ^ a)
  have hb : ∀ j, (0 ||| 2 ^ a : Nat).testBit j = decide (j = a) := fun j => by rw [or_pow_bit]; simp
  obtain ⟨R, t', h1, h2⟩ := reach_L1 (a := a) hn hnx hk hw 300 (0 ||| 2 ^ a) [(a : Int)] (by rw [List.length_singleton]; omega) (by rw [Nat.zero_or]; exact Nat.pow_lt_pow_right (by omega) ha) (by rw [List.length_singleton]; omega) (by rw [List.length_singleton]; omega) (by rw [hb]; simp)
    (fun x hx => ⟨a, by simpa using hx, ha, by rw [hb]; simp⟩) (fun i hi hni => by rw [hb] at hi; simp at hi; subst hi; simp at hni) (fun P hPa _ i hi => by rw [hb] at hi; simp at hi; subst hi; exact hPa)
  refine ⟨R, ?_, h2⟩
  unfold core_Reach
  rw [sWith_ev (by omega) (by omega), Option.bind_some, h1]; rfl
end Go.Proofs.YtoiidngnlhhanaaDoor
