import Derived.Test.YtoiidngnlhhanaaDoorMP
/- Karp's theorem over the table; what Least finds -/
set_option linter.all false
set_option maxRecDepth 100000
namespace Go.Proofs.YtoiidngnlhhanaaDoor
open Go.RowKit Pl
theorem argmin (S : Nat → Prop) (f : Nat → Int) : ∀ n, (∃ m, m < n ∧ S m) → ∃ m0, m0 < n ∧ S m0 ∧ ∀ m, m < n → S m → f m0 ≤ f m
  | 0, h => by obtain ⟨m, h, _⟩ := h; omega
  | n+1, h => by
    by_cases h1 : ∃ m, m < n ∧ S m
    · obtain ⟨m0, q1, q2, q3⟩ := argmin S f n h1
      by_cases h2 : S n ∧ f n < f m0
      · refine ⟨n, by omega, h2.1, fun m hm hs => ?_⟩
        by_cases e : m = n
        · subst e; exact Int.le_refl _
        · have := q3 m (by omega) hs; omega
      · refine ⟨m0, by omega, q2, fun m hm hs => ?_⟩
        by_cases e : m = n
        · subst e
          by_cases h3 : f m < f m0
          · exact absurd ⟨hs, h3⟩ h2
          · omega
        · exact q3 m (by omega) hs
    · obtain ⟨m, q1, q2⟩ := h
      have e : m = n := Nat.le_antisymm (by omega) (Nat.le_of_not_lt fun h3 => h1 ⟨m, h3, q2⟩)
      subst e
      refine ⟨m, by omega, q2, fun m' hm hs => ?_⟩
      by_cases e : m' = m
      · subst e; exact Int.le_refl _
      · exact absurd ⟨m', by omega, hs⟩ h1
/-- going round a ring that costs nothing -/
theorem ring_steps {l : List Cost} {P Q u : Int} {es0 : List Cost} (hc : chain l u es0 u) (hne : es0 ≠ []) (hz : red P Q es0 = 0) : ∀ t : Nat, ∃ i A B, chain l u A i ∧ A.length = t ∧ chain l i B u ∧ red P Q A + red P Q B = 0
  | 0 => ⟨u, [], [], rfl, rfl, rfl, by simp [red, cst]⟩
  | t+1 => by
    obtain ⟨i, A, B, h1, h2, h3, h4⟩ := ring_steps hc hne hz t
    have go : ∀ (B : List Cost), B ≠ [] → chain l i B u → red P Q A + red P Q B = 0 → ∃ i A B, chain l u A i ∧ A.length = t + 1 ∧ chain l i B u ∧ red P Q A + red P Q B = 0 := by
      intro B hB h3 h4
      cases B with
      | nil => exact absurd rfl hB
      | cons e B =>
        obtain ⟨q1, q2, q3⟩ := h3
        refine ⟨e.2.1, A ++ [e], B, (chain_app A).2 ⟨i, h1, q1, q2, rfl⟩, by simp [h2], q3, ?_⟩
        have e1 : red P Q (e :: B) = red P Q [e] + red P Q B := red_app P Q [e] B
        rw [red_app]; omega
    by_cases hB : B = []
    · subst hB
      cases h3
      refine go es0 hne hc ?_
      rw [hz]
      simp [red, cst] at h4
      unfold red
      omega
    · exact go B hB h3 h4
def wv (w : List (List Int)) (m v : Nat) : Int := (w.getD m []).getD v 0
section
variable {k : Nat} {l : List Cost} {w : List (List Int)}
abbrev Fin_ (w : List (List Int)) (m v : Nat) : Prop := wv w m v ≠ 1073741824
theorem val (hw : ∀ m : Nat, m ≤ k → RowOk k l m (w.getD m [])) (hk : k ≤ 8) {m v : Nat} (hm : m ≤ k) (hv : v < k) (hf : Fin_ w m v) : 0 ≤ wv w m v ∧ wv w m v ≤ 20 * (m : Int) ∧ Best k l m (v : Int) (wv w m v) := by
  rcases (hw m hm).2 v hv with ⟨h1, _⟩ | h
  · exact absurd h1 hf
  · exact h
theorem isfin (hw : ∀ m : Nat, m ≤ k → RowOk k l m (w.getD m [])) (hk : k ≤ 8) {m v : Nat} (hm : m ≤ k) (hv : v < k) {u : Int} {es : List Cost} (h0 : 0 ≤ u) (h1 : u < (k : Int)) (hc : chain l u es (v : Int)) (hl : es.length = m) : Fin_ w m v ∧ wv w m v ≤ cst es := by
  rcases (hw m hm).2 v hv with ⟨_, h2⟩ | ⟨a, b, h2⟩
  · exact (h2 u es h0 h1 hc hl).elim
  · refine ⟨fun e => ?_, h2.2 u es h0 h1 hc hl⟩
    have : wv w m v ≤ 20 * (m : Int) := b
    omega
/-- Karp: at some point no shorter walk is cheaper, by the best ring's measure -/
theorem karp (hin : InC k l) (hk : k ≤ 8) (hw : ∀ m : Nat, m ≤ k → RowOk k l m (w.getD m [])) {Q : Nat} {P : Int} (hQ : 1 ≤ Q) (hr : Rg k l Q P) (hall : ∀ u es, 0 ≤ u → u < (k : Int) → chain l u es u → 0 ≤ red P (Q : Int) es) :
    ∃ i : Nat, i < k ∧ Fin_ w k i ∧ ∀ m, m < k → Fin_ w m i → (Q : Int) * wv w k i - P * (k : Int) ≤ (Q : Int) * wv w m i - P * (m : Int) := by
  obtain ⟨u, es0, a0, a1, a2, a3, a4⟩ := hr
  have hne : es0 ≠ [] := by intro e; subst e; simp at a3; omega
  have hz : red P (Q : Int) es0 = 0 := by unfold red; rw [a3, a4, Int.mul_comm]; omega
  obtain ⟨x, hx⟩ := Int.eq_ofNat_of_zero_le a0
  subst hx
  have hxk : x < k := by omega
  obtain ⟨m0, b0, b1, b2⟩ := argmin (fun m => Fin_ w m x) (fun m => (Q : Int) * wv w m x - P * (m : Int)) k ⟨0, by omega, (isfin hw hk (Nat.zero_le _) hxk (u := (x : Int)) (es := []) (by omega) (by omega) rfl rfl).1⟩
  have hQ0 : (0 : Int) ≤ (Q : Int) := by omega
  have pi : ∀ (n : Nat) (es : List Cost) (u : Int), es.length ≤ n → 0 ≤ u → u < (k : Int) → chain l u es (x : Int) → (Q : Int) * wv w m0 x - P * (m0 : Int) ≤ red P (Q : Int) es := by
    intro n
    induction n with
    | zero =>
      intro es u hl h0 h1 hc
      have hf := isfin hw hk (Nat.zero_le _) hxk h0 h1 hc (by omega)
      have := b2 0 (by omega) hf.1
      have e0 : es.length = 0 := by omega
      have m1 := Int.mul_le_mul_of_nonneg_left hf.2 hQ0
      unfold red
      rw [e0]
      omega
    | succ n ih =>
      intro es u hl h0 h1 hc
      by_cases hlt : es.length < k
      · have hf := isfin hw hk (by omega) hxk h0 h1 hc rfl
        have := b2 es.length hlt hf.1
        have m1 := Int.mul_le_mul_of_nonneg_left hf.2 hQ0
        unfold red
        omega
      · obtain ⟨a, c, b, m, e1, e2, e3, e4, e5⟩ := long_ring hin hc h0 h1 (by omega)
        have hm := chain_end hin a e3 h0 h1
        have r1 := hall m c hm.1 hm.2 e4
        have hc1 : 1 ≤ c.length := by cases c with
          | nil => exact absurd rfl e2
          | cons e es => simp
        have r2 := ih (a ++ b) u (by have := congrArg List.length e1; simp at this ⊢; omega) h0 h1 ((chain_app a).2 ⟨m, e3, e5⟩)
        rw [e1, red_app, red_app]
        rw [red_app] at r2
        omega
  obtain ⟨_, _, ⟨u1, X, c1, c2, c3, c4, c5⟩, _⟩ := val hw hk (by omega) hxk b1
  obtain ⟨i, A, B, d1, d2, d3, d4⟩ := ring_steps a2 hne hz (k - m0)
  have hi := chain_end hin A d1 (by omega) (by omega)
  obtain ⟨y, hy⟩ := Int.eq_ofNat_of_zero_le hi.1
  subst hy
  have hyk : y < k := by omega
  have hX := isfin hw hk (Nat.le_refl k) hyk c1 c2 ((chain_app X).2 ⟨_, c3, d1⟩) (by simp; omega)
  have rX : red P (Q : Int) X = (Q : Int) * wv w m0 x - P * (m0 : Int) := by unfold red; rw [c4, c5]
  refine ⟨y, hyk, hX.1, fun m hm hfm => ?_⟩
  obtain ⟨_, _, ⟨u2, Y, f1, f2, f3, f4, f5⟩, _⟩ := val hw hk (by omega) hyk hfm
  have r1 := pi _ (Y ++ B) u2 (Nat.le_refl _) f1 f2 ((chain_app Y).2 ⟨_, f3, d3⟩)
  have r2 : red P (Q : Int) Y = (Q : Int) * wv w m y - P * (m : Int) := by unfold red; rw [f4, f5]
  have r3 : red P (Q : Int) (X ++ A) = (Q : Int) * cst (X ++ A) - P * (k : Int) := by
    unfold red; congr 3; simp; omega
  have m1 := Int.mul_le_mul_of_nonneg_left hX.2 hQ0
  rw [red_app] at r1 r3
  omega
theorem prefix_fin (hin : InC k l) (hk : k ≤ 8) (hw : ∀ m : Nat, m ≤ k → RowOk k l m (w.getD m [])) {v : Nat} (hv : v < k) (hf : Fin_ w k v) : ∀ m, m ≤ k → Fin_ w m v ∧ wv w m v ≤ wv w k v := by
  intro m hm
  obtain ⟨_, _, ⟨u, es, c1, c2, c3, c4, c5⟩, _⟩ := val hw hk (Nat.le_refl k) hv hf
  have hsp : es = es.take (k - m) ++ es.drop (k - m) := (List.take_append_drop _ _).symm
  rw [hsp] at c3
  obtain ⟨x, h1, h2⟩ := (chain_app _).1 c3
  have hx := chain_end hin _ h1 c1 c2
  have h3 := isfin hw hk hm hv hx.1 hx.2 h2 (by rw [List.length_drop]; omega)
  have h4 := (chain_cost hin _ h1).1
  rw [hsp, cst_app] at c5
  exact ⟨h3.1, by omega⟩
end
theorem small_mul {x y : Int} (h0 : 0 ≤ x) (h1 : x ≤ 1000) (h2 : 0 ≤ y) (h3 : y ≤ 1000) : 0 ≤ x * y ∧ x * y ≤ 1000000 := by
  have a := Int.mul_nonneg h0 h2
  have b := Int.mul_le_mul h1 h3 h2 (by omega : (0 : Int) ≤ 1000)
  omega
theorem ratio {x b s y b' s' : Int} (h1 : x * b ≤ s * y) (h2 : s * b' ≤ s' * b) (hb : 0 < b) (hy : 0 ≤ y) (hb' : 0 ≤ b') : x * b' ≤ s' * y := by
  have m1 := Int.mul_le_mul_of_nonneg_right h1 hb'
  have m2 := Int.mul_le_mul_of_nonneg_right h2 hy
  have e1 : x * b * b' = (x * b') * b := by simp only [Int.mul_assoc, Int.mul_comm, Int.mul_left_comm]
  have e2 : s * y * b' = s * b' * y := by simp only [Int.mul_assoc, Int.mul_comm, Int.mul_left_comm]
  have e3 : s' * b * y = (s' * y) * b := by simp only [Int.mul_assoc, Int.mul_comm, Int.mul_left_comm]
  rw [e1, e2] at m1
  rw [e3] at m2
  exact Int.le_of_mul_le_mul_right (Int.le_trans m1 m2) hb
/-- the worst of all averages at a point -/
def Mx (k : Nat) (w : List (List Int)) (j v : Nat) (s b : Int) : Prop :=
  ∃ m : Nat, m < j ∧ s = wv w k v - wv w m v ∧ b = (k : Int) - (m : Int) ∧ ∀ m' : Nat, m' < j → (wv w k v - wv w m' v) * b ≤ s * ((k : Int) - (m' : Int))
section
variable {k : Nat} {l : List Cost} {w : List (List Int)}
theorem least_L2 (hin : InC k l) (hk : k ≤ 8) (hw : ∀ m : Nat, m ≤ k → RowOk k l m (w.getD m [])) (hwl : w.length = k + 1) {v : Nat} (hv : v < k) (hf : Fin_ w k v) : ∀ g j s b, k < g + j → j ≤ k → (j = 0 → s = -1 ∧ b = 1) → (0 < j → Mx k w j v s b) →
    ∃ s' b', mean_Least_L2 300 (k : Int) w (v : Int) g (j : Int) s b = some (s', b') ∧ (0 < k → Mx k w k v s' b')
  | 0, j, s, b, h, _, _, _ => by omega
  | g+1, j, s, b, h, hj, h0, h1 => by
    rw [mean_Least_L2_s]
    by_cases hlt : j < k
    · have hrow : ∀ m : Nat, m ≤ k → ix w (m : Int) = some (w.getD m []) := fun m hm => ix_at [] (by omega)
      have hel : ∀ m : Nat, m ≤ k → ix (w.getD m []) (v : Int) = some (wv w m v) := fun m hm => ix_at 0 (by rw [(hw m hm).1]; exact hv)
      have pf := prefix_fin hin hk hw hv hf
      have vk := val hw hk (Nat.le_refl k) hv hf
      have hne : (wv w j v == 1073741824) = false := by simpa using (pf j (by omega)).1
      have vj := val hw hk (by omega) hv (pf j (by omega)).1
      have lej := (pf j (by omega)).2
      rw [if_pos (by omega)]
      simp only [hrow j (by omega), hrow k (Nat.le_refl k), hel j (by omega), hel k (Nat.le_refl k), Option.bind_some, hne]
      have e1 : wrap64 (wv w k v - wv w j v) = wv w k v - wv w j v := w64 (by omega) (by omega)
      have e2 : wrap64 ((k : Int) - (j : Int)) = (k : Int) - (j : Int) := w64 (by omega) (by omega)
      rw [e1, e2, w64n (by omega)]
      have take : (∀ m' : Nat, m' < j → (wv w k v - wv w m' v) * ((k : Int) - (j : Int)) ≤ (wv w k v - wv w j v) * ((k : Int) - (m' : Int))) → ∃ s' b', mean_Least_L2 300 (k : Int) w (v : Int) g ((j+1 : Nat) : Int) (wv w k v - wv w j v) ((k : Int) - (j : Int)) = some (s', b') ∧ (0 < k → Mx k w k v s' b') := fun hall =>
        least_L2 hin hk hw hwl hv hf g (j+1) _ _ (by omega) (by omega) (fun h => by omega) (fun _ => ⟨j, by omega, rfl, rfl, fun m' hm' => by
          by_cases e : m' = j
          · subst e; exact Int.le_refl _
          · exact hall m' (by omega)⟩)
      by_cases hj0 : j = 0
      · obtain ⟨rfl, rfl⟩ := h0 hj0
        obtain ⟨s', b', q1, q2⟩ := take (fun m' hm' => by omega)
        exact ⟨s', b', by simpa using q1, q2⟩
      · obtain ⟨m, g1, rfl, rfl, g4⟩ := h1 (by omega)
        have lem := (pf m (by omega)).2
        have vm := val hw hk (by omega) hv (pf m (by omega)).1
        have ns : ¬ (wv w k v - wv w m v) < 0 := by omega
        have p1 := small_mul (x := wv w k v - wv w m v) (y := (k : Int) - (j : Int)) (by omega) (by omega) (by omega) (by omega)
        have p2 := small_mul (x := wv w k v - wv w j v) (y := (k : Int) - (m : Int)) (by omega) (by omega) (by omega) (by omega)
        have w1 : wrap64 ((wv w k v - wv w m v) * ((k : Int) - (j : Int))) = (wv w k v - wv w m v) * ((k : Int) - (j : Int)) := w64 (by omega) (by omega)
        have w2 : wrap64 ((wv w k v - wv w j v) * ((k : Int) - (m : Int))) = (wv w k v - wv w j v) * ((k : Int) - (m : Int)) := w64 (by omega) (by omega)
        rw [w1, w2]
        by_cases hless : (wv w k v - wv w m v) * ((k : Int) - (j : Int)) < (wv w k v - wv w j v) * ((k : Int) - (m : Int))
        · obtain ⟨s', b', q1, q2⟩ := take (fun m' hm' => ratio (g4 m' hm') (Int.le_of_lt hless) (by omega) (by omega) (by omega))
          refine ⟨s', b', ?_, q2⟩
          simp only [ns, hless, if_true, if_false, Option.bind_some]
          simpa using q1
        · obtain ⟨s', b', q1, q2⟩ := least_L2 hin hk hw hwl hv hf g (j+1) _ _ (by omega) (by omega) (fun h => by omega) (fun _ => ⟨m, by omega, rfl, rfl, fun m' hm' => by
            by_cases e : m' = j
            · subst e; exact Int.not_lt.1 hless
            · exact g4 m' (by omega)⟩)
          refine ⟨s', b', ?_, q2⟩
          simp only [ns, hless, if_false, Option.bind_some]
          simpa using q1
    · obtain rfl : j = k := by omega
      rw [if_neg (by omega)]
      exact ⟨s, b, rfl, h1⟩
/-- the least of the worst averages, of the points below j -/
def Lst (k : Nat) (w : List (List Int)) (j : Nat) (sum many : Int) : Prop :=
  (sum = 0 ∧ many = 0 ∧ ∀ i : Nat, i < j → ¬ Fin_ w k i) ∨ ∃ i : Nat, i < j ∧ Fin_ w k i ∧ Mx k w k i sum many ∧ ∀ i' : Nat, i' < j → Fin_ w k i' → ∃ s' b', Mx k w k i' s' b' ∧ sum * b' ≤ s' * many
theorem Mx.bounds (hin : InC k l) (hk : k ≤ 8) (hw : ∀ m : Nat, m ≤ k → RowOk k l m (w.getD m [])) {i : Nat} (hi : i < k) (hf : Fin_ w k i) {s b : Int} (h : Mx k w k i s b) : 0 ≤ s ∧ s ≤ 160 ∧ 1 ≤ b ∧ b ≤ (k : Int) := by
  obtain ⟨m, h1, rfl, rfl, _⟩ := h
  have pf := (prefix_fin hin hk hw hi hf m (by omega)).2
  have v1 := val hw hk (Nat.le_refl k) hi hf
  have v2 := val hw hk (by omega) hi (prefix_fin hin hk hw hi hf m (by omega)).1
  omega
theorem least_L1 (hin : InC k l) (hk : k ≤ 8) (hk1 : 1 ≤ k) (hw : ∀ m : Nat, m ≤ k → RowOk k l m (w.getD m [])) (hwl : w.length = k + 1) : ∀ g j sum many, k < g + j → j ≤ k → Lst k w j sum many →
    ∃ s' b', mean_Least_L1 300 (k : Int) w g (j : Int) sum many = some (s', b') ∧ Lst k w k s' b'
  | 0, j, sum, many, h, _, _ => by omega
  | g+1, j, sum, many, h, hj, hL => by
    rw [mean_Least_L1_s]
    by_cases hlt : j < k
    · have hrow : ix w (k : Int) = some (w.getD k []) := ix_at [] (by omega)
      have hel : ix (w.getD k []) (j : Int) = some (wv w k j) := ix_at 0 (by rw [(hw k (Nat.le_refl k)).1]; exact hlt)
      rw [if_pos (by omega), hrow, Option.bind_some, hel, Option.bind_some, w64n (by omega)]
      by_cases hf : wv w k j = 1073741824
      · rw [if_pos (by simpa using hf)]
        refine least_L1 hin hk hk1 hw hwl g (j+1) sum many (by omega) (by omega) ?_
        rcases hL with ⟨q1, q2, q3⟩ | ⟨i, q1, q2, q3, q4⟩
        · refine .inl ⟨q1, q2, fun i hi => ?_⟩
          by_cases e : i = j
          · subst e; exact fun h => h hf
          · exact q3 i (by omega)
        · refine .inr ⟨i, by omega, q2, q3, fun i' hi' hf' => ?_⟩
          by_cases e : i' = j
          · subst e; exact absurd hf hf'
          · exact q4 i' (by omega) hf'
      · have hff : Fin_ w k j := hf
        rw [if_neg (by simpa using hf)]
        obtain ⟨s, b, e1, e2⟩ := least_L2 hin hk hw hwl hlt hff 300 0 (-1) 1 (by omega) (by omega) (fun _ => ⟨rfl, rfl⟩) (fun h => by omega)
        have e1' : mean_Least_L2 300 (k : Int) w (j : Int) 300 0 (-1) 1 = _ := e1
        have hM := e2 (by omega)
        have bd := hM.bounds hin hk hw hlt hff
        rw [e1', Option.bind_some]
        rcases hL with ⟨rfl, rfl, q3⟩ | ⟨i, q1, q2, q3, q4⟩
        · obtain ⟨s', b', r1, r2⟩ := least_L1 hin hk hk1 hw hwl g (j+1) s b (by omega) (by omega) (.inr ⟨j, by omega, hff, hM, fun i' hi' hf' => by
            by_cases e : i' = j
            · subst e; exact ⟨s, b, hM, Int.le_refl _⟩
            · exact absurd hf' (q3 i' (by omega))⟩)
          exact ⟨s', b', by simpa using r1, r2⟩
        · have bi := q3.bounds hin hk hw (by omega) q2
          have n0 : (many == 0) = false := by simp; omega
          have p1 := small_mul (x := s) (y := many) (by omega) (by omega) (by omega) (by omega)
          have p2 := small_mul (x := sum) (y := b) (by omega) (by omega) (by omega) (by omega)
          have w1 : wrap64 (s * many) = s * many := w64 (by omega) (by omega)
          have w2 : wrap64 (sum * b) = sum * b := w64 (by omega) (by omega)
          rw [w1, w2]
          by_cases hless : s * many < sum * b
          · obtain ⟨s', b', r1, r2⟩ := least_L1 hin hk hk1 hw hwl g (j+1) s b (by omega) (by omega) (.inr ⟨j, by omega, hff, hM, fun i' hi' hf' => by
              by_cases e : i' = j
              · subst e; exact ⟨s, b, hM, Int.le_refl _⟩
              · obtain ⟨s2, b2, t1, t2⟩ := q4 i' (by omega) hf'
                have bt := t1.bounds hin hk hw (by omega) hf'
                exact ⟨s2, b2, t1, ratio (Int.le_of_lt hless) t2 (by omega) (by omega) (by omega)⟩⟩)
            exact ⟨s', b', by simpa [n0, hless] using r1, r2⟩
          · obtain ⟨s', b', r1, r2⟩ := least_L1 hin hk hk1 hw hwl g (j+1) sum many (by omega) (by omega) (.inr ⟨i, by omega, q2, q3, fun i' hi' hf' => by
              by_cases e : i' = j
              · subst e; exact ⟨s, b, hM, Int.not_lt.1 hless⟩
              · exact q4 i' (by omega) hf'⟩)
            exact ⟨s', b', by simpa [n0, hless] using r1, r2⟩
    · obtain rfl : j = k := by omega
      rw [if_neg (by omega)]
      exact ⟨sum, many, rfl, hL⟩
/-- what is found: no ring costs less for each line, and one as much -/
structure Mean (k : Nat) (l : List Cost) (a b : Int) : Prop where
  a0 : 0 ≤ a
  a1 : a ≤ 160
  b0 : 1 ≤ b
  b1 : b ≤ 8
  all : ∀ u es, 0 ≤ u → u < (k : Int) → chain l u es u → a * (es.length : Int) ≤ cst es * b
  one : ∃ u es, 0 ≤ u ∧ u < (k : Int) ∧ chain l u es u ∧ es ≠ [] ∧ a * (es.length : Int) = cst es * b
theorem mean_of (hin : InC k l) (hk : k ≤ 8) (hk1 : 1 ≤ k) (hw : ∀ m : Nat, m ≤ k → RowOk k l m (w.getD m [])) {sum many : Int} (hL : Lst k w k sum many) :
    (sum = 0 ∧ many = 0 ∧ ∀ u es, 0 ≤ u → u < (k : Int) → chain l u es u → es = []) ∨ Mean k l sum many := by
  rcases hL with ⟨rfl, rfl, q3⟩ | ⟨i, q1, q2, q3, q4⟩
  · refine .inl ⟨rfl, rfl, fun u es h0 h1 hc => ?_⟩
    cases es with
    | nil => rfl
    | cons e es =>
      exfalso
      obtain ⟨Q, P, r1, r2, r3, r4⟩ := best_ring hin hk (q0 := (e :: es).length) ⟨u, e :: es, h0, h1, hc, rfl, rfl⟩ (by simp)
      obtain ⟨i, t1, t2, _⟩ := karp hin hk hw r1 r3 r4
      exact q3 i t1 t2
  · have bd := q3.bounds hin hk hw q1 q2
    obtain ⟨mm, g1, g2, g3, g4⟩ := q3
    -- a ring that costs no more
    have hring : ∃ u es, 0 ≤ u ∧ u < (k : Int) ∧ chain l u es u ∧ es ≠ [] ∧ cst es * many ≤ sum * (es.length : Int) := by
      obtain ⟨_, _, ⟨u, es, c1, c2, c3, c4, c5⟩, _⟩ := val hw hk (Nat.le_refl k) q1 q2
      obtain ⟨a, c, b, m, e1, e2, e3, e4, e5⟩ := long_ring hin c3 c1 c2 (by omega)
      have hm := chain_end hin a e3 c1 c2
      have hc1 : 1 ≤ c.length := by cases c with
        | nil => exact absurd rfl e2
        | cons e es => simp
      have hlen : a.length + c.length + b.length = k := by have := congrArg List.length e1; simp at this; omega
      have hab := isfin hw hk (m := k - c.length) (by omega) q1 c1 c2 ((chain_app a).2 ⟨m, e3, e5⟩) (by simp; omega)
      have hg := g4 (k - c.length) (by omega)
      have e6 : ((k : Int) - ((k - c.length : Nat) : Int)) = (c.length : Int) := by omega
      rw [e6] at hg
      refine ⟨m, c, hm.1, hm.2, e4, e2, ?_⟩
      have e7 : cst c ≤ wv w k i - wv w (k - c.length) i := by
        rw [e1, cst_app, cst_app] at c5
        have := hab.2
        rw [cst_app] at this
        omega
      exact Int.le_trans (Int.mul_le_mul_of_nonneg_right e7 (by omega)) hg
    obtain ⟨u, es, h0, h1, hc, hne, hle⟩ := hring
    have hlen : 1 ≤ es.length := by cases es with
      | nil => exact absurd rfl hne
      | cons e es => simp
    obtain ⟨Q, P, r1, r2, r3, r4⟩ := best_ring hin hk (q0 := es.length) ⟨u, es, h0, h1, hc, rfl, rfl⟩ hlen
    obtain ⟨i', t1, t2, t3⟩ := karp hin hk hw r1 r3 r4
    obtain ⟨s', b', y1, y2⟩ := q4 i' t1 t2
    have bd' := y1.bounds hin hk hw t1 t2
    obtain ⟨m', z1, z2, z3, _⟩ := y1
    have k1 := t3 m' z1 (prefix_fin hin hk hw t1 t2 m' (by omega)).1
    have k2 : (Q : Int) * s' ≤ P * b' := by
      rw [z2, z3, Int.mul_sub, Int.mul_sub]; omega
    -- sum / many ≤ P / Q
    have k3 : sum * (Q : Int) ≤ P * many := ratio (x := sum) (b := b') (s := s') (y := many) (b' := (Q : Int)) (s' := P) y2 (by rw [Int.mul_comm s']; exact k2) (by omega) (by omega) (by omega)
    have hall : ∀ u es, 0 ≤ u → u < (k : Int) → chain l u es u → sum * (es.length : Int) ≤ cst es * many := by
      intro u es h0 h1 hc
      have r := r4 u es h0 h1 hc
      unfold red at r
      exact ratio (x := sum) (b := (Q : Int)) (s := P) (y := many) (b' := (es.length : Int)) (s' := cst es) k3 (by rw [Int.mul_comm (cst es)]; omega) (by omega) (by omega) (by omega)
    exact .inr ⟨bd.1, bd.2.1, bd.2.2.1, by omega, hall, u, es, h0, h1, hc, hne, Int.le_antisymm (hall u es h0 h1 hc) hle⟩
/-! ### what Least returns -/
def errCs (n : Int) : List Cost → Int
  | [] => 0
  | e :: l => if ¬ (((0 ≤ e.1 ∧ e.1 ≤ n - 1) ∧ (0 ≤ e.2.1 ∧ e.2.1 ≤ n - 1)) ∧ (0 ≤ e.2.2 ∧ e.2.2 ≤ 20)) then 1 else if e.1 = e.2.1 then 3 else errCs n l
def errC (n : Int) (l : List Cost) : Int := if ¬ (1 ≤ n ∧ n ≤ 8) then 1 else if 24 < l.length then 4 else errCs n l
theorem errCs_in {k : Nat} : ∀ {l : List Cost}, errCs (k : Int) l = 0 → InC k l
  | [], _ => fun e he => by cases he
  | e :: l, h => by
    unfold errCs at h
    split at h
    · cases h
    · rename_i h1
      split at h
      · cases h
      · rename_i h2
        intro x hx
        rcases List.mem_cons.1 hx with rfl | hx
        · exact ⟨by omega, by omega, by omega, h2⟩
        · exact errCs_in h x hx
theorem spanck_L1 (n : Int) (hn : 1 ≤ n ∧ n ≤ 8) (l : List Cost) (hl : l.length ≤ 24) : ∀ g t, l.length < g + t → t ≤ l.length →
    span_Check_L1 300 n l g (t : Int) = some (if errCs n (l.drop t) = 0 then .inl () else .inr (errCs n (l.drop t)))
  | 0, t, h, _ => by omega
  | g+1, t, h, ht => by
    rw [span_Check_L1_s]
    by_cases hlt : t < l.length
    · rw [if_pos (by omega), ix_nat hlt, List.drop_eq_getElem_cons hlt, w64n (by omega), w64 (by omega) (by omega)]
      have ih := spanck_L1 n hn l hl g (t+1) (by omega) (by omega)
      push_cast at ih
      generalize l[t] = e at *
      simp only [Option.bind_some, core_All_ev 0 (n - 1) (show [e.1, e.2.1].length < 300 by simp) (show [e.1, e.2.1].length < 9223372036854775807 by simp), core_Within_ev]
      have e1 : allIn [e.1, e.2.1] 0 (n - 1) = decide ((0 ≤ e.1 ∧ e.1 ≤ n - 1) ∧ (0 ≤ e.2.1 ∧ e.2.1 ≤ n - 1)) := by
        rw [Bool.eq_iff_iff]; simp [allIn]
      rw [e1]
      unfold errCs
      by_cases h1 : (0 ≤ e.1 ∧ e.1 ≤ n - 1) ∧ (0 ≤ e.2.1 ∧ e.2.1 ≤ n - 1)
      · by_cases h2 : 0 ≤ e.2.2 ∧ e.2.2 ≤ 20
        · by_cases h3 : e.1 = e.2.1
          · have h3' : (e.1 == e.2.1) = true := by simpa using h3
            rw [if_pos (decide_eq_true h1), if_pos (decide_eq_true h2), if_neg (not_not_intro (And.intro h1 h2)), if_pos h3]
            simp [h3']
          · have h3' : (e.1 == e.2.1) = false := by simpa using h3
            rw [if_pos (decide_eq_true h1), if_pos (decide_eq_true h2), if_neg (not_not_intro (And.intro h1 h2)), if_neg h3]
            simp [h3', ih]
        · rw [if_pos (decide_eq_true h1), if_neg (by simpa using h2), if_pos (fun h => h2 h.2)]
          simp
      · rw [if_neg (by simpa using h1), if_pos (fun h => h1 h.1)]
        simp
    · obtain rfl : t = l.length := by omega
      rw [if_neg (by omega), List.drop_length]; rfl
theorem spanck_ev (n : Int) (l : List Cost) : span_Check 300 n l = some (errC n l) := by
  unfold span_Check errC
  rw [core_Within_ev, Option.bind_some]
  by_cases hn : 1 ≤ n ∧ n ≤ 8
  · rw [if_pos (by simpa using hn), if_neg (not_not_intro hn)]
    by_cases hl : 24 < l.length
    · rw [if_pos (by omega), if_pos hl]
    · have h := spanck_L1 n hn l (by omega) 300 0 (by omega) (by omega)
      have h' : span_Check_L1 300 n l 300 0 = _ := h
      rw [if_neg (by omega), if_neg hl, h', List.drop_zero]
      by_cases e : errCs n l = 0 <;> simp [e]
  · rw [if_neg (by simpa using hn), if_pos hn]
theorem errC_zero {n : Int} {l : List Cost} (h : errC n l = 0) : ∃ k : Nat, n = k ∧ 1 ≤ k ∧ k ≤ 8 ∧ l.length ≤ 24 ∧ InC k l := by
  unfold errC at h
  split at h
  · cases h
  · rename_i h1
    split at h
    · cases h
    · obtain ⟨k, rfl⟩ := Int.eq_ofNat_of_zero_le (show 0 ≤ n by omega)
      exact ⟨k, rfl, by omega, by omega, by omega, errCs_in h⟩
theorem gcds : ∀ m : Nat, m < 9 → ∀ s : Nat, s < 161 → m = 0 ∨ ((mean_gcd 300 (m : Int) (s : Int)).bind fun y16 => (dv (s : Int) y16).bind fun y17 => (dv (m : Int) y16).bind fun y18 => some (y17, y18, (0 : Int))) = some (((s / Nat.gcd m s : Nat) : Int), ((m / Nat.gcd m s : Nat) : Int), 0) := by decide +kernel
theorem least_ev (n : Int) (l : List Cost) :
    (errC n l ≠ 0 ∧ mean_Least 300 n l = some (0, 0, errC n l)) ∨ (errC n l = 0 ∧ mean_Least 300 n l = some (0, 0, 5) ∧ ∀ u es, 0 ≤ u → u < n → chain l u es u → es = []) ∨
    ∃ k a b : Nat, errC n l = 0 ∧ n = (k : Int) ∧ mean_Least 300 n l = some ((a : Int), (b : Int), 0) ∧ Mean k l (a : Int) (b : Int) ∧ Nat.gcd b a = 1 := by
  unfold mean_Least
  rw [spanck_ev, Option.bind_some]
  by_cases he : errC n l = 0
  · obtain ⟨k, rfl, hk1, hk8, hl24, hin⟩ := errC_zero he
    obtain ⟨w, w1, w2, w3⟩ := table hin hk8 hl24
    obtain ⟨sum, many, e1, e2⟩ := least_L1 hin hk8 hk1 w3 w2 300 0 0 0 (by omega) (by omega) (.inl ⟨rfl, rfl, fun i hi => by omega⟩)
    have e1' : mean_Least_L1 300 (k : Int) w 300 0 0 0 = _ := e1
    rw [if_neg (by simp [he]), w1, Option.bind_some, e1', Option.bind_some]
    right
    rcases mean_of hin hk8 hk1 w3 e2 with ⟨rfl, rfl, h3⟩ | hM
    · left
      exact ⟨he, by simp, h3⟩
    · right
      obtain ⟨s, hs⟩ := Int.eq_ofNat_of_zero_le hM.a0
      obtain ⟨m, hm⟩ := Int.eq_ofNat_of_zero_le (show 0 ≤ many by have := hM.b0; omega)
      subst hs; subst hm
      have b0 := hM.b0; have b1 := hM.b1; have a1 := hM.a1
      have hg := (gcds m (by omega) s (by omega)).resolve_left (by omega)
      have hgp : 0 < Nat.gcd m s := Nat.gcd_pos_of_pos_left _ (by omega)
      refine ⟨k, s / Nat.gcd m s, m / Nat.gcd m s, he, rfl, ?_, ?_, ?_⟩
      · rw [if_neg (by simp; omega)]; exact hg
      · have d1 : s / Nat.gcd m s * Nat.gcd m s = s := Nat.div_mul_cancel (Nat.gcd_dvd_right m s)
        have d2 : m / Nat.gcd m s * Nat.gcd m s = m := Nat.div_mul_cancel (Nat.gcd_dvd_left m s)
        have c1 : s / Nat.gcd m s ≤ s := Nat.div_le_self _ _
        have c2 : m / Nat.gcd m s ≤ m := Nat.div_le_self _ _
        have c3 : 0 < m / Nat.gcd m s := Nat.div_pos (Nat.gcd_le_left _ (by omega)) hgp
        generalize Nat.gcd m s = G at *
        generalize s / G = x at *
        generalize m / G = y at *
        have hG : (0 : Int) < (G : Int) := by omega
        have red2 : ∀ (c : Int) (n : Int), ((s : Int) * n ≤ c * (m : Int) ↔ (x : Int) * n ≤ c * (y : Int)) := fun c n => by
          rw [← d1, ← d2, Int.natCast_mul, Int.natCast_mul]
          have e1 : (x : Int) * (G : Int) * n = (x : Int) * n * (G : Int) := by simp only [Int.mul_assoc, Int.mul_comm, Int.mul_left_comm]
          have e2 : c * ((y : Int) * (G : Int)) = c * (y : Int) * (G : Int) := by simp only [Int.mul_assoc]
          rw [e1, e2]
          exact ⟨fun h => Int.le_of_mul_le_mul_right h hG, fun h => Int.mul_le_mul_of_nonneg_right h (by omega)⟩
        have red3 : ∀ (c : Int) (n : Int), ((s : Int) * n = c * (m : Int) → (x : Int) * n = c * (y : Int)) := fun c n h => by
          rw [← d1, ← d2, Int.natCast_mul, Int.natCast_mul] at h
          have e1 : (x : Int) * (G : Int) * n = (x : Int) * n * (G : Int) := by simp only [Int.mul_assoc, Int.mul_comm, Int.mul_left_comm]
          have e2 : c * ((y : Int) * (G : Int)) = c * (y : Int) * (G : Int) := by simp only [Int.mul_assoc]
          rw [e1, e2] at h
          exact Int.eq_of_mul_eq_mul_right (by omega) h
        obtain ⟨u, es, p1, p2, p3, p4, p5⟩ := hM.one
        exact ⟨by omega, by omega, by omega, by omega, fun u es h0 h1 hc => (red2 _ _).1 (hM.all u es h0 h1 hc), u, es, p1, p2, p3, p4, red3 _ _ p5⟩
      · exact Nat.gcd_div_gcd_div_gcd_of_pos_left (by omega)
  · left
    rw [if_pos (by simpa using he)]
    exact ⟨he, rfl⟩
end
end Go.Proofs.YtoiidngnlhhanaaDoor
