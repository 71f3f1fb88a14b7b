import Derived.Test.YtcbalejnkhnppaaDoorHi
/- plain: walks within a set; cuts (towards ChordalRings) -/
set_option linter.all false
set_option maxRecDepth 100000
namespace Go.Proofs.YtcbalejnkhnppaaDoor
open Go.RowKit Go.Shelf Pl
/-- a walk within a set -/
def WU (a : Nat → Nat → Bool) (U : Nat → Prop) (n u v : Nat) : Prop := ∃ g : Nat → Nat, g 0 = u ∧ g n = v ∧ (∀ i, i ≤ n → U (g i)) ∧ ∀ i, i < n → a (g i) (g (i+1)) = true
theorem WU.nil {a : Nat → Nat → Bool} {U : Nat → Prop} {u : Nat} (h : U u) : WU a U 0 u u := ⟨fun _ => u, rfl, rfl, fun _ _ => h, fun i hi => by omega⟩
theorem WU.cons {a : Nat → Nat → Bool} {U : Nat → Prop} {n u x v : Nat} (hu : U u) (e : a u x = true) (h : WU a U n x v) : WU a U (n+1) u v := by
  obtain ⟨g, g1, g2, g3, g4⟩ := h
  obtain ⟨F, F0, F1⟩ : ∃ F : Nat → Nat, F 0 = u ∧ ∀ i, F (i+1) = g i := ⟨fun i => match i with | 0 => u | i+1 => g i, rfl, fun _ => rfl⟩
  refine ⟨F, F0, by rw [F1]; exact g2, fun i hi => ?_, fun i hi => ?_⟩
  · cases i with
    | zero => rw [F0]; exact hu
    | succ i => rw [F1]; exact g3 i (by omega)
  · cases i with
    | zero => rw [F0, F1, g1]; exact e
    | succ i => rw [F1, F1]; exact g4 i (by omega)
theorem WU.un {a : Nat → Nat → Bool} {U : Nat → Prop} {n u v : Nat} (h : WU a U (n+1) u v) : ∃ x, U u ∧ a u x = true ∧ WU a U n x v := by
  obtain ⟨g, g1, g2, g3, g4⟩ := h
  exact ⟨g 1, by rw [← g1]; exact g3 0 (by omega), by rw [← g1]; exact g4 0 (by omega), fun i => g (i+1), rfl, g2, fun i hi => g3 (i+1) (by omega), fun i hi => g4 (i+1) (by omega)⟩
theorem WU.zero {a : Nat → Nat → Bool} {U : Nat → Prop} {u v : Nat} (h : WU a U 0 u v) : u = v ∧ U u := by
  obtain ⟨g, g1, g2, g3, _⟩ := h
  exact ⟨by rw [← g1, g2], by rw [← g1]; exact g3 0 (Nat.le_refl _)⟩
theorem WU.snoc {a : Nat → Nat → Bool} {U : Nat → Prop} : ∀ {n u x v : Nat}, WU a U n u x → a x v = true → U v → WU a U (n+1) u v
  | 0, u, x, v, h, e, hv => by
    obtain ⟨rfl, hu⟩ := h.zero
    exact WU.cons hu e (WU.nil hv)
  | n+1, u, x, v, h, e, hv => by
    obtain ⟨y, h1, h2, h3⟩ := h.un
    exact WU.cons h1 h2 (h3.snoc e hv)
theorem WU.append {a : Nat → Nat → Bool} {U : Nat → Prop} : ∀ {n m u x v : Nat}, WU a U n u x → WU a U m x v → WU a U (n+m) u v
  | 0, m, u, x, v, h, h' => by
    obtain ⟨rfl, _⟩ := h.zero
    rw [Nat.zero_add]; exact h'
  | n+1, m, u, x, v, h, h' => by
    obtain ⟨y, h1, h2, h3⟩ := h.un
    rw [show n + 1 + m = (n + m) + 1 by omega]
    exact WU.cons h1 h2 (h3.append h')
theorem WU.rev {a : Nat → Nat → Bool} (hs : ∀ i j, a i j = a j i) {U : Nat → Prop} : ∀ {n u v : Nat}, WU a U n u v → WU a U n v u
  | 0, u, v, h => by
    obtain ⟨rfl, hu⟩ := h.zero
    exact WU.nil hu
  | n+1, u, v, h => by
    obtain ⟨y, h1, h2, h3⟩ := h.un
    exact (h3.rev hs).snoc (by rw [hs]; exact h2) h1
theorem WU.mono {a : Nat → Nat → Bool} {U V : Nat → Prop} (hUV : ∀ u, U u → V u) {n u v : Nat} (h : WU a U n u v) : WU a V n u v := by
  obtain ⟨g, g1, g2, g3, g4⟩ := h
  exact ⟨g, g1, g2, fun i hi => hUV _ (g3 i hi), g4⟩
theorem WU.last {a : Nat → Nat → Bool} {U : Nat → Prop} {n u v : Nat} (h : WU a U n u v) : U v := by
  obtain ⟨g, g1, g2, g3, g4⟩ := h
  rw [← g2]; exact g3 n (Nat.le_refl _)
/-- a walk that may meet one point more: it does, or it needs it not -/
theorem first_hit {a : Nat → Nat → Bool} {U : Nat → Prop} {p y : Nat} : ∀ {n x : Nat}, WU a (fun u => U u ∨ u = p) n x y → U x → U y → (∃ m, WU a U m x y) ∨ ∃ z m, WU a U m x z ∧ a z p = true
  | 0, x, h, hx, hy => by
    obtain ⟨rfl, _⟩ := h.zero
    exact .inl ⟨0, WU.nil hx⟩
  | n+1, x, h, hx, hy => by
    obtain ⟨w, h1, h2, h3⟩ := h.un
    by_cases e : w = p
    · subst e; exact .inr ⟨x, 0, WU.nil hx, h2⟩
    · have hw : U w := by
        obtain ⟨g, g1, _, g3, _⟩ := h3
        have := g3 0 (Nat.zero_le _)
        rw [g1] at this
        exact this.resolve_right e
      rcases first_hit h3 hw hy with ⟨m, q⟩ | ⟨z, m, q, r⟩
      · exact .inl ⟨m+1, WU.cons hx h2 q⟩
      · exact .inr ⟨z, m+1, WU.cons hx h2 q, r⟩
/-- Dirac's law, within a set all whose parts have simple points -/
theorem diracS {a : Nat → Nat → Bool} (hs : ∀ i j, a i j = a j i) {k : Nat} (h8 : k ≤ 8) {Q : Nat} (P : ∀ S, S ≠ 0 → (∀ u, S.testBit u = true → Q.testBit u = true) → ∃ v, S.testBit v = true ∧ Simp a S v) : ∀ (g S : Nat), (memb S).length < g → S < 2 ^ k → (∀ u, S.testBit u = true → Q.testBit u = true) →
    (∀ u w, S.testBit u = true → S.testBit w = true → u ≠ w → a u w = true) ∨ ∃ x y, S.testBit x = true ∧ S.testBit y = true ∧ x ≠ y ∧ a x y = false ∧ Simp a S x ∧ Simp a S y
  | 0, S, h, _, _ => by omega
  | g+1, S, h, hlt, hsub => by
    have hp := Nat.pow_le_pow_right (n := 2) (by omega) h8
    by_cases hz : S = 0
    · left
      intro u w hu
      rw [hz, Nat.zero_testBit] at hu; cases hu
    · obtain ⟨v, hv, hvs⟩ := P S hz hsub
      have hvm := (mem_memb (m := S) (i := v) (by omega)).2 hv
      have hless := memb_less hvm
      have hbit : ∀ u, (ndiff S (2 ^ v)).testBit u = true ↔ S.testBit u = true ∧ u ≠ v := fun u => by
        rw [ndiff_testBit, Nat.testBit_two_pow, Bool.and_eq_true]
        by_cases e : u = v
        · subst e; simp
        · have e' : ¬ v = u := fun q => e q.symm
          simp [e, e']
      have lift : ∀ x, x ≠ v → S.testBit x = true → a v x = false → Simp a (ndiff S (2 ^ v)) x → Simp a S x := fun x hx hxS hvx hsx u w hu hw h1 h2 hne => by
        have nv : ∀ z, a x z = true → z ≠ v := fun z hz e => by
          rw [e, hs x v] at hz; rw [hz] at hvx; cases hvx
        exact hsx u w ((hbit u).2 ⟨hu, nv u h1⟩) ((hbit w).2 ⟨hw, nv w h2⟩) h1 h2 hne
      rcases diracS hs h8 P g (ndiff S (2 ^ v)) (by omega) (Nat.lt_of_le_of_lt (ndiff_le _ _) hlt) (fun u hu => hsub u ((hbit u).1 hu).1) with hc | ⟨x, y, hx, hy, hxy, hadj, sx, sy⟩
      · by_cases hall : ∀ u, S.testBit u = true → u ≠ v → a v u = true
        · left
          intro u w hu hw hne
          by_cases eu : u = v
          · subst eu; exact hall w hw (fun e => hne e.symm)
          · by_cases ew : w = v
            · subst ew; rw [hs]; exact hall u hu eu
            · exact hc u w ((hbit u).2 ⟨hu, eu⟩) ((hbit w).2 ⟨hw, ew⟩) hne
        · right
          obtain ⟨u, hu⟩ := Classical.not_forall.1 hall
          obtain ⟨h1, hu⟩ := Classical.not_imp.1 hu
          obtain ⟨h2, hu⟩ := Classical.not_imp.1 hu
          have hvu := Bool.eq_false_iff.2 hu
          exact ⟨v, u, hv, h1, fun e => h2 e.symm, hvu, hvs, lift u h2 h1 hvu fun p q hp hq _ _ hne => hc p q hp hq hne⟩
      · right
        obtain ⟨hx1, hx2⟩ := (hbit x).1 hx
        obtain ⟨hy1, hy2⟩ := (hbit y).1 hy
        by_cases hvx : a v x = false
        · exact ⟨v, x, hv, hx1, fun e => hx2 e.symm, hvx, hvs, lift x hx2 hx1 hvx sx⟩
        · by_cases hvy : a v y = false
          · exact ⟨v, y, hv, hy1, fun e => hy2 e.symm, hvy, hvs, lift y hy2 hy1 hvy sy⟩
          · have := hvs x y hx1 hy1 (by simpa using hvx) (by simpa using hvy) hxy
            rw [hadj] at this; cases this
/-- a shortest way between two points that are not beside each other, through a set: no short cuts -/
theorem short_way {a : Nat → Nat → Bool} {A : Nat → Prop} {p q : Nat} (hpq : p ≠ q) (hadj : a p q = false) (h : ∃ (n : Nat) (g : Nat → Nat), g 0 = p ∧ g n = q ∧ (∀ i, 0 < i → i < n → A (g i)) ∧ ∀ i, i < n → a (g i) (g (i+1)) = true) :
    ∃ (n : Nat) (g : Nat → Nat), 2 ≤ n ∧ g 0 = p ∧ g n = q ∧ (∀ i, 0 < i → i < n → A (g i)) ∧ (∀ i, i < n → a (g i) (g (i+1)) = true) ∧ (∀ i j, i < j → j ≤ n → g i ≠ g j) ∧ ∀ i j, i + 1 < j → j ≤ n → a (g i) (g j) = false := by
  have key : ∀ m, (∃ (n : Nat) (g : Nat → Nat), n ≤ m ∧ g 0 = p ∧ g n = q ∧ (∀ i, 0 < i → i < n → A (g i)) ∧ ∀ i, i < n → a (g i) (g (i+1)) = true) →
      ∃ (n : Nat) (g : Nat → Nat), (g 0 = p ∧ g n = q ∧ (∀ i, 0 < i → i < n → A (g i)) ∧ ∀ i, i < n → a (g i) (g (i+1)) = true) ∧ ∀ (n' : Nat) (g' : Nat → Nat), n' < n → ¬ (g' 0 = p ∧ g' n' = q ∧ (∀ i, 0 < i → i < n' → A (g' i)) ∧ ∀ i, i < n' → a (g' i) (g' (i+1)) = true) := by
    intro m
    induction m with
    | zero =>
      rintro ⟨n, g, h0, h1⟩
      exact ⟨n, g, h1, fun n' g' hlt => by omega⟩
    | succ m ih =>
      intro h
      by_cases c : ∃ (n : Nat) (g : Nat → Nat), n ≤ m ∧ g 0 = p ∧ g n = q ∧ (∀ i, 0 < i → i < n → A (g i)) ∧ ∀ i, i < n → a (g i) (g (i+1)) = true
      · exact ih c
      · obtain ⟨n, g, h0, h1⟩ := h
        exact ⟨n, g, h1, fun n' g' hlt hh => c ⟨n', g', by omega, hh⟩⟩
  obtain ⟨n, g, h⟩ := h
  obtain ⟨n, g, ⟨g1, g2, g3, g4⟩, hmin⟩ := key n ⟨n, g, Nat.le_refl _, h⟩
  have hn0 : n ≠ 0 := fun e => by subst e; exact hpq (by rw [← g1, g2])
  have hn1 : n ≠ 1 := fun e => by
    subst e
    have := g4 0 (by omega)
    rw [g1, show 0 + 1 = 1 from rfl, g2, hadj] at this; cases this
  refine ⟨n, g, by omega, g1, g2, g3, g4, fun i j hij hj e => ?_, fun i j hij hj => Bool.eq_false_iff.2 fun e => ?_⟩
  · obtain ⟨F, F1, F2⟩ : ∃ F : Nat → Nat, (∀ t, t ≤ i → F t = g t) ∧ (∀ t, i < t → F t = g (t + (j - i))) := ⟨fun t => if t ≤ i then g t else g (t + (j - i)), fun t ht => if_pos ht, fun t ht => if_neg (by omega)⟩
    refine hmin (n - (j - i)) F (by omega) ⟨by rw [F1 0 (Nat.zero_le _)]; exact g1, ?_, fun t h0 ht => ?_, fun t ht => ?_⟩
    · by_cases c : n - (j - i) ≤ i
      · rw [F1 _ c, show n - (j - i) = i by omega, e, show j = n by omega]; exact g2
      · rw [F2 _ (by omega), show n - (j - i) + (j - i) = n by omega]; exact g2
    · by_cases c : t ≤ i
      · rw [F1 t c]; exact g3 t h0 (by omega)
      · rw [F2 t (by omega)]; exact g3 _ (by omega) (by omega)
    · by_cases c : t + 1 ≤ i
      · rw [F1 t (by omega), F1 _ c]; exact g4 t (by omega)
      · by_cases c2 : t = i
        · subst c2
          rw [F1 t (Nat.le_refl _), F2 _ (by omega), e, show t + 1 + (j - t) = j + 1 by omega]
          exact g4 j (by omega)
        · rw [F2 t (by omega), F2 _ (by omega), show t + 1 + (j - i) = (t + (j - i)) + 1 by omega]
          exact g4 _ (by omega)
  · obtain ⟨F, F1, F2⟩ : ∃ F : Nat → Nat, (∀ t, t ≤ i → F t = g t) ∧ (∀ t, i < t → F t = g (t + (j - i - 1))) := ⟨fun t => if t ≤ i then g t else g (t + (j - i - 1)), fun t ht => if_pos ht, fun t ht => if_neg (by omega)⟩
    refine hmin (n - (j - i - 1)) F (by omega) ⟨by rw [F1 0 (Nat.zero_le _)]; exact g1, ?_, fun t h0 ht => ?_, fun t ht => ?_⟩
    · rw [F2 _ (by omega), show n - (j - i - 1) + (j - i - 1) = n by omega]; exact g2
    · by_cases c : t ≤ i
      · rw [F1 t c]; exact g3 t h0 (by omega)
      · rw [F2 t (by omega)]; exact g3 _ (by omega) (by omega)
    · by_cases c : t + 1 ≤ i
      · rw [F1 t (by omega), F1 _ c]; exact g4 t (by omega)
      · by_cases c2 : t = i
        · subst c2
          rw [F1 t (Nat.le_refl _), F2 _ (by omega), show t + 1 + (j - t - 1) = j by omega]
          exact e
        · rw [F2 t (by omega), F2 _ (by omega), show t + 1 + (j - i - 1) = (t + (j - i - 1)) + 1 by omega]
          exact g4 _ (by omega)
end Go.Proofs.YtcbalejnkhnppaaDoor
