import Derived.Test.YtcbalejnkhnppaaDoorHe
/- plain: peeling goes on to the end just if each set has a simple point; Dirac -/
set_option linter.all false
set_option maxRecDepth 100000
namespace Go.Proofs.YtcbalejnkhnppaaDoor
open Go.RowKit Go.Shelf Pl
/-- v is simple within S -/
def Simp (a : Nat → Nat → Bool) (S v : Nat) : Prop := ∀ u w, S.testBit u = true → S.testBit w = true → a v u = true → a v w = true → u ≠ w → a u w = true
/-- each set of points has a simple one -/
def Peels (a : Nat → Nat → Bool) (k : Nat) : Prop := ∀ S, S ≠ 0 → S < 2 ^ k → ∃ v, S.testBit v = true ∧ Simp a S v
theorem Simp.sub {a : Nat → Nat → Bool} {S T v : Nat} (h : Simp a T v) (hs : ∀ u, S.testBit u = true → T.testBit u = true) : Simp a S v :=
  fun u w hu hw => h u w (hs u hu) (hs w hw)
theorem bits_zero {S : Nat} (h : ∀ v, S.testBit v = false) : S = 0 := Nat.eq_of_testBit_eq fun i => by rw [h, Nat.zero_testBit]
theorem bits_ex {S : Nat} (h : S ≠ 0) : ∃ v, S.testBit v = true := Classical.byContradiction fun q => h (bits_zero fun v => Bool.eq_false_iff.2 fun z => q ⟨v, z⟩)
theorem peel_sub {a : Nat → Nat → Bool} : ∀ (g : Nat) (os : List Nat) (left : Nat) (r : List Nat), left < 65536 → (memb left).length < g → peelG a g os left = some r → ∀ S, S ≠ 0 → (∀ u, S.testBit u = true → left.testBit u = true) → ∃ v, S.testBit v = true ∧ Simp a S v
  | 0, os, left, r, _, h, _, _, _, _ => by omega
  | g+1, os, left, r, h16, h, hp, S, hS, hsub => by
    unfold peelG at hp
    by_cases hz : left = 0
    · obtain ⟨v, hv⟩ := bits_ex hS
      have := hsub v hv
      rw [hz, Nat.zero_testBit] at this; cases this
    · rw [if_neg hz] at hp
      cases hf : (memb left).find? (simpB a left) with
      | none => rw [hf] at hp; cases hp
      | some v =>
        rw [hf] at hp
        have hvm : v ∈ memb left := List.mem_of_find?_eq_some hf
        have hvs : simpB a left v = true := List.find?_some hf
        have hless := memb_less hvm
        by_cases hv : S.testBit v = true
        · exact ⟨v, hv, Simp.sub ((simpB_iff h16).1 hvs) hsub⟩
        · refine peel_sub g _ _ r (Nat.lt_of_le_of_lt (ndiff_le _ _) h16) (by omega) hp S hS fun u hu => ?_
          rw [ndiff_testBit, Nat.testBit_two_pow, hsub u hu]
          have : ¬ v = u := fun e => hv (by rw [e]; exact hu)
          simp [this]
theorem peel_go {a : Nat → Nat → Bool} : ∀ (g : Nat) (os : List Nat) (left : Nat), left < 65536 → (∀ S, S ≠ 0 → (∀ u, S.testBit u = true → left.testBit u = true) → ∃ v, S.testBit v = true ∧ Simp a S v) → ∃ r, peelG a g os left = some r
  | 0, os, left, _, _ => ⟨os, rfl⟩
  | g+1, os, left, h16, h => by
    unfold peelG
    by_cases hz : left = 0
    · rw [if_pos hz]; exact ⟨os, rfl⟩
    · rw [if_neg hz]
      obtain ⟨v, hv, hs⟩ := h left hz fun u hu => hu
      cases hf : (memb left).find? (simpB a left) with
      | none => exact absurd ((simpB_iff h16).2 hs) (List.find?_eq_none.1 hf v ((mem_memb h16).2 hv))
      | some w =>
        refine peel_go g _ _ (Nat.lt_of_le_of_lt (ndiff_le _ _) h16) fun S hS hsub => h S hS fun u hu => ?_
        have := hsub u hu
        rw [ndiff_testBit, Bool.and_eq_true] at this
        exact this.1
theorem fullBit {k S : Nat} (hS : S < 2 ^ k) {u : Nat} (h : S.testBit u = true) : (2 ^ k - 1).testBit u = true := by
  rw [Nat.testBit_two_pow_sub_one]; exact decide_eq_true (bitLt hS h)
theorem peels_iff {a : Nat → Nat → Bool} {k : Nat} (h8 : k ≤ 8) : (∃ r, peelG a 300 [] (2 ^ k - 1) = some r) ↔ Peels a k := by
  have hpos := Nat.two_pow_pos k
  have hp := Nat.pow_le_pow_right (n := 2) (by omega) h8
  constructor
  · rintro ⟨r, hr⟩ S hS hlt
    exact peel_sub 300 [] _ r (by omega) (by rw [memb_full (by omega), List.length_range]; omega) hr S hS fun u hu => fullBit hlt hu
  · intro h
    refine peel_go 300 [] _ (by omega) fun S hS hsub => h S hS ?_
    rcases Nat.lt_or_ge S (2 ^ k) with q | q
    · exact q
    · obtain ⟨i, hi, hb⟩ := Nat.exists_ge_and_testBit_of_ge_two_pow q
      have := hsub i hb
      rw [Nat.testBit_two_pow_sub_one] at this
      have := of_decide_eq_true this
      omega
/-! ### Dirac -/
theorem dirac {a : Nat → Nat → Bool} (hs : ∀ i j, a i j = a j i) {k : Nat} (h8 : k ≤ 8) (P : Peels a k) : ∀ (g S : Nat), (memb S).length < g → S < 2 ^ k →
    (∀ u w, S.testBit u = true → S.testBit w = true → u ≠ w → a u w = true) ∨ ∃ x y, S.testBit x = true ∧ S.testBit y = true ∧ x ≠ y ∧ a x y = false ∧ Simp a S x ∧ Simp a S y
  | 0, S, h, _ => by omega
  | g+1, S, h, hlt => by
    have hp := Nat.pow_le_pow_right (n := 2) (by omega) h8
    by_cases hz : S = 0
    · left
      intro u w hu
      rw [hz, Nat.zero_testBit] at hu; cases hu
    · obtain ⟨v, hv, hvs⟩ := P S hz hlt
      have hvm := (mem_memb (m := S) (i := v) (by omega)).2 hv
      have hless := memb_less hvm
      have hbit : ∀ u, (ndiff S (2 ^ v)).testBit u = true ↔ S.testBit u = true ∧ u ≠ v := fun u => by
        rw [ndiff_testBit, Nat.testBit_two_pow, Bool.and_eq_true]
        by_cases e : u = v
        · subst e; simp
        · have e' : ¬ v = u := fun q => e q.symm
          simp [e, e']
      -- a point of the rest that is not beside v and is simple in the rest is simple
      have lift : ∀ x, x ≠ v → S.testBit x = true → a v x = false → Simp a (ndiff S (2 ^ v)) x → Simp a S x := fun x hx hxS hvx hsx u w hu hw h1 h2 hne => by
        have nv : ∀ z, a x z = true → z ≠ v := fun z hz e => by
          rw [e, hs x v] at hz; rw [hz] at hvx; cases hvx
        exact hsx u w ((hbit u).2 ⟨hu, nv u h1⟩) ((hbit w).2 ⟨hw, nv w h2⟩) h1 h2 hne
      rcases dirac hs h8 P g (ndiff S (2 ^ v)) (by omega) (Nat.lt_of_le_of_lt (ndiff_le _ _) hlt) with hc | ⟨x, y, hx, hy, hxy, hadj, sx, sy⟩
      · by_cases hall : ∀ u, S.testBit u = true → u ≠ v → a v u = true
        · left
          intro u w hu hw hne
          by_cases eu : u = v
          · subst eu; exact hall w hw (fun e => hne e.symm)
          · by_cases ew : w = v
            · subst ew; rw [hs]; exact hall u hu eu
            · exact hc u w ((hbit u).2 ⟨hu, eu⟩) ((hbit w).2 ⟨hw, ew⟩) hne
        · right
          obtain ⟨u, hu⟩ := Classical.not_forall.1 hall
          obtain ⟨h1, hu⟩ := Classical.not_imp.1 hu
          obtain ⟨h2, hu⟩ := Classical.not_imp.1 hu
          have hvu := Bool.eq_false_iff.2 hu
          exact ⟨v, u, hv, h1, fun e => h2 e.symm, hvu, hvs, lift u h2 h1 hvu fun p q hp hq _ _ hne => hc p q hp hq hne⟩
      · right
        obtain ⟨hx1, hx2⟩ := (hbit x).1 hx
        obtain ⟨hy1, hy2⟩ := (hbit y).1 hy
        by_cases hvx : a v x = false
        · exact ⟨v, x, hv, hx1, fun e => hx2 e.symm, hvx, hvs, lift x hx2 hx1 hvx sx⟩
        · by_cases hvy : a v y = false
          · exact ⟨v, y, hv, hy1, fun e => hy2 e.symm, hvy, hvs, lift y hy2 hy1 hvy sy⟩
          · have := hvs x y hx1 hy1 (by simpa using hvx) (by simpa using hvy) hxy
            rw [hadj] at this; cases this
/-! ### a point less -/
def maskOf (xs : List Nat) : Nat := xs.foldr (fun x m => m ||| 2 ^ x) 0
theorem maskOf_bit : ∀ (xs : List Nat) (v : Nat), (maskOf xs).testBit v = decide (v ∈ xs)
  | [], v => by simp [maskOf]
  | x :: xs, v => by
    have ih := maskOf_bit xs v
    show ((maskOf xs) ||| 2 ^ x).testBit v = _
    rw [Nat.testBit_or, Nat.testBit_two_pow, ih]
    by_cases e : x = v
    · subst e; simp
    · have e' : ¬ v = x := fun q => e q.symm
      simp [e, e']
theorem maskOf_lt {xs : List Nat} {k : Nat} (h : ∀ x ∈ xs, x < k) : maskOf xs < 2 ^ k := by
  rcases Nat.lt_or_ge (maskOf xs) (2 ^ k) with q | q
  · exact q
  · obtain ⟨i, hi, hb⟩ := Nat.exists_ge_and_testBit_of_ge_two_pow q
    rw [maskOf_bit] at hb
    have := h i (of_decide_eq_true hb); omega
theorem Peels.emb {a a' : Nat → Nat → Bool} {k k' : Nat} (h8 : k' ≤ 16) (P : Peels a k) (f : Nat → Nat) (hf : ∀ u, u < k' → f u < k) (hi : ∀ u v, f u = f v → u = v) (e : ∀ u v, u < k' → v < k' → a' u v = a (f u) (f v)) : Peels a' k' := by
  intro S hS hlt
  have hp := Nat.pow_le_pow_right (n := 2) (by omega) h8
  have hm : ∀ x, x ∈ memb S ↔ S.testBit x = true := fun x => mem_memb (by omega)
  obtain ⟨v0, hv0⟩ := bits_ex hS
  have hbit : ∀ z, (maskOf ((memb S).map f)).testBit z = true ↔ ∃ x, S.testBit x = true ∧ f x = z := fun z => by
    rw [maskOf_bit, decide_eq_true_eq, List.mem_map]
    exact ⟨fun ⟨x, h1, h2⟩ => ⟨x, (hm x).1 h1, h2⟩, fun ⟨x, h1, h2⟩ => ⟨x, (hm x).2 h1, h2⟩⟩
  obtain ⟨z, z1, z2⟩ := P (maskOf ((memb S).map f)) (fun q => by
    have := (hbit (f v0)).2 ⟨v0, hv0, rfl⟩
    rw [q, Nat.zero_testBit] at this; cases this) (maskOf_lt fun x hx => by
    obtain ⟨y, hy, rfl⟩ := List.mem_map.1 hx
    exact hf y (bitLt hlt ((hm y).1 hy)))
  obtain ⟨v, hv, rfl⟩ := (hbit z).1 z1
  refine ⟨v, hv, fun u w hu hw h1 h2 hne => ?_⟩
  have bu := bitLt hlt hu
  have bw := bitLt hlt hw
  have bv := bitLt hlt hv
  rw [e u w bu bw]
  exact z2 (f u) (f w) ((hbit _).2 ⟨u, hu, rfl⟩) ((hbit _).2 ⟨w, hw, rfl⟩) (by rw [← e v u bv bu]; exact h1) (by rw [← e v w bv bw]; exact h2) (fun q => hne (hi u w q))
end Go.Proofs.YtcbalejnkhnppaaDoor
