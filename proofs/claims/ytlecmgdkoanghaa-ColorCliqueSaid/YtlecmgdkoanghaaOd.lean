import Derived.Test.YtlecmgdkoanghaaChl
import Derived.Test.YtlecmgdkoanghaaHi
/- plain: colours of what can be peeled; two colours and odd rings -/
set_option linter.all false
set_option maxRecDepth 100000
namespace Go.Proofs.Ytlecmgdkoanghaa
open Go.RowKit Go.Shelf Pl
/-- all of a set are beside each other -/
def ClqS (a : Nat → Nat → Bool) (S : Nat) : Prop := ∀ u w, S.testBit u = true → S.testBit w = true → u ≠ w → a u w = true
theorem clq_chi {a : Nat → Nat → Bool} (hs : ∀ i j, a i j = a j i) {k S : Nat} (h1 : 1 ≤ k) (h8 : k ≤ 8) (hS : S < 2 ^ k) (hc : ClqS a S) : (memb S).length ≤ chi a k := by
  have hp := Nat.pow_le_pow_right (n := 2) (by omega) h8
  obtain ⟨f, hf⟩ := chi_has a h1
  have hm : ∀ x, x ∈ memb S → S.testBit x = true := fun x hx => (mem_memb (by omega)).1 hx
  have hn : ((memb S).map f).Nodup := by
    unfold List.Nodup
    rw [List.pairwise_map]
    refine List.Pairwise.imp_of_mem ?_ (membNd S)
    intro u w hu hw hne
    exact hf.ne hs (bitLt hS (hm u hu)) (bitLt hS (hm w hw)) hne (hc u w (hm u hu) (hm w hw) hne)
  have := nodup_len_le (l := (memb S).map f) (l' := List.range (chi a k)) hn (fun x hx => by
    obtain ⟨u, hu, rfl⟩ := List.mem_map.1 hx
    exact List.mem_range.2 (hf u (bitLt hS (hm u hu))).1)
  rwa [List.length_map, List.length_range] at this
theorem free_ex {l : List Nat} {W : Nat} (h : l.length < W) : ∃ c, c < W ∧ c ∉ l := Classical.byContradiction fun q => by
  have := nodup_len_le (l := List.range W) (l' := l) List.nodup_range (fun x hx => Classical.byContradiction fun z => q ⟨x, List.mem_range.1 hx, z⟩)
  rw [List.length_range] at this; omega
theorem peel_paint {a : Nat → Nat → Bool} (hs : ∀ i j, a i j = a j i) (hirr : ∀ v, a v v = false) {k W : Nat} (h8 : k ≤ 8) (P : Peels a k) (hW : ∀ S, S < 2 ^ k → ClqS a S → (memb S).length ≤ W) : ∀ (g S : Nat), (memb S).length < g → S < 2 ^ k →
    ∃ f : Nat → Nat, (∀ u, S.testBit u = true → f u < W) ∧ ∀ u w, S.testBit u = true → S.testBit w = true → a u w = true → f u ≠ f w
  | 0, S, h, _ => by omega
  | g+1, S, h, hlt => by
    have hp := Nat.pow_le_pow_right (n := 2) (by omega) h8
    by_cases hz : S = 0
    · have hno : ∀ u, ¬ (S.testBit u = true) := fun u hu => by rw [hz, Nat.zero_testBit] at hu; cases hu
      exact ⟨fun _ => 0, fun u hu => absurd hu (hno u), fun u w hu => absurd hu (hno u)⟩
    · obtain ⟨v, hv, hvs⟩ := P S hz hlt
      have hvm := (mem_memb (m := S) (i := v) (by omega)).2 hv
      have hless := memb_less hvm
      have hbit : ∀ u, (ndiff S (2 ^ v)).testBit u = true ↔ S.testBit u = true ∧ u ≠ v := fun u => by
        rw [ndiff_testBit, Nat.testBit_two_pow, Bool.and_eq_true]
        by_cases e : u = v
        · subst e; simp
        · have e' : ¬ v = u := fun q => e q.symm
          simp [e, e']
      obtain ⟨f, f1, f2⟩ := peel_paint hs hirr h8 P hW g (ndiff S (2 ^ v)) (by omega) (Nat.lt_of_le_of_lt (ndiff_le _ _) hlt)
      -- the point and those beside it
      let N := (memb S).filter (a v)
      have hN : ∀ x, x ∈ N ↔ S.testBit x = true ∧ a v x = true := fun x => by
        show x ∈ (memb S).filter (a v) ↔ _
        rw [List.mem_filter, mem_memb (by omega)]
      have hvN : v ∉ N := fun q => by have := ((hN v).1 q).2; rw [hirr] at this; cases this
      have hK : ∀ x, (maskOf (v :: N)).testBit x = true ↔ x = v ∨ (S.testBit x = true ∧ a v x = true) := fun x => by
        rw [maskOf_bit, decide_eq_true_eq, List.mem_cons, hN]
      have hKS : ∀ x, (maskOf (v :: N)).testBit x = true → S.testBit x = true := fun x hx => by
        rcases (hK x).1 hx with rfl | h
        · exact hv
        · exact h.1
      have hKlt : maskOf (v :: N) < 2 ^ k := maskOf_lt fun x hx => by
        rcases List.mem_cons.1 hx with rfl | hx
        · exact bitLt hlt hv
        · exact bitLt hlt ((hN x).1 hx).1
      have hclq : ClqS a (maskOf (v :: N)) := fun u w hu hw hne => by
        rcases (hK u).1 hu with rfl | ⟨h1, h2⟩
        · rcases (hK w).1 hw with rfl | ⟨h3, h4⟩
          · exact absurd rfl hne
          · exact h4
        · rcases (hK w).1 hw with rfl | ⟨h3, h4⟩
          · rw [hs]; exact h2
          · exact hvs u w h1 h3 h2 h4 hne
      have hlen : N.length + 1 ≤ W := by
        have h1 := hW _ hKlt hclq
        have h2 := nodup_len_le (l := v :: N) (l' := memb (maskOf (v :: N))) (List.nodup_cons.2 ⟨hvN, List.Pairwise.filter _ (membNd S)⟩) (fun x hx => (mem_memb (by omega)).2 (by rw [maskOf_bit]; exact decide_eq_true hx))
        rw [List.length_cons] at h2; omega
      obtain ⟨c, c1, c2⟩ := free_ex (l := N.map f) (W := W) (by rw [List.length_map]; omega)
      refine ⟨fun u => if u = v then c else f u, fun u hu => ?_, fun u w hu hw h => ?_⟩
      · show (if u = v then c else f u) < W
        by_cases e : u = v
        · rw [if_pos e]; exact c1
        · rw [if_neg e]; exact f1 u ((hbit u).2 ⟨hu, e⟩)
      · show (if u = v then c else f u) ≠ (if w = v then c else f w)
        by_cases eu : u = v
        · by_cases ew : w = v
          · rw [eu, ew, hirr] at h; cases h
          · rw [if_pos eu, if_neg ew]
            exact fun q => c2 (List.mem_map.2 ⟨w, (hN w).2 ⟨hw, by rw [← eu]; exact h⟩, q.symm⟩)
        · by_cases ew : w = v
          · rw [if_neg eu, if_pos ew]
            exact fun q => c2 (List.mem_map.2 ⟨u, (hN u).2 ⟨hu, by rw [← ew, hs]; exact h⟩, q⟩)
          · rw [if_neg eu, if_neg ew]
            exact f2 u w ((hbit u).2 ⟨hu, eu⟩) ((hbit w).2 ⟨hw, ew⟩) h
/-! ### walks, and odd rings -/
def Wk (a : Nat → Nat → Bool) (n u v : Nat) : Prop := ∃ g : Nat → Nat, g 0 = u ∧ g n = v ∧ ∀ i, i < n → a (g i) (g (i+1)) = true
theorem Wk.append {a : Nat → Nat → Bool} {m n u v w : Nat} (h1 : Wk a m u v) (h2 : Wk a n v w) : Wk a (m + n) u w := by
  obtain ⟨g, g1, g2, g3⟩ := h1
  obtain ⟨h, h1, h2, h3⟩ := h2
  obtain ⟨F, F1, F2⟩ : ∃ F : Nat → Nat, (∀ i, i ≤ m → F i = g i) ∧ (∀ i, m < i → F i = h (i - m)) := ⟨fun i => if i ≤ m then g i else h (i - m), fun i hi => if_pos hi, fun i hi => if_neg (by omega)⟩
  refine ⟨F, by rw [F1 0 (Nat.zero_le _)]; exact g1, ?_, fun i hi => ?_⟩
  · by_cases c : n = 0
    · subst c
      rw [Nat.add_zero, F1 m (Nat.le_refl _), g2, ← h2, h1]
    · rw [F2 _ (by omega), show m + n - m = n by omega]; exact h2
  · by_cases c : i + 1 ≤ m
    · rw [F1 i (by omega), F1 _ c]; exact g3 i (by omega)
    · by_cases c2 : i = m
      · subst c2
        rw [F1 i (Nat.le_refl _), F2 _ (by omega), g2, ← h1, show i + 1 - i = 0 + 1 by omega]
        exact h3 0 (by omega)
      · rw [F2 i (by omega), F2 _ (by omega), show i + 1 - m = (i - m) + 1 by omega]
        exact h3 _ (by omega)
theorem Wk.rev {a : Nat → Nat → Bool} (hs : ∀ i j, a i j = a j i) {n u v : Nat} (h : Wk a n u v) : Wk a n v u := by
  obtain ⟨g, g1, g2, g3⟩ := h
  refine ⟨fun i => g (n - i), by show g (n - 0) = v; rw [Nat.sub_zero]; exact g2, by show g (n - n) = u; rw [Nat.sub_self]; exact g1, fun i hi => ?_⟩
  show a (g (n - i)) (g (n - (i+1))) = true
  have := g3 (n - (i+1)) (by omega)
  rw [show n - (i+1) + 1 = n - i by omega] at this
  rw [hs]; exact this
theorem Wk.one {a : Nat → Nat → Bool} {u v : Nat} (h : a u v = true) : Wk a 1 u v :=
  ⟨fun i => if i = 0 then u else v, rfl, rfl, fun i hi => by
    have : i = 0 := by omega
    subst this; exact h⟩
theorem Wk.nil (a : Nat → Nat → Bool) (u : Nat) : Wk a 0 u u := ⟨fun _ => u, rfl, rfl, fun i hi => by omega⟩
theorem Wk.part {a : Nat → Nat → Bool} {n : Nat} {g : Nat → Nat} (h : ∀ i, i < n → a (g i) (g (i+1)) = true) {i j : Nat} (hij : i ≤ j) (hj : j ≤ n) : Wk a (j - i) (g i) (g j) :=
  ⟨fun x => g (i + x), rfl, by show g (i + (j - i)) = g j; rw [show i + (j - i) = j by omega], fun x hx => h (i + x) (by omega)⟩
/-- no odd closed walk: two colours do -/
theorem two_paint {a : Nat → Nat → Bool} (hs : ∀ i j, a i j = a j i) {k : Nat} (hno : ∀ n u, n % 2 = 1 → ¬ Wk a n u u) : ∃ f, Proper a 2 k f := by
  classical
  have hr : ∀ v, ∃ r, (∃ n, Wk a n r v) ∧ ∀ r', (∃ n, Wk a n r' v) → r ≤ r' := fun v => by
    have : ∃ m, ∃ r, r ≤ m ∧ ∃ n, Wk a n r v := ⟨v, v, Nat.le_refl _, 0, Wk.nil a v⟩
    have key : ∀ m, (∃ r, r ≤ m ∧ ∃ n, Wk a n r v) → ∃ r, (∃ n, Wk a n r v) ∧ ∀ r', (∃ n, Wk a n r' v) → r ≤ r' := by
      intro m
      induction m with
      | zero =>
        rintro ⟨r, hr, hn⟩
        have : r = 0 := by omega
        subst this
        exact ⟨0, hn, fun r' _ => Nat.zero_le _⟩
      | succ m ih =>
        intro h
        by_cases c : ∃ r, r ≤ m ∧ ∃ n, Wk a n r v
        · exact ih c
        · obtain ⟨r, hr, hn⟩ := h
          refine ⟨r, hn, fun r' hr' => ?_⟩
          refine Nat.le_of_not_lt fun hlt => c ⟨r', by omega, hr'⟩
    obtain ⟨m, hm⟩ := this
    exact key m hm
  let root := fun v => Classical.choose (hr v)
  have root1 : ∀ v, ∃ n, Wk a n (root v) v := fun v => (Classical.choose_spec (hr v)).1
  have root2 : ∀ v r', (∃ n, Wk a n r' v) → root v ≤ r' := fun v => (Classical.choose_spec (hr v)).2
  let f := fun v => if ∃ n, n % 2 = 0 ∧ Wk a n (root v) v then 0 else 1
  refine ⟨f, Proper.mk' (fun u hu => by show (if _ then 0 else 1) < 2; split <;> omega) fun u v hu hv huv e => ?_⟩
  have hroot : root u = root v := by
    obtain ⟨n, hn⟩ := root1 u
    obtain ⟨m, hm⟩ := root1 v
    have h1 := root2 v (root u) ⟨n + 1, hn.append (Wk.one e)⟩
    have h2 := root2 u (root v) ⟨m + 1, hm.append (Wk.one (by rw [hs]; exact e))⟩
    omega
  -- both by walks of one parity: an odd closed walk
  have close : ∀ n m, Wk a n (root u) u → Wk a m (root u) v → (n + 1 + m) % 2 = 1 → False := fun n m hn hm hpar =>
    hno (n + 1 + m) (root u) hpar ((hn.append (Wk.one e)).append (hm.rev hs))
  show (if ∃ n, n % 2 = 0 ∧ Wk a n (root u) u then 0 else 1) ≠ (if ∃ n, n % 2 = 0 ∧ Wk a n (root v) v then 0 else 1)
  by_cases c1 : ∃ n, n % 2 = 0 ∧ Wk a n (root u) u
  · by_cases c2 : ∃ n, n % 2 = 0 ∧ Wk a n (root v) v
    · obtain ⟨n, n1, n2⟩ := c1
      obtain ⟨m, m1, m2⟩ := c2
      rw [← hroot] at m2
      exact absurd (close n m n2 m2 (by omega)) id
    · rw [if_pos c1, if_neg c2]; omega
  · by_cases c2 : ∃ n, n % 2 = 0 ∧ Wk a n (root v) v
    · rw [if_neg c1, if_pos c2]; omega
    · obtain ⟨n, hn⟩ := root1 u
      obtain ⟨m, hm⟩ := root1 v
      have n1 : n % 2 = 1 := Classical.byContradiction fun q => c1 ⟨n, by omega, hn⟩
      have m1 : m % 2 = 1 := Classical.byContradiction fun q => c2 ⟨m, by omega, hm⟩
      rw [← hroot] at hm
      exact absurd (close n m hn hm (by omega)) id
/-- a shortest odd closed walk meets no point twice -/
theorem odd_ring {a : Nat → Nat → Bool} {k : Nat} (hk : ∀ u v, a u v = true → u < k ∧ v < k) (hirr : ∀ v, a v v = false) (h : ∃ n u, n % 2 = 1 ∧ Wk a n u u) :
    ∃ (n : Nat) (g : Nat → Nat), n % 2 = 1 ∧ 3 ≤ n ∧ n ≤ k ∧ g n = g 0 ∧ (∀ i, i < n → a (g i) (g (i+1)) = true) ∧ (∀ i, i < n → g i < k) ∧ ∀ i j, i < n → j < n → g i = g j → i = j := by
  have key : ∀ m, (∃ n u, n ≤ m ∧ n % 2 = 1 ∧ Wk a n u u) → ∃ n u, n % 2 = 1 ∧ Wk a n u u ∧ ∀ n' u', n' < n → n' % 2 = 1 → ¬ Wk a n' u' u' := by
    intro m
    induction m with
    | zero => rintro ⟨n, u, h1, h2, _⟩; omega
    | succ m ih =>
      intro h
      by_cases c : ∃ n u, n ≤ m ∧ n % 2 = 1 ∧ Wk a n u u
      · exact ih c
      · obtain ⟨n, u, h1, h2, h3⟩ := h
        exact ⟨n, u, h2, h3, fun n' u' hlt hp hw => c ⟨n', u', by omega, hp, hw⟩⟩
  obtain ⟨n, u, h1, h2⟩ := h
  obtain ⟨n, u, p1, ⟨g, g1, g2, g3⟩, p3⟩ := key n ⟨n, u, Nat.le_refl _, h1, h2⟩
  have inj : ∀ i j, i < j → j < n → g i ≠ g j := fun i j hij hj e => by
    have w1 := Wk.part g3 (Nat.le_of_lt hij) (Nat.le_of_lt hj)
    rw [← e] at w1
    have w2 := (Wk.part g3 (Nat.zero_le i) (by omega)).append (e ▸ Wk.part g3 (Nat.le_of_lt hj) (Nat.le_refl n) : Wk a (n - j) (g i) (g n))
    rw [g1, g2] at w2
    by_cases c : (j - i) % 2 = 1
    · exact p3 _ _ (by omega) c w1
    · exact p3 _ _ (by omega) (by omega) w2
  have lt : ∀ i, i < n → g i < k := fun i hi => (hk _ _ (g3 i hi)).1
  have inj' : ∀ i j, i < n → j < n → g i = g j → i = j := fun i j hi hj e => by
    rcases Nat.lt_trichotomy i j with q | q | q
    · exact absurd e (inj i j q hj)
    · exact q
    · exact absurd e.symm (inj j i q hi)
  have hnk : n ≤ k := by
    have hn : ((List.range n).map g).Nodup := by
      unfold List.Nodup
      rw [List.pairwise_map]
      refine List.Pairwise.imp_of_mem ?_ (List.nodup_range (n := n))
      intro i j hi hj hne e
      exact hne (inj' i j (List.mem_range.1 hi) (List.mem_range.1 hj) e)
    have := nodup_len_le (l := (List.range n).map g) (l' := List.range k) hn (fun x hx => by
      obtain ⟨i, hi, rfl⟩ := List.mem_map.1 hx
      exact List.mem_range.2 (lt i (List.mem_range.1 hi)))
    rwa [List.length_map, List.length_range, List.length_range] at this
  refine ⟨n, g, p1, ?_, hnk, by rw [g1, g2], g3, lt, inj'⟩
  have : n ≠ 1 := fun e => by
    subst e
    have := g3 0 (by omega)
    rw [show 0 + 1 = 1 from rfl, g2, g1, hirr] at this; cases this
  omega
end Go.Proofs.Ytlecmgdkoanghaa
