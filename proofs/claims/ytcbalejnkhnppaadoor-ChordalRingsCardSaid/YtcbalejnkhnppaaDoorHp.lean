import Derived.Test.YtcbalejnkhnppaaDoorHo
/- plain: where peeling stops there is a long ring without short cuts -/
set_option linter.all false
set_option maxRecDepth 100000
namespace Go.Proofs.YtcbalejnkhnppaaDoor
open Go.RowKit Go.Shelf Pl
theorem lt_of_sub {S T k : Nat} (hS : S < 2 ^ k) (h : ∀ u, T.testBit u = true → S.testBit u = true) : T < 2 ^ k := by
  rcases Nat.lt_or_ge T (2 ^ k) with q | q
  · exact q
  · obtain ⟨i, hi, hb⟩ := Nat.exists_ge_and_testBit_of_ge_two_pow q
    have := bitLt hS (h i hb); omega
theorem sub_len {S T y k : Nat} (h8 : k ≤ 8) (hS : S < 2 ^ k) (h : ∀ u, T.testBit u = true → S.testBit u = true) (hy : S.testBit y = true) (hn : ¬ T.testBit y = true) : (memb T).length < (memb S).length := by
  have hp := Nat.pow_le_pow_right (n := 2) (by omega) h8
  have hT := lt_of_sub hS h
  have := nodup_len_le (l := y :: memb T) (l' := memb S) (List.nodup_cons.2 ⟨fun q => hn ((mem_memb (by omega)).1 q), membNd T⟩) (fun x hx => by
    rcases List.mem_cons.1 hx with rfl | hx
    · exact (mem_memb (by omega)).2 hy
    · exact (mem_memb (by omega)).2 (h x ((mem_memb (by omega)).1 hx)))
  rw [List.length_cons] at this; omega
theorem min_ex {Q : Nat → Prop} (f : Nat → Nat) (h : ∃ S, Q S) : ∃ S, Q S ∧ ∀ S', Q S' → f S ≤ f S' := by
  have key : ∀ m, (∃ S, f S ≤ m ∧ Q S) → ∃ S, Q S ∧ ∀ S', Q S' → f S ≤ f S' := by
    intro m
    induction m with
    | zero =>
      rintro ⟨S, h1, h2⟩
      exact ⟨S, h2, fun S' _ => by omega⟩
    | succ m ih =>
      intro h
      by_cases c : ∃ S, f S ≤ m ∧ Q S
      · exact ih c
      · obtain ⟨S, h1, h2⟩ := h
        exact ⟨S, h2, fun S' hS' => Nat.le_of_not_lt fun hlt => c ⟨S', by omega, hS'⟩⟩
  obtain ⟨S, hS⟩ := h
  exact key (f S) ⟨S, Nat.le_refl _, hS⟩
/-- a way from p to q through what can be reached -/
theorem through {a : Nat → Nat → Bool} (hs : ∀ i j, a i j = a j i) {U : Nat → Prop} {x p q z1 z2 : Nat} (h1 : ∃ m, WU a U m x z1) (h2 : ∃ m, WU a U m x z2) (e1 : a z1 p = true) (e2 : a z2 q = true) :
    ∃ (n : Nat) (g : Nat → Nat), g 0 = p ∧ g n = q ∧ (∀ i, 0 < i → i < n → ∃ m, WU a U m x (g i)) ∧ ∀ i, i < n → a (g i) (g (i+1)) = true := by
  obtain ⟨m1, w1⟩ := h1
  obtain ⟨m2, w2⟩ := h2
  obtain ⟨g, g1, g2, g3, g4⟩ := (w1.rev hs).append w2
  have hA : ∀ i, i ≤ m1 + m2 → ∃ m, WU a U m x (g i) := fun i hi => ⟨m1 + i, w1.append ⟨g, g1, rfl, fun t ht => g3 t (by omega), fun t ht => g4 t (by omega)⟩⟩
  obtain ⟨F, F0, F1, F2⟩ : ∃ F : Nat → Nat, F 0 = p ∧ (∀ i, i ≤ m1 + m2 → F (i+1) = g i) ∧ F (m1 + m2 + 2) = q := ⟨fun i => if i = 0 then p else if i ≤ m1 + m2 + 1 then g (i - 1) else q, if_pos rfl, fun i hi => by
    show (if i + 1 = 0 then p else if i + 1 ≤ m1 + m2 + 1 then g (i + 1 - 1) else q) = g i
    rw [if_neg (by omega), if_pos (by omega), Nat.add_sub_cancel], by
    show (if m1 + m2 + 2 = 0 then p else if m1 + m2 + 2 ≤ m1 + m2 + 1 then g (m1 + m2 + 2 - 1) else q) = q
    rw [if_neg (by omega), if_neg (by omega)]⟩
  refine ⟨m1 + m2 + 2, F, F0, F2, fun i h0 hi => ?_, fun i hi => ?_⟩
  · obtain ⟨j, rfl⟩ : ∃ j, i = j + 1 := ⟨i - 1, by omega⟩
    rw [F1 j (by omega)]; exact hA j (by omega)
  · cases i with
    | zero => rw [F0, F1 0 (by omega), g1, hs]; exact e1
    | succ i =>
      rw [F1 i (by omega)]
      by_cases c : i = m1 + m2
      · subst c; rw [F2, g2]; exact e2
      · rw [F1 (i+1) (by omega)]; exact g4 i (by omega)
theorem hole_ex {a : Nat → Nat → Bool} (hs : ∀ i j, a i j = a j i) (hirr : ∀ v, a v v = false) {k : Nat} (h8 : k ≤ 8) (hP : ¬ Peels a k) :
    ∃ (L : Nat) (c : Nat → Nat), 4 ≤ L ∧ (∀ s, s < L → c s < k) ∧ (∀ s t, s < t → t < L → c s ≠ c t) ∧ ∀ s t, s < t → t < L → (a (c s) (c t) = true ↔ t = s + 1 ∨ (s = 0 ∧ t + 1 = L)) := by
  classical
  have hp := Nat.pow_le_pow_right (n := 2) (by omega) h8
  obtain ⟨S, ⟨s0, s1, s2⟩, smin⟩ := min_ex (Q := fun S => S ≠ 0 ∧ S < 2 ^ k ∧ ∀ v, S.testBit v = true → ¬ Simp a S v) (fun S => (memb S).length) (Classical.byContradiction fun q => hP fun S hS hlt => Classical.byContradiction fun z => q ⟨S, hS, hlt, fun v hv hsv => z ⟨v, hv, hsv⟩⟩)
  have hprop : ∀ S' y, S' ≠ 0 → (∀ u, S'.testBit u = true → S.testBit u = true) → S.testBit y = true → ¬ S'.testBit y = true → ∃ v, S'.testBit v = true ∧ Simp a S' v := fun S' y h0 hsub hy hny => Classical.byContradiction fun q => by
    have := smin S' ⟨h0, lt_of_sub s1 hsub, fun v hv hsv => q ⟨v, hv, hsv⟩⟩
    have := sub_len h8 s1 hsub hy hny
    omega
  -- two points that are not beside each other
  obtain ⟨x, y, hx, hy, hxy, hadj⟩ : ∃ x y, S.testBit x = true ∧ S.testBit y = true ∧ x ≠ y ∧ a x y = false := Classical.byContradiction fun q => by
    obtain ⟨v, hv⟩ := bits_ex s0
    exact s2 v hv fun u w hu hw _ _ hne => Classical.byContradiction fun z => q ⟨u, w, hu, hw, hne, Bool.eq_false_iff.2 z⟩
  -- a least cut
  have hT0 : ∀ u, (ndiff (ndiff S (2 ^ x)) (2 ^ y)).testBit u = true ↔ S.testBit u = true ∧ u ≠ x ∧ u ≠ y := fun u => by
    rw [ndiff_testBit, ndiff_testBit, Nat.testBit_two_pow, Nat.testBit_two_pow, Bool.and_eq_true, Bool.and_eq_true]
    have e1 : (x = u) ↔ (u = x) := ⟨Eq.symm, Eq.symm⟩
    have e2 : (y = u) ↔ (u = y) := ⟨Eq.symm, Eq.symm⟩
    simp [e1, e2, and_assoc]
  obtain ⟨T, ⟨t1, t2⟩, tmin⟩ := min_ex (Q := fun T => (∀ u, T.testBit u = true → S.testBit u = true ∧ u ≠ x ∧ u ≠ y) ∧ ∀ n, ¬ WU a (fun u => S.testBit u = true ∧ ¬ T.testBit u = true) n x y) (fun T => (memb T).length) ⟨ndiff (ndiff S (2 ^ x)) (2 ^ y), fun u hu => (hT0 u).1 hu, fun n hw => by
    cases n with
    | zero => exact hxy hw.zero.1
    | succ n =>
      obtain ⟨w, _, w2, w3⟩ := hw.un
      obtain ⟨g, g1, _, g3, _⟩ := w3
      obtain ⟨u1, u2⟩ := g3 0 (Nat.zero_le _)
      rw [g1] at u1 u2
      rw [hT0] at u2
      by_cases c1 : w = x
      · rw [c1, hirr] at w2; cases w2
      · by_cases c2 : w = y
        · rw [c2, hadj] at w2; cases w2
        · exact u2 ⟨u1, c1, c2⟩⟩
  let U := fun u => S.testBit u = true ∧ ¬ T.testBit u = true
  have hUx : U x := ⟨hx, fun q => (t1 x q).2.1 rfl⟩
  have hUy : U y := ⟨hy, fun q => (t1 y q).2.2 rfl⟩
  have hTlt : T < 2 ^ k := lt_of_sub s1 fun u hu => (t1 u hu).1
  let A := fun z => ∃ m, WU a U m x z
  let B := fun z => ∃ m, WU a U m y z
  have hAU : ∀ z, A z → U z := fun z ⟨m, h⟩ => h.last
  have hBU : ∀ z, B z → U z := fun z ⟨m, h⟩ => h.last
  have hAB : ∀ z w, A z → B w → z ≠ w ∧ a z w = false := fun z w ⟨m1, h1⟩ ⟨m2, h2⟩ => ⟨fun e => by
    subst e; exact t2 _ (h1.append (h2.rev hs)), Bool.eq_false_iff.2 fun e => t2 _ ((h1.snoc e h2.last).append (h2.rev hs))⟩
  have hTA : ∀ p, T.testBit p = true → (∃ z, A z ∧ a z p = true) ∧ ∃ z, B z ∧ a z p = true := fun p hpT => by
    have hlow : ¬ ((∀ u, (ndiff T (2 ^ p)).testBit u = true → S.testBit u = true ∧ u ≠ x ∧ u ≠ y) ∧ ∀ n, ¬ WU a (fun u => S.testBit u = true ∧ ¬ (ndiff T (2 ^ p)).testBit u = true) n x y) := fun hq => by
      have h1 := tmin _ hq
      have h2 := memb_less ((mem_memb (m := T) (i := p) (by omega)).2 hpT)
      omega
    have hnb : ∀ u, (ndiff T (2 ^ p)).testBit u = true ↔ T.testBit u = true ∧ u ≠ p := fun u => by
      rw [ndiff_testBit, Nat.testBit_two_pow, Bool.and_eq_true]
      have e1 : (p = u) ↔ (u = p) := ⟨Eq.symm, Eq.symm⟩
      simp [e1]
    obtain ⟨n, hw⟩ : ∃ n, WU a (fun u => S.testBit u = true ∧ ¬ (ndiff T (2 ^ p)).testBit u = true) n x y := Classical.byContradiction fun q => hlow ⟨fun u hu => t1 u ((hnb u).1 hu).1, fun n hn => q ⟨n, hn⟩⟩
    have hw' : WU a (fun u => U u ∨ u = p) n x y := hw.mono fun u ⟨h1, h2⟩ => by
      by_cases e : u = p
      · exact .inr e
      · exact .inl ⟨h1, fun q => h2 ((hnb u).2 ⟨q, e⟩)⟩
    constructor
    · rcases first_hit hw' hUx hUy with ⟨m, q⟩ | ⟨z, m, q, r⟩
      · exact absurd q (t2 m)
      · exact ⟨z, ⟨m, q⟩, r⟩
    · rcases first_hit (hw'.rev hs) hUy hUx with ⟨m, q⟩ | ⟨z, m, q, r⟩
      · exact absurd (q.rev hs) (t2 m)
      · exact ⟨z, ⟨m, q⟩, r⟩
  -- the cut is no set of points all beside each other
  obtain ⟨p, q, hpT, hqT, hpq, hpqa⟩ : ∃ p q, T.testBit p = true ∧ T.testBit q = true ∧ p ≠ q ∧ a p q = false := Classical.byContradiction fun hno => by
    have hcl : ∀ p q, T.testBit p = true → T.testBit q = true → p ≠ q → a p q = true := fun p q h1 h2 h3 => Classical.byContradiction fun z => hno ⟨p, q, h1, h2, h3, Bool.eq_false_iff.2 z⟩
    let Q := maskOf ((memb S).filter fun u => decide (A u ∨ T.testBit u = true))
    have hQ : ∀ u, Q.testBit u = true ↔ S.testBit u = true ∧ (A u ∨ T.testBit u = true) := fun u => by
      show (maskOf _).testBit u = true ↔ _
      rw [maskOf_bit, decide_eq_true_eq, List.mem_filter, mem_memb (by omega), decide_eq_true_eq]
    have hQS : ∀ u, Q.testBit u = true → S.testBit u = true := fun u hu => ((hQ u).1 hu).1
    have hQy : ¬ Q.testBit y = true := fun hq => by
      rcases ((hQ y).1 hq).2 with ⟨m, h⟩ | h
      · exact t2 m h
      · exact (t1 y h).2.2 rfl
    have hQx : Q.testBit x = true := (hQ x).2 ⟨hx, .inl ⟨0, WU.nil hUx⟩⟩
    have fin : ∀ z, A z → Simp a Q z → False := fun z hz hsz => by
      refine s2 z (hAU z hz).1 fun u w hu hw h1 h2 hne => ?_
      have inQ : ∀ u, S.testBit u = true → a z u = true → Q.testBit u = true := fun u hu h => by
        refine (hQ u).2 ⟨hu, ?_⟩
        by_cases c : T.testBit u = true
        · exact .inr c
        · obtain ⟨m, hm⟩ := hz
          exact .inl ⟨m + 1, hm.snoc h ⟨hu, c⟩⟩
      exact hsz u w (inQ u hu h1) (inQ w hw h2) h1 h2 hne
    rcases diracS hs h8 (Q := Q) (fun S' h0 hsub => hprop S' y h0 (fun u hu => hQS u (hsub u hu)) hy (fun hq => hQy (hsub y hq))) 17 Q (by have := memb_len16 Q; omega) (lt_of_sub s1 hQS) (fun u hu => hu) with hc | ⟨u, w, hu, hw, huw, hua, su, sw⟩
    · exact fin x ⟨0, WU.nil hUx⟩ fun u w hu hw _ _ hne => hc u w hu hw hne
    · rcases ((hQ u).1 hu).2 with h | h
      · exact fin u h su
      · rcases ((hQ w).1 hw).2 with h' | h'
        · exact fin w h' sw
        · have := hcl u w h h' huw
          rw [hua] at this; cases this
  -- the two ways
  obtain ⟨⟨z1, z1A, z1p⟩, ⟨y1, y1B, y1p⟩⟩ := hTA p hpT
  obtain ⟨⟨z2, z2A, z2q⟩, ⟨y2, y2B, y2q⟩⟩ := hTA q hqT
  obtain ⟨n, g, n2, g0, gn, gA, gE, gI, gC⟩ := short_way (A := A) hpq hpqa (through hs z1A z2A z1p z2q)
  obtain ⟨m, h, m2, h0, hm, hB, hE, hI, hC⟩ := short_way (A := B) hpq hpqa (through hs y1B y2B y1p y2q)
  have notT : ∀ z, U z → z ≠ p ∧ z ≠ q := fun z hz => ⟨fun e => hz.2 (by rw [e]; exact hpT), fun e => hz.2 (by rw [e]; exact hqT)⟩
  obtain ⟨c, c1, c2⟩ : ∃ c : Nat → Nat, (∀ t, t ≤ n → c t = g t) ∧ ∀ t, n < t → c t = h (n + m - t) := ⟨fun t => if t ≤ n then g t else h (n + m - t), fun t ht => if_pos ht, fun t ht => if_neg (by omega)⟩
  have gcase : ∀ s, s ≤ n → (s = 0 ∧ g s = h 0) ∨ (s = n ∧ g s = h m) ∨ (0 < s ∧ s < n ∧ A (g s)) := fun s hs' => by
    by_cases e0 : s = 0
    · exact .inl ⟨e0, by rw [e0, g0, h0]⟩
    · by_cases en : s = n
      · exact .inr (.inl ⟨en, by rw [en, gn, hm]⟩)
      · exact .inr (.inr ⟨by omega, by omega, gA s (by omega) (by omega)⟩)
  refine ⟨n + m, c, by omega, fun s hsL => ?_, fun s t hst htL => ?_, fun s t hst htL => ?_⟩
  · by_cases e : s ≤ n
    · rw [c1 s e]
      rcases gcase s e with ⟨e0, _⟩ | ⟨en, _⟩ | ⟨_, _, hA'⟩
      · rw [e0, g0]; exact bitLt s1 (t1 p hpT).1
      · rw [en, gn]; exact bitLt s1 (t1 q hqT).1
      · exact bitLt s1 (hAU _ hA').1
    · rw [c2 s (by omega)]
      exact bitLt s1 (hBU _ (hB (n + m - s) (by omega) (by omega))).1
  · by_cases et : t ≤ n
    · rw [c1 s (by omega), c1 t et]; exact gI s t hst et
    · rw [c2 t (by omega)]
      have hBt := hB (n + m - t) (by omega) (by omega)
      by_cases es : s ≤ n
      · rw [c1 s es]
        rcases gcase s es with ⟨e0, e⟩ | ⟨en, e⟩ | ⟨_, _, hA'⟩
        · rw [e]; exact hI 0 _ (by omega) (by omega)
        · rw [e]; exact fun z => hI (n + m - t) m (by omega) (Nat.le_refl _) z.symm
        · exact (hAB _ _ hA' hBt).1
      · rw [c2 s (by omega)]
        exact fun z => hI (n + m - t) (n + m - s) (by omega) (by omega) z.symm
  · by_cases et : t ≤ n
    · rw [c1 s (by omega), c1 t et]
      by_cases e : t = s + 1
      · subst e; exact ⟨fun _ => .inl rfl, fun _ => gE s (by omega)⟩
      · rw [gC s t (by omega) et]
        exact ⟨fun z => (Bool.false_ne_true z).elim, fun z => by omega⟩
    · rw [c2 t (by omega)]
      have hBt := hB (n + m - t) (by omega) (by omega)
      by_cases es : s ≤ n
      · rw [c1 s es]
        rcases gcase s es with ⟨e0, e⟩ | ⟨en, e⟩ | ⟨i1, i2, hA'⟩
        · rw [e]
          by_cases c : n + m - t = 1
          · rw [c]; exact ⟨fun _ => .inr ⟨e0, by omega⟩, fun _ => hE 0 (by omega)⟩
          · rw [hC 0 _ (by omega) (by omega)]
            exact ⟨fun z => (Bool.false_ne_true z).elim, fun z => by omega⟩
        · rw [e, hs]
          by_cases c : n + m - t + 1 = m
          · exact ⟨fun _ => .inl (by omega), fun _ => by have := hE (n + m - t) (by omega); rw [c] at this; exact this⟩
          · rw [hC _ m (by omega) (Nat.le_refl _)]
            exact ⟨fun z => (Bool.false_ne_true z).elim, fun z => by omega⟩
        · rw [(hAB _ _ hA' hBt).2]
          exact ⟨fun z => (Bool.false_ne_true z).elim, fun z => by omega⟩
      · rw [c2 s (by omega), hs]
        by_cases e : t = s + 1
        · have := hE (n + m - t) (by omega)
          rw [show n + m - t + 1 = n + m - s by omega] at this
          exact ⟨fun _ => .inl e, fun _ => this⟩
        · rw [hC (n + m - t) (n + m - s) (by omega) (by omega)]
          exact ⟨fun z => (Bool.false_ne_true z).elim, fun z => by omega⟩
end Go.Proofs.YtcbalejnkhnppaaDoor
