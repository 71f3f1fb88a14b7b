import Derived.Test.YtabkmceajgpdjaaDoorWords
/- scores of points that beat each other: of the greatest score those with the least are beaten (plain) -/
set_option linter.all false
set_option maxRecDepth 100000
namespace Go.Proofs.YtabkmceajgpdjaaDoor
namespace Hs
def c2 : Nat → Int
  | 0 => 0
  | j+1 => c2 j + (j : Int)
theorem c2_nonneg : ∀ j, 0 ≤ c2 j
  | 0 => Int.le_refl _
  | j+1 => by have := c2_nonneg j; simp only [c2]; omega
theorem c2_add (a : Nat) : ∀ b : Nat, c2 (a + b) = c2 a + c2 b + (a : Int) * (b : Int)
  | 0 => by simp [c2]
  | b+1 => by
    have ih := c2_add a b
    have e : (a : Int) * ((b + 1 : Nat) : Int) = (a : Int) * (b : Int) + (a : Int) := by rw [Int.natCast_add, Int.mul_add]; simp
    rw [← Nat.add_assoc]; simp only [c2]; rw [ih, e]; omega
theorem c2_sq : ∀ d : Nat, c2 d ≤ (d : Int) * (d : Int)
  | 0 => by simp [c2]
  | d+1 => by
    have ih := c2_sq d
    have e : ((d + 1 : Nat) : Int) * ((d + 1 : Nat) : Int) = (d : Int) * (d : Int) + (d : Int) + (d : Int) + 1 := by
      rw [Int.natCast_add, Int.add_mul, Int.mul_add, Int.mul_add]; simp; omega
    simp only [c2]; rw [e]; omega
def smI : List Int → Int
  | [] => 0
  | a :: l => a + smI l
theorem smI_app : ∀ a b : List Int, smI (a ++ b) = smI a + smI b
  | [], b => by simp [smI]
  | x :: a, b => by rw [List.cons_append]; simp only [smI]; rw [smI_app a b]; omega
theorem smI_perm {a b : List Int} (h : a.Perm b) : smI a = smI b := by
  induction h with
  | nil => rfl
  | cons x _ ih => simp only [smI]; rw [ih]
  | swap x y l => simp only [smI]; omega
  | trans _ _ h1 h2 => rw [h1, h2]
theorem smI_ge {m : Int} : ∀ {l : List Int}, (∀ x ∈ l, m ≤ x) → m * (l.length : Int) ≤ smI l
  | [], _ => by simp [smI]
  | a :: l, h => by
    have ih := smI_ge (l := l) fun x hx => h x (List.mem_cons_of_mem _ hx)
    have h0 := h a List.mem_cons_self
    have e : m * ((l.length + 1 : Nat) : Int) = m * (l.length : Int) + m := by rw [Int.natCast_add, Int.mul_add]; simp
    simp only [smI, List.length_cons]; rw [e]; omega
theorem smI_le {m : Int} : ∀ {l : List Int}, (∀ x ∈ l, x ≤ m) → smI l ≤ m * (l.length : Int)
  | [], _ => by simp [smI]
  | a :: l, h => by
    have ih := smI_le (l := l) fun x hx => h x (List.mem_cons_of_mem _ hx)
    have h0 := h a List.mem_cons_self
    have e : m * ((l.length + 1 : Nat) : Int) = m * (l.length : Int) + m := by rw [Int.natCast_add, Int.mul_add]; simp
    simp only [smI, List.length_cons]; rw [e]; omega
theorem smI_less : ∀ l : List Int, smI (l.map fun y => y - 1) = smI l - (l.length : Int)
  | [] => by simp [smI]
  | a :: l => by rw [List.map_cons]; simp only [smI, List.length_cons]; rw [smI_less l]; omega
/-- of any of them as many sums as are asked for, and all of them just that -/
def LI (xs : List Int) : Prop := (∀ u v : List Int, (u ++ v).Perm xs → c2 u.length ≤ smI u) ∧ smI xs = c2 xs.length
theorem LI_perm {xs ys : List Int} (h : xs.Perm ys) : LI xs → LI ys := fun ⟨h1, h2⟩ => ⟨fun u v q => h1 u v (q.trans h.symm), by rw [← smI_perm h, h2, h.length_eq]⟩
theorem least_sub : ∀ (ts u v : List Int), ts.Pairwise (· ≤ ·) → (u ++ v).Perm ts → smI (ts.take u.length) ≤ smI u
  | [], u, v, _, hp => by
    have h : u ++ v = [] := List.Perm.eq_nil hp
    have h2 : u = [] := (List.append_eq_nil_iff.1 h).1
    subst h2; exact Int.le_refl _
  | a :: t, u, v, hs, hp => by
    obtain ⟨s1, s2⟩ := List.pairwise_cons.1 hs
    match u, hp with
    | [], _ => exact Int.le_refl _
    | x :: u', hp =>
      have key : ∀ (y : Int) (w : List Int), (y :: w).Perm (x :: u') → (w ++ v).Perm t ∨ (∃ v', (w ++ v').Perm t) → a ≤ y → smI ((a :: t).take (x :: u').length) ≤ smI (x :: u') := by
        intro y w hw hq hy
        have hl : w.length = u'.length := by have := hw.length_eq; simp at this; exact this
        rw [← smI_perm hw, List.length_cons, List.take_succ_cons]
        simp only [smI]
        have : smI (t.take w.length) ≤ smI w := by
          rcases hq with hq | ⟨v', hq⟩
          · exact least_sub t w v s2 hq
          · exact least_sub t w v' s2 hq
        rw [hl] at this; omega
      have ha : a ∈ x :: u' ++ v := hp.mem_iff.2 List.mem_cons_self
      rcases List.mem_append.1 ha with ha | ha
      · have hw := (List.perm_cons_erase ha).symm
        refine key a _ hw (.inl ?_) (Int.le_refl _)
        have : (a :: ((x :: u').erase a ++ v)).Perm (a :: t) := by
          rw [← List.cons_append]
          exact (hw.append_right v).trans hp
        exact List.Perm.cons_inv this
      · refine key x u' (List.Perm.refl _) (.inr ⟨x :: v.erase a, ?_⟩) ?_
        · have h1 : (a :: (x :: u' ++ v.erase a)).Perm (a :: t) := by
            refine List.Perm.trans ?_ hp
            refine List.Perm.trans (List.perm_middle (a := a) (l₁ := x :: u') (l₂ := v.erase a)).symm ?_
            exact List.Perm.append_left _ (List.perm_cons_erase ha).symm
          have h2 := List.Perm.cons_inv h1
          refine List.Perm.trans ?_ h2
          exact List.perm_middle
        · have hx : x ∈ a :: t := hp.mem_iff.1 List.mem_cons_self
          rcases List.mem_cons.1 hx with rfl | hx
          · exact Int.le_refl _
          · exact s1 x hx
theorem LI_sorted {ts : List Int} (hs : ts.Pairwise (· ≤ ·)) : LI ts ↔ (∀ j, j ≤ ts.length → c2 j ≤ smI (ts.take j)) ∧ smI ts = c2 ts.length := by
  constructor
  · rintro ⟨h1, h2⟩
    refine ⟨fun j hj => ?_, h2⟩
    have := h1 (ts.take j) (ts.drop j) (by rw [List.take_append_drop])
    rwa [List.length_take, Nat.min_eq_left hj] at this
  · rintro ⟨h1, h2⟩
    refine ⟨fun u v hp => ?_, h2⟩
    have hl : u.length ≤ ts.length := by rw [← hp.length_eq, List.length_append]; omega
    have := least_sub ts u v hs hp
    have := h1 u.length hl
    omega
theorem sq_lemma (S Q : Nat) : 0 ≤ c2 S + (S : Int) + (Q : Int) * (Q : Int) - c2 Q - (Q : Int) * (S : Int) := by
  rcases Nat.le_total S Q with h | h
  · obtain ⟨d, rfl⟩ : ∃ d, Q = S + d := ⟨Q - S, by omega⟩
    have h1 := c2_add S d
    have h2 := c2_sq d
    have e : ((S + d : Nat) : Int) * ((S + d : Nat) : Int) = ((S + d : Nat) : Int) * (S : Int) + ((S : Int) * (d : Int) + (d : Int) * (d : Int)) := by
      rw [Int.natCast_add, Int.mul_add, Int.add_mul (S : Int) (d : Int) (d : Int)]
    rw [e]; omega
  · obtain ⟨d, rfl⟩ : ∃ d, S = Q + d := ⟨S - Q, by omega⟩
    have h1 := c2_add Q d
    have h2 := c2_nonneg d
    have e : (Q : Int) * ((Q + d : Nat) : Int) = (Q : Int) * (Q : Int) + (Q : Int) * (d : Int) := by rw [Int.natCast_add, Int.mul_add]
    rw [e]; omega
/-- what is asked of any of them may be asked of those below a number alone -/
theorem LI_cut {xs : List Int} (h : ∀ m : Nat, c2 (xs.filter fun x => decide (x < (m : Int))).length ≤ smI (xs.filter fun x => decide (x < (m : Int)))) {u v : List Int} (hp : (u ++ v).Perm xs) : c2 u.length ≤ smI u := by
  obtain ⟨m, hm⟩ : ∃ m, u.length = m := ⟨_, rfl⟩
  have hT := h m
  have hf := (hp.filter fun x => decide (x < (m : Int))).symm
  rw [List.filter_append] at hf
  rw [hf.length_eq, smI_perm hf, List.length_append, smI_app] at hT
  have hu : ((u.filter fun x => decide (x < (m : Int))) ++ (u.filter fun x => !decide (x < (m : Int)))).Perm u := List.filter_append_perm _ u
  obtain ⟨p, hpp⟩ : ∃ p, (u.filter fun x => decide (x < (m : Int))) = p := ⟨_, rfl⟩
  obtain ⟨q, hq⟩ : ∃ q, (u.filter fun x => !decide (x < (m : Int))) = q := ⟨_, rfl⟩
  obtain ⟨s, hs⟩ : ∃ s, (v.filter fun x => decide (x < (m : Int))) = s := ⟨_, rfl⟩
  have hq1 : ∀ x ∈ q, (m : Int) ≤ x := fun x hx => by
    rw [← hq, List.mem_filter] at hx
    have := hx.2; simp at this; omega
  have hs1 : ∀ x ∈ s, x ≤ (m : Int) - 1 := fun x hx => by
    rw [← hs, List.mem_filter] at hx
    have := of_decide_eq_true hx.2; omega
  rw [hpp, hs] at hT
  rw [hpp, hq] at hu
  have hl := hu.length_eq
  have hsum := smI_perm hu
  rw [List.length_append] at hl
  rw [smI_app] at hsum
  have g1 := smI_ge hq1
  have g2 := smI_le hs1
  have a1 := c2_add p.length s.length
  have a2 := c2_add p.length q.length
  have sq := sq_lemma s.length q.length
  have em : (m : Int) = (p.length : Int) + (q.length : Int) := by omega
  have e1 : (m : Int) * (q.length : Int) = (p.length : Int) * (q.length : Int) + (q.length : Int) * (q.length : Int) := by rw [em, Int.add_mul]
  have e2 : ((m : Int) - 1) * (s.length : Int) = (p.length : Int) * (s.length : Int) + (q.length : Int) * (s.length : Int) - (s.length : Int) := by
    rw [Int.sub_mul, em, Int.add_mul, Int.one_mul]
  rw [e1] at g1
  rw [e2] at g2
  rw [hm, ← hm, ← hl, a2]
  omega
theorem filt {p : Int → Bool} (hp : ∀ x y : Int, x ≤ y → p y = true → p x = true) : ∀ {l : List Int}, l.Pairwise (· ≤ ·) → ∃ a, a ≤ l.length ∧ l.filter p = l.take a ∧ (∀ x ∈ l.take a, p x = true) ∧ ∀ x ∈ l.drop a, p x = false
  | [], _ => ⟨0, Nat.le_refl _, rfl, (fun x h => by cases h), (fun x h => by cases h)⟩
  | a :: l, h => by
    obtain ⟨s1, s2⟩ := List.pairwise_cons.1 h
    cases e : p a
    · have hall : ∀ x ∈ l, p x = false := fun x hx => by
        cases e2 : p x
        · rfl
        · have := hp a x (s1 x hx) e2; rw [e] at this; cases this
      refine ⟨0, Nat.zero_le _, ?_, (fun x h => by cases h), fun x hx => ?_⟩
      · rw [List.filter_cons_of_neg (by simp [e]), List.take_zero, List.filter_eq_nil_iff]
        intro x hx; rw [hall x hx]; decide
      · rw [List.drop_zero] at hx
        rcases List.mem_cons.1 hx with rfl | hx
        · exact e
        · exact hall x hx
    · obtain ⟨k, k1, k2, k3, k4⟩ := filt hp s2
      refine ⟨k+1, by simp; omega, by rw [List.filter_cons_of_pos e, List.take_succ_cons, k2], fun x hx => ?_, fun x hx => k4 x (by rwa [List.drop_succ_cons] at hx)⟩
      rw [List.take_succ_cons] at hx
      rcases List.mem_cons.1 hx with rfl | hx
      · exact e
      · exact k3 x hx
/-- the greatest beats those with the least scores, and the others beat it -/
theorem reduce {X Y : List Int} (hs : (X ++ Y ++ [(X.length : Int)]).Pairwise (· ≤ ·)) : LI (X ++ Y ++ [(X.length : Int)]) ↔ LI (X ++ Y.map fun y => y - 1) := by
  have hlen : (X ++ Y ++ [(X.length : Int)]).length = X.length + Y.length + 1 := by simp; omega
  have hlen2 : (X ++ Y.map fun y => y - 1).length = X.length + Y.length := by simp
  have hsum : smI (X ++ Y ++ [(X.length : Int)]) = smI X + smI Y + (X.length : Int) := by rw [smI_app, smI_app]; simp [smI]
  have hsum2 : smI (X ++ Y.map fun y => y - 1) = smI X + smI Y - (Y.length : Int) := by rw [smI_app, smI_less]; omega
  have hc : c2 (X.length + Y.length + 1) = c2 (X.length + Y.length) + ((X.length + Y.length : Nat) : Int) := rfl
  have h12 := List.pairwise_append.1 hs
  have h1 := List.pairwise_append.1 h12.1
  have hXs : X.Pairwise (· ≤ ·) := h1.1
  have hYs : Y.Pairwise (· ≤ ·) := h1.2.1
  have hXY : ∀ x ∈ X, ∀ y ∈ Y, x ≤ y := h1.2.2
  have hYt : ∀ y ∈ Y, y ≤ (X.length : Int) := fun y hy => h12.2.2 y (List.mem_append_right _ hy) _ (List.mem_singleton.2 rfl)
  rw [LI_sorted hs]
  constructor
  · rintro ⟨f, ft⟩
    rw [hsum, hlen] at ft
    refine ⟨?_, by rw [hsum2, hlen2]; omega⟩
    have fX : ∀ a, a ≤ X.length → c2 a ≤ smI (X.take a) := fun a ha => by
      have := f a (by omega)
      rwa [List.append_assoc, List.take_append_of_le_length ha] at this
    -- with the first of the others
    have hh : ∀ q, q ≤ Y.length → c2 (X.length + q) ≤ smI X + smI (Y.take q) - (q : Int) := fun q hq => by
      obtain ⟨d, hd⟩ : ∃ d, Y.length = q + d := ⟨Y.length - q, by omega⟩
      have hsp : smI Y = smI (Y.take q) + smI (Y.drop q) := by rw [← smI_app, List.take_append_drop]
      have hdl : (Y.drop q).length = d := by rw [List.length_drop]; omega
      have hle := smI_le (m := (X.length : Int)) (l := Y.drop q) fun x hx => hYt x (List.mem_of_mem_drop hx)
      rw [hdl] at hle
      have a1 := c2_add (X.length + q) d
      have e1 : ((X.length + q : Nat) : Int) * (d : Int) = (X.length : Int) * (d : Int) + (q : Int) * (d : Int) := by rw [Int.natCast_add, Int.add_mul]
      have nn := c2_nonneg d
      have nq : 0 ≤ (q : Int) * (d : Int) := Int.mul_nonneg (by omega) (by omega)
      rw [e1] at a1
      rw [hd, ← Nat.add_assoc] at hc ft
      omega
    intro u v hp
    refine LI_cut (xs := X ++ Y.map fun y => y - 1) (fun m => ?_) hp
    obtain ⟨a, a1, a2, a3, a4⟩ := filt (p := fun x => decide (x < (m : Int))) (fun x y hxy h => by have := of_decide_eq_true h; exact decide_eq_true (by omega)) hXs
    obtain ⟨q, q1, q2, q3, q4⟩ := filt (p := fun x => decide (x ≤ (m : Int))) (fun x y hxy h => by have := of_decide_eq_true h; exact decide_eq_true (by omega)) hYs
    have hY : (Y.map fun y => y - 1).filter (fun x => decide (x < (m : Int))) = (Y.take q).map fun y => y - 1 := by
      rw [List.filter_map, ← q2]
      congr 1
      apply List.filter_congr
      intro x _
      simp only [Function.comp]
      rw [decide_eq_decide]; omega
    have hql : (Y.take q).length = q := by rw [List.length_take]; omega
    have hal : (X.take a).length = a := by rw [List.length_take]; omega
    rw [List.filter_append, a2, hY, smI_app, smI_less, List.length_append, List.length_map, hql, hal]
    by_cases c1 : a = X.length
    · have := hh q q1
      rw [c1, List.take_length]; omega
    · by_cases c0 : q = 0
      · subst c0
        have := fX a a1
        simp only [List.take_zero, smI]; simpa using this
      · have hx : ∃ x ∈ X, x ∈ X.drop a := by
          have : 0 < (X.drop a).length := by rw [List.length_drop]; omega
          obtain ⟨x, hx⟩ := List.exists_mem_of_length_pos this
          exact ⟨x, List.mem_of_mem_drop hx, hx⟩
        obtain ⟨x, hx1, hx2⟩ := hx
        have hxm := of_decide_eq_false (a4 x hx2)
        have hYq : ∀ y ∈ Y.take q, y = (m : Int) := fun y hy => by
          have h1 := of_decide_eq_true (q3 y hy)
          have h2 := hXY x hx1 y (List.mem_of_mem_take hy)
          omega
        have hy0 : ∃ y, y ∈ Y.take q := List.exists_mem_of_length_pos (by omega)
        obtain ⟨y, hy⟩ := hy0
        have hXd : ∀ z ∈ X.drop a, z ≤ (m : Int) := fun z hz => by
          have := hXY z (List.mem_of_mem_drop hz) y (List.mem_of_mem_take hy)
          have := hYq y hy
          omega
        have s1 := smI_ge (m := (m : Int)) (l := Y.take q) fun z hz => by rw [hYq z hz]; exact Int.le_refl _
        have s2 := smI_le (m := (m : Int)) (l := Y.take q) fun z hz => by rw [hYq z hz]; exact Int.le_refl _
        have s3 := smI_le hXd
        rw [hql] at s1 s2
        obtain ⟨e, he⟩ : ∃ e, X.length = a + e := ⟨X.length - a, by omega⟩
        have hdl : (X.drop a).length = e := by rw [List.length_drop]; omega
        rw [hdl] at s3
        have hsp : smI X = smI (X.take a) + smI (X.drop a) := by rw [← smI_app, List.take_append_drop]
        by_cases ck : m ≤ a + q
        · have h5 := hh q q1
          have ad := c2_add (a + q) e
          have nn := c2_nonneg e
          obtain ⟨z, hz⟩ : ∃ z, a + q = m + z := ⟨a + q - m, by omega⟩
          have e1 : ((a + q : Nat) : Int) * (e : Int) = (m : Int) * (e : Int) + (z : Int) * (e : Int) := by rw [hz, Int.natCast_add, Int.add_mul]
          have nz : 0 ≤ (z : Int) * (e : Int) := Int.mul_nonneg (by omega) (by omega)
          rw [e1] at ad
          rw [he, show a + e + q = a + q + e by omega] at h5
          omega
        · have h5 := fX a a1
          have ad := c2_add a q
          have sq := c2_sq q
          obtain ⟨z, hz⟩ : ∃ z, m = a + q + 1 + z := ⟨m - (a + q + 1), by omega⟩
          have e1 : (m : Int) * (q : Int) = (a : Int) * (q : Int) + (q : Int) * (q : Int) + (q : Int) + (z : Int) * (q : Int) := by
            rw [hz, Int.natCast_add, Int.natCast_add, Int.natCast_add, Int.add_mul, Int.add_mul, Int.add_mul]; simp
          have nz : 0 ≤ (z : Int) * (q : Int) := Int.mul_nonneg (by omega) (by omega)
          rw [e1] at s1
          omega
  · rintro ⟨h1, h2⟩
    rw [hsum2, hlen2] at h2
    refine ⟨fun j hj => ?_, by rw [hsum, hlen]; omega⟩
    by_cases cj : j ≤ X.length + Y.length
    · have h3 := h1 ((X ++ Y.map fun y => y - 1).take j) ((X ++ Y.map fun y => y - 1).drop j) (by rw [List.take_append_drop])
      rw [List.length_take, hlen2, Nat.min_eq_left cj, List.take_append, smI_app, ← List.map_take, smI_less] at h3
      rw [List.take_append_of_le_length (by rw [List.length_append]; exact cj), List.take_append, smI_app]
      omega
    · have : j = X.length + Y.length + 1 := by omega
      subst this
      rw [List.take_of_length_le (by omega), hsum]
      omega
theorem range_top {R : List Int} {t : Int} (hs : (R ++ [t]).Pairwise (· ≤ ·)) (h : LI (R ++ [t])) : 0 ≤ t ∧ t ≤ (R.length : Int) := by
  obtain ⟨f, ft⟩ := (LI_sorted hs).1 h
  have hl : (R ++ [t]).length = R.length + 1 := by simp
  rw [hl, smI_app] at ft
  have hc : c2 (R.length + 1) = c2 R.length + (R.length : Int) := rfl
  have f1 := f R.length (by omega)
  rw [List.take_append_of_le_length (Nat.le_refl _), List.take_length] at f1
  simp only [smI] at ft
  refine ⟨?_, by omega⟩
  have f0 := f 1 (by omega)
  have hmem : ∀ x ∈ (R ++ [t]).take 1, x ≤ t := fun x hx => by
    rcases List.mem_append.1 (List.mem_of_mem_take hx) with q | q
    · exact (List.pairwise_append.1 hs).2.2 x q t (List.mem_singleton.2 rfl)
    · rw [List.mem_singleton.1 q]; exact Int.le_refl _
  have := smI_le hmem
  have hl1 : ((R ++ [t]).take 1).length = 1 := by rw [List.length_take]; omega
  rw [hl1] at this
  simp only [c2] at f0
  omega
end Hs
end Go.Proofs.YtabkmceajgpdjaaDoor
