import Derived.Test.YtccdnokddkpmgaaKs
/- SpanNeck -/
set_option linter.all false
set_option maxRecDepth 100000
namespace Go.Proofs.Ytccdnokddkpmgaa
open Go.RowKit Pl
/-- two that are joined, one on each side of the step from v to p: it is that step -/
theorem Tr.cross {k : Nat} {A : Nat → Nat → Prop} {d : Nat → Nat → Nat} (T : Tr k A d) {v p x y : Nat} (hv : v < k) (hA : A x y) (hx : T.up x v p) (hy : ¬ T.up y v p) : x = p ∧ y = v := by
  obtain ⟨hxk, hyk⟩ := T.lt _ _ hA
  have hpk := T.up_lt hx
  have h1 := hx.2
  have h2 := T.far hyk hx.1 hy
  have s1 := T.step v y x hv (T.sym _ _ hA)
  have s2 := T.step p x y hpk hA
  have e1 := T.symd hv hxk; have e2 := T.symd hv hyk; have e3 := T.symd hpk hxk; have e4 := T.symd hpk hyk
  have hup : T.up v x y := ⟨T.sym _ _ hA, by omega⟩
  by_cases e : x = p
  · subst e
    rw [T.zero x hxk] at h1
    have hq := hup.2
    exact ⟨rfl, T.eq_of_zero hv hyk (by omega)⟩
  · exfalso
    obtain ⟨z, hz⟩ := T.up_ex hpk hxk e
    have hzk := T.up_lt hz
    have h3 := T.tri hv hpk hzk
    have h4 := T.one hx.1
    have e5 := T.symd hpk hv
    have h5 := hz.2
    have h6 := T.step v z x hv hz.1
    have : z = y := T.uniq v z y x hv hz.1 hup.1 (by omega) hup.2
    subst this
    omega
section
variable {k : Nat} {l : List (Int × Int × Int)}
def joins (l : List (Int × Int × Int)) (i x y : Nat) : Prop := pA l i = x ∧ pB l i = y ∨ pA l i = y ∧ pB l i = x
/-- who goes from v to r by lines of a tree goes by every step of the way -/
theorem walk_cross (hin : InC k l) {y : List Bool} (G : Good k (chM l y)) {T' : List Nat} (hT : ∀ i ∈ T', i ∈ tkl l y) {v p : Nat} (hv : v < k) : ∀ {c : Nat}, Cn l T' v c →
    (¬ (tr_of G).up c v p) ∨ ∃ i ∈ T', joins l i v p := by
  intro c h
  induction h with
  | refl => left; intro h; have := h.2; rw [(tr_of G).zero _ hv] at this; omega
  | @step b c i _ hi hj ih =>
    rcases ih with q | q
    · by_cases hc : (tr_of G).up c v p
      · right
        have hA : Ad k (chM l y) c b := (ch_ad hin y c b).2 ⟨i, hT i hi, hj.symm⟩
        obtain ⟨e1, e2⟩ := (tr_of G).cross hv hA hc q
        subst e1; subst e2
        exact ⟨i, hi, hj⟩
      · exact .inl hc
    · exact .inr q
theorem way_lines (hin : InC k l) {y : List Bool} (G : Good k (chM l y)) {T' : List Nat} (hT : ∀ i ∈ T', i ∈ tkl l y) {r : Nat} (hr : r < k) {v : Nat} {w : List Int} (hw : (tr_of G).Way r v w) : v < k → Cn l T' v r →
    ∀ (j : Nat) (h : j + 1 < w.length), ∃ (x z i : Nat), w[j] = (x : Int) ∧ w[j+1] = (z : Int) ∧ i ∈ T' ∧ joins l i x z := by
  induction hw with
  | root => intro _ _ j h; simp at h
  | @step v u w hu hw ih =>
    intro hv hc j h
    obtain ⟨i, hi, hj⟩ := (walk_cross hin G hT hv hc).resolve_left (not_not_intro hu)
    have huk := (tr_of G).up_lt hu
    have hc' : Cn l T' u r := (Cn.step (.refl u) hi (hj.elim (fun q => .inr ⟨q.1, q.2⟩) fun q => .inl ⟨q.1, q.2⟩)).trans hc
    cases j with
    | zero =>
      refine ⟨v, u, i, rfl, ?_, hi, hj⟩
      cases hw <;> rfl
    | succ j =>
      obtain ⟨x, z, i', h1, h2, h3, h4⟩ := ih huk hc' j (by rw [List.length_cons] at h; omega)
      exact ⟨x, z, i', by simpa using h1, by simpa using h2, h3, h4⟩
/-- of two lines with the same ends one is not taken -/
theorem one_line (hk : k ≤ 8) (hin : InC k l) {ord : List Nat} (hn : ord.Nodup) (hord : ∀ x, x ∈ ord ↔ x < l.length) {i i' x z : Nat} (hi : i ∈ tkl l (ord.foldl (krS l) (st0 k l.length)).2.1) (hi' : i' ∈ tkl l (ord.foldl (krS l) (st0 k l.length)).2.1)
    (h : joins l i x z) (h' : joins l i' x z) : i = i' := by
  have key : ∀ i i', i ∈ tkl l (ord.foldl (krS l) (st0 k l.length)).2.1 → i' ∈ tkl l (ord.foldl (krS l) (st0 k l.length)).2.1 → joins l i x z → joins l i' x z → ∀ P Q, ord = P ++ i' :: Q → i ∉ P := by
    intro i i' hi hi' h h' P Q e hm
    have ht := (List.mem_filter.1 hi').2
    have hb := tkl_lt hi'
    have hP : ∀ x ∈ P, x < l.length := fun x hx => (hord x).1 (by rw [e]; exact List.mem_append_left _ hx)
    have hiff := taken_iff (P := P) (Q := Q) hk hin hP hb (by rw [← e]; exact hn)
    rw [← e] at hiff
    refine hiff.1 ht (Cn.step (.refl _) hm ?_)
    unfold joins at h h'; omega
  apply Classical.byContradiction
  intro hne
  obtain ⟨P, Q, e⟩ := List.append_of_mem ((hord i').2 (tkl_lt hi'))
  obtain ⟨P2, Q2, e2⟩ := List.append_of_mem ((hord i).2 (tkl_lt hi))
  have h1 := key i i' hi hi' h h' P Q e
  have h2 := key i' i hi' hi h' h P2 Q2 e2
  have m1 : i ∈ P ++ i' :: Q := by rw [← e, e2]; simp
  have m2 : i ∈ Q := by
    rcases List.mem_append.1 m1 with q | q
    · exact absurd q h1
    · exact (List.mem_cons.1 q).resolve_left hne
  obtain ⟨Q3, Q4, e3⟩ := List.append_of_mem m2
  have e4 : ord = (P ++ i' :: Q3) ++ i :: Q4 := by rw [e, e3]; simp
  exact key i' i hi' hi h' h _ _ e4 (List.mem_append_right _ List.mem_cons_self)
/-! ### Neck -/
def chp (l : List (Int × Int × Int)) (m : Int) : List Nat := (List.range l.length).filter fun i => decide (cs l i ≤ m)
theorem chp_lt {m : Int} {i : Nat} (h : i ∈ chp l m) : i < l.length := List.mem_range.1 (List.mem_filter.1 h).1
theorem nk_L2 (m : Int) (h24 : l.length ≤ 24) : ∀ (g j : Nat) (v : List (Int × Int)), l.length < j + g → j ≤ l.length → v.length ≤ j →
    span_Neck_L2 300 l m g (j : Int) v = some (v ++ ((List.range' j (l.length - j)).filter fun i => decide (cs l i ≤ m)).map (ln l))
  | 0, j, v, h, hj, _ => by omega
  | g+1, j, v, h, hj, hv => by
    rw [span_Neck_L2_s]
    by_cases c : j < l.length
    · have hil : ix l (j : Int) = some (l.getD j (0, 0, 0)) := ix_at (0, 0, 0) c
      rw [if_pos (by omega), hil, Option.bind_some, w64n (by omega)]
      rw [show l.length - j = (l.length - (j+1)) + 1 by omega, List.range'_succ]
      have hcs : cs l j = (l.getD j (0, 0, 0)).2.2 := rfl
      rw [← hcs]
      by_cases e : cs l j ≤ m
      · have ha : app v ((l.getD j (0, 0, 0)).1, (l.getD j (0, 0, 0)).2.1) = some (v ++ [ln l j]) := by unfold app; rw [if_pos (by omega)]; rfl
        rw [if_pos e, List.filter_cons_of_pos (p := fun i => decide (cs l i ≤ m)) (decide_eq_true e), ha, Option.bind_some, nk_L2 m h24 g (j+1) (v ++ [ln l j]) (by omega) (by omega) (by rw [List.length_append]; simp; omega), List.map_cons, List.append_assoc]; rfl
      · rw [if_neg e, List.filter_cons_of_neg (p := fun i => decide (cs l i ≤ m)) (by simpa using e)]
        exact nk_L2 m h24 g (j+1) v (by omega) (by omega) (by omega)
    · have : j = l.length := by omega
      subst this
      rw [if_neg (by omega), Nat.sub_self]; simp
theorem T_in (hin : InC k l) {T : List Nat} (hT : ∀ i ∈ T, i < l.length) : InL k (T.map (ln l)) := fun p hp => by
  obtain ⟨i, hi, rfl⟩ := List.mem_map.1 hp
  obtain ⟨h1, h2, h3, h4, _⟩ := ln_in hin (hT i hi)
  rw [h1, h2]; omega
theorem T_ad (hin : InC k l) {T : List Nat} (hT : ∀ i ∈ T, i < l.length) (a b : Nat) : Ad k (T.map (ln l)) a b ↔ ∃ i ∈ T, joins l i a b := by
  rw [ad_iff (T_in hin hT)]
  unfold joins
  constructor
  · rintro ⟨p, hp, hh⟩
    obtain ⟨i, hi, rfl⟩ := List.mem_map.1 hp
    obtain ⟨h1, h2, _⟩ := ln_in hin (hT i hi)
    rw [h1, h2] at hh
    exact ⟨i, hi, by omega⟩
  · rintro ⟨i, hi, hh⟩
    obtain ⟨h1, h2, _⟩ := ln_in hin (hT i hi)
    refine ⟨ln l i, List.mem_map.2 ⟨i, hi, rfl⟩, ?_⟩
    rw [h1, h2]; omega
theorem T_err (h1 : 1 ≤ k) (hk : k ≤ 8) (hin : InC k l) {T : List Nat} (hT : ∀ i ∈ T, i < l.length) (hl : T.length ≤ 24) : errG (k : Int) (T.map (ln l)) = 0 := by
  unfold errG
  rw [if_neg (by omega), if_neg (by rw [List.length_map]; omega)]
  refine errL_of (T_in hin hT) fun p hp => ?_
  obtain ⟨i, hi, rfl⟩ := List.mem_map.1 hp
  obtain ⟨q1, q2, _, _, q5⟩ := ln_in hin (hT i hi)
  rw [q1, q2]; omega
theorem good_small (hk : k ≤ 8) {l' : List (Int × Int)} (h : l'.length ≤ 24) : good (k : Int) l' := by
  refine ⟨?_, by unfold maxLen; omega⟩
  have h1 : IntKind.i64.min = -9223372036854775808 := by decide
  have h2 : IntKind.i64.max = 9223372036854775807 := by decide
  simp only [Lit.wf]; exact decide_eq_true (by omega)
theorem chp_len (m : Int) : (chp l m).length ≤ l.length := by
  have := List.length_filter_le (fun i => decide (cs l i ≤ m)) (List.range l.length)
  rwa [List.length_range] at this
theorem nk_L1 (h1 : 1 ≤ k) (hk : k ≤ 8) (h24 : l.length ≤ 24) (hin : InC k l) {a b : Nat} (ha : a < k) (hb : b < k) (hab : Cn l (chp l 20) a b) : ∀ (g j : Nat), 21 < j + g → j ≤ 20 → (∀ m : Nat, m < j → ¬ Cn l (chp l m) a b) →
    ∃ c : Nat, span_Neck_L1 300 (k : Int) l (a : Int) (b : Int) g (j : Int) = some (.inr ((c : Int), 0)) ∧ c ≤ 20 ∧ Cn l (chp l c) a b ∧ ∀ m : Nat, m < c → ¬ Cn l (chp l m) a b
  | 0, j, h, hj, _ => by omega
  | g+1, j, h, hj, hI => by
    have hT : ∀ i ∈ chp l (j : Int), i < l.length := fun i hi => chp_lt hi
    have hTl := chp_len (l := l) (j : Int)
    rw [span_Neck_L1_s, if_pos (by omega)]
    have e2 := nk_L2 (j : Int) h24 300 0 [] (by omega) (Nat.zero_le _) (Nat.zero_le _)
    rw [List.nil_append, Nat.sub_zero, ← List.range_eq_range'] at e2
    rw [show span_Neck_L2 300 l (j : Int) 300 0 [] = some ((chp l (j : Int)).map (ln l)) from e2, Option.bind_some]
    have hg : good (k : Int) ((chp l (j : Int)).map (ln l)) := good_small hk (by rw [List.length_map]; omega)
    obtain ⟨R, r1, r2, r3, r4, r5⟩ := reach_full (a := a) (T_in hin hT) (by omega) ha
    have hp := Nat.pow_le_pow_right (n := 2) (by omega) hk
    have hHas : sHas R (b : Int) = some (R.testBit b) := by unfold sHas; rw [if_pos ⟨by omega, by omega, by omega⟩, Int.toNat_natCast]
    rw [mBeside_ev hg (T_err h1 hk hin hT (by omega)), Option.bind_some, sBelow_ev (by omega), Option.bind_some, r1, Option.bind_some, hHas, Option.bind_some]
    have hiff : R.testBit b = true ↔ Cn l (chp l (j : Int)) a b := by
      constructor
      · intro h
        refine r5 (fun x => Cn l (chp l (j : Int)) a x) (.refl a) (fun x z hx hxz => ?_) b h
        obtain ⟨i, hi, hh⟩ := (T_ad hin hT x z).1 hxz
        exact .step hx hi hh
      · intro h
        have key : ∀ {x z}, Cn l (chp l (j : Int)) x z → R.testBit x = true → R.testBit z = true := by
          intro x z hc
          induction hc with
          | refl => exact id
          | step _ hi hj ih => exact fun hx => r4 _ _ (ih hx) ((T_ad hin hT _ _).2 ⟨_, hi, hj⟩)
        exact key h r3
    by_cases c : Cn l (chp l (j : Int)) a b
    · rw [if_pos (hiff.2 c)]
      exact ⟨j, rfl, hj, c, hI⟩
    · rw [if_neg (fun q => c (hiff.1 q)), w64n (by omega)]
      have hj20 : j ≠ 20 := fun e => by subst e; exact c hab
      exact nk_L1 h1 hk h24 hin ha hb hab g (j+1) (by omega) (by omega) fun m hm => by
        by_cases e : m = j
        · subst e; exact c
        · exact hI m (by omega)
theorem chp_all (hin : InC k l) : ∀ i, i < l.length → i ∈ chp l 20 := fun i hi => by
  refine List.mem_filter.2 ⟨List.mem_range.2 hi, decide_eq_true ?_⟩
  have he := hin _ (List.getElem_mem hi)
  have hg : l.getD i (0, 0, 0) = l[i] := by simp [List.getD, hi]
  unfold cs; rw [hg]; omega
theorem neck_ev (h1 : 1 ≤ k) (hk : k ≤ 8) (h24 : l.length ≤ 24) (hin : InC k l) (hch : span_Check 300 (k : Int) l = some 0) {a b : Nat} (ha : a < k) (hb : b < k) (hab : Cn l (chp l 20) a b) :
    ∃ c : Nat, span_Neck 300 (k : Int) l (a : Int) (b : Int) = some ((c : Int), 0) ∧ c ≤ 20 ∧ Cn l (chp l c) a b ∧ ∀ m : Nat, m < c → ¬ Cn l (chp l m) a b := by
  obtain ⟨c, c1, c2, c3, c4⟩ := nk_L1 h1 hk h24 hin ha hb hab 300 0 (by omega) (by omega) fun m hm => by omega
  refine ⟨c, ?_, c2, c3, c4⟩
  unfold span_Neck
  rw [hch, Option.bind_some, if_neg (by decide), w64 (by omega) (by omega), core_All_ev 0 _ (by simp) (by simp), Option.bind_some]
  have hal : allIn [(a : Int), (b : Int)] 0 ((k : Int) - 1) = true := by
    simp [allIn]; omega
  rw [hal, if_pos rfl, show span_Neck_L1 300 (k : Int) l (a : Int) (b : Int) 300 0 = _ from c1, Option.bind_some]
/-! ### the law's loops -/
def jn (l : List (Int × Int × Int)) (w : List Int) (i j : Nat) : Prop := (l.getD i (0, 0, 0)).1 = w.getD j 0 ∧ (l.getD i (0, 0, 0)).2.1 = w.getD (j-1) 0 ∨ (l.getD i (0, 0, 0)).2.1 = w.getD j 0 ∧ (l.getD i (0, 0, 0)).1 = w.getD (j-1) 0
theorem ne_cond (f : Bool) (a b c p q m : Int) : (((some f).bind fun y16 => if y16 = true then (((some p).bind fun y18 => if (a == y18) = true then (some q).bind fun y19 => if (b == y19) = true then some true else some false else some false).bind fun b17 => if b17 = true then some true else (some p).bind fun y20 => if (b == y20) = true then (some q).bind fun y21 => if (a == y21) = true then some true else some false else some false) else some false).bind fun b15 => if b15 = true then if m < c then some true else some false else some false) = some (decide (f = true ∧ (a = p ∧ b = q ∨ b = p ∧ a = q) ∧ m < c)) := by
  cases f <;> by_cases h1 : a = p <;> by_cases h2 : b = q <;> by_cases h3 : b = p <;> by_cases h4 : a = q <;> by_cases h5 : m < c <;> simp [h1, h2, h3, h4, h5] <;> simp_all
theorem ne_L2 (y : List Bool) (hy : y.length = l.length) (h24 : l.length ≤ 24) (w : List Int) {j : Nat} (hj1 : 1 ≤ j) (hj : j < w.length) (hjb : w.length < 1000) : ∀ (g t : Nat) (m : Int), l.length < t + g → t ≤ l.length →
    ∃ r x, L3_SpanNeck_L2 300 l y w (j : Int) g m (t : Int) = some (r, x) ∧ m ≤ r ∧ (r = m ∨ ∃ i, i ∈ tkl l y ∧ jn l w i j ∧ r = cs l i) ∧ ∀ i, t ≤ i → i ∈ tkl l y → jn l w i j → cs l i ≤ r
  | 0, t, m, h, ht => by omega
  | g+1, t, m, h, ht => by
    rw [L3_SpanNeck_L2_s]
    by_cases c : t < l.length
    · have hil : ix l (t : Int) = some (l.getD t (0, 0, 0)) := ix_at (0, 0, 0) c
      have hiy : ix y (t : Int) = some (y.getD t false) := ix_at false (by omega)
      have hw1 : ix w (j : Int) = some (w.getD j 0) := ix_at 0 hj
      have hw2 : ix w (wrap64 ((j : Int) - 1)) = some (w.getD (j-1) 0) := by
        rw [w64 (by omega) (by omega), show (j : Int) - 1 = ((j - 1 : Nat) : Int) by omega]; exact ix_at 0 (by omega)
      rw [if_pos (by omega), hil, Option.bind_some, hiy, hw1, hw2, ne_cond, Option.bind_some, w64n (by omega)]
      have hcs : (l.getD t (0, 0, 0)).2.2 = cs l t := rfl
      rw [hcs]
      by_cases q : y.getD t false = true ∧ ((l.getD t (0, 0, 0)).1 = w.getD j 0 ∧ (l.getD t (0, 0, 0)).2.1 = w.getD (j-1) 0 ∨ (l.getD t (0, 0, 0)).2.1 = w.getD j 0 ∧ (l.getD t (0, 0, 0)).1 = w.getD (j-1) 0) ∧ m < cs l t
      · obtain ⟨r, x, r1, r2, r3, r4⟩ := ne_L2 y hy h24 w hj1 hj hjb g (t+1) (cs l t) (by omega) (by omega)
        rw [decide_eq_true q, if_pos rfl]
        have htk : t ∈ tkl l y := List.mem_filter.2 ⟨List.mem_range.2 c, q.1⟩
        refine ⟨r, x, r1, by omega, .inr ?_, fun i hi h1 h2 => ?_⟩
        · rcases r3 with e | e
          · exact ⟨t, htk, q.2.1, e⟩
          · exact e
        · by_cases e : i = t
          · subst e; exact r2
          · exact r4 i (by omega) h1 h2
      · obtain ⟨r, x, r1, r2, r3, r4⟩ := ne_L2 y hy h24 w hj1 hj hjb g (t+1) m (by omega) (by omega)
        rw [decide_eq_false q, if_neg (by decide)]
        refine ⟨r, x, r1, r2, r3, fun i hi h1 h2 => ?_⟩
        by_cases e : i = t
        · subst e
          have : ¬ m < cs l i := fun e => q ⟨(List.mem_filter.1 h1).2, h2, e⟩
          omega
        · exact r4 i (by omega) h1 h2
    · have : t = l.length := by omega
      subst this
      rw [if_neg (by omega)]
      exact ⟨_, _, rfl, Int.le_refl _, .inl rfl, fun i hi h1 _ => absurd (tkl_lt h1) (by omega)⟩
theorem ne_L1 (y : List Bool) (hy : y.length = l.length) (h24 : l.length ≤ 24) (w : List Int) (hw : w.length < 200) : ∀ (g j : Nat) (m : Int), w.length < j + g → 1 ≤ j → j ≤ w.length →
    ∃ r x, L3_SpanNeck_L1 300 l y w g m (j : Int) = some (r, x) ∧ m ≤ r ∧ (r = m ∨ ∃ j', 1 ≤ j' ∧ j' < w.length ∧ ∃ i, i ∈ tkl l y ∧ jn l w i j' ∧ r = cs l i) ∧ ∀ j' i, j ≤ j' → j' < w.length → i ∈ tkl l y → jn l w i j' → cs l i ≤ r
  | 0, j, m, h, h1, hj => by omega
  | g+1, j, m, h, h1, hj => by
    rw [L3_SpanNeck_L1_s]
    by_cases c : j < w.length
    · obtain ⟨r, x, r1, r2, r3, r4⟩ := ne_L2 y hy h24 w h1 c (by omega) 300 0 m (by omega) (Nat.zero_le _)
      rw [if_pos (by omega), show L3_SpanNeck_L2 300 l y w (j : Int) 300 m 0 = _ from r1, Option.bind_some, w64n (by omega)]
      dsimp only
      obtain ⟨r', x', s1, s2, s3, s4⟩ := ne_L1 y hy h24 w hw g (j+1) r (by omega) (by omega) (by omega)
      refine ⟨r', x', s1, by omega, ?_, fun j' i hj' hl hi hn => ?_⟩
      · rcases s3 with e | e
        · rw [e]
          rcases r3 with e | ⟨i, i1, i2, i3⟩
          · exact .inl e
          · exact .inr ⟨j, h1, c, i, i1, i2, i3⟩
        · exact .inr e
      · by_cases e : j' = j
        · subst e
          have := r4 i (Nat.zero_le _) hi hn
          omega
        · exact s4 j' i (by omega) hl hi hn
    · have : j = w.length := by omega
      subst this
      rw [if_neg (by omega)]
      exact ⟨_, _, rfl, Int.le_refl _, .inl rfl, fun j' i h1 h2 _ _ => by omega⟩
theorem jn_joins (hin : InC k l) {w : List Int} {i j x z : Nat} (hi : i < l.length) (hx : w.getD (j-1) 0 = (x : Int)) (hz : w.getD j 0 = (z : Int)) : jn l w i j ↔ joins l i x z := by
  obtain ⟨h1, h2, _⟩ := ln_in hin hi
  have h1' : (l.getD i (0, 0, 0)).1 = ((pA l i : Nat) : Int) := h1
  have h2' : (l.getD i (0, 0, 0)).2.1 = ((pB l i : Nat) : Int) := h2
  unfold jn joins
  rw [hx, hz, h1', h2']; omega
theorem neck_law (n : Int) (l : List (Int × Int × Int)) (a b : Int) : L3_SpanNeck 300 n l a b = some true := by
  unfold L3_SpanNeck
  rw [fact_ev, Option.bind_some, if_pos rfl]
  by_cases h : errC n l = 0
  · obtain ⟨k, rfl, h1, hk, h24, hin⟩ := errC_zero h
    have hch : span_Check 300 (k : Int) l = some 0 := by rw [spanck_ev, h]
    obtain ⟨ord, o1, o2, o3, o4⟩ := least_ev' h1 hk hin h24 hch
    rw [o4, Option.bind_some]
    by_cases c : (ord.foldl (krS l) (st0 k l.length)).1.getD 0 0 = 2 ^ k - 1
    · have hlen : (ord.foldl (krS l) (st0 k l.length)).2.1.length = l.length := by rw [fold_len]; simp [st0]
      have G := span_tree h1 hk h24 hin o1 o2 c
      have hlt : ∀ x ∈ ord, x < l.length := fun x hx => (o2 x).1 hx
      have hT : ∀ i ∈ ord, (ord.foldl (krS l) (st0 k l.length)).2.1.getD i false = true → i ∈ tkl l (ord.foldl (krS l) (st0 k l.length)).2.1 := fun i hi h => List.mem_filter.2 ⟨List.mem_range.2 (hlt i hi), h⟩
      have hgen := gen hk hin o1 hlt _ hT
      have hone := fun i i' x z hi hi' h h' => one_line (i := i) (i' := i') (x := x) (z := z) hk hin o1 o2 hi hi' h h'
      obtain ⟨iv, hc0⟩ := all_cn hk hin o1 o2 c h1
      rw [if_pos c]
      dsimp only
      obtain ⟨R, hR⟩ : ∃ R, ord.foldl (krS l) (st0 k l.length) = R := ⟨_, rfl⟩
      rw [hR] at hlen G hgen hone ⊢
      rw [if_neg (by decide), L3_in_ev, L3_in_ev, w64 (by omega) (by omega), Option.bind_some]
      by_cases ha : 0 ≤ a ∧ a ≤ (k : Int) - 1
      · rw [decide_eq_true ha, if_pos rfl, Option.bind_some, if_neg (by decide), Option.bind_some]
        by_cases hb : 0 ≤ b ∧ b ≤ (k : Int) - 1
        · rw [decide_eq_true hb, if_pos rfl, Option.bind_some, if_neg (by decide)]
          obtain ⟨a, rfl⟩ := Int.eq_ofNat_of_zero_le ha.1
          obtain ⟨b, rfl⟩ := Int.eq_ofNat_of_zero_le hb.1
          have hak : a < k := by omega
          have hbk : b < k := by omega
          have hab : Cn l (chp l 20) a b := ((hc0 a hak).symm.trans (hc0 b hbk)).mono fun x hx => chp_all hin x (hlt x hx)
          obtain ⟨c, c1, c2, c3, c4⟩ := neck_ev h1 hk h24 hin hch hak hbk hab
          obtain ⟨w, w1, w2⟩ := way3_ev G hak hbk
          have hwl := (tr_of G).way_len hbk w2
          have hw200 : w.length < 200 := by
            -- the way's places are different points
            have h1 : (w.map Int.toNat).length ≤ k := by
              refine nodup_lt k _ ?_ ?_
              · refine List.pairwise_map.2 ?_
                rw [List.pairwise_iff_getElem]
                intro i j hi hj hij e
                obtain ⟨p, p1, p2, p3⟩ := (tr_of G).way_at hbk hak w2 i hi
                obtain ⟨q, q1, q2, q3⟩ := (tr_of G).way_at hbk hak w2 j hj
                rw [List.getElem?_eq_getElem hi] at p1
                rw [List.getElem?_eq_getElem hj] at q1
                injection p1 with p1; injection q1 with q1
                rw [p1, q1] at e
                have : p = q := by omega
                subst this; omega
              · intro x hx
                obtain ⟨z, hz, rfl⟩ := List.mem_map.1 hx
                obtain ⟨i, rfl, hi⟩ := ((tr_of G).way_mem hbk hak w2 z).1 hz
                have := hi.1
                omega
            rw [List.length_map] at h1; omega
          obtain ⟨r, x, r1, r2, r3, r4⟩ := ne_L1 R.2.1 hlen h24 w hw200 300 1 0 (by omega) (Nat.le_refl _) (by omega)
          have hrc : r = (c : Int) := by
            -- the lines that cost at most c are a beginning of the order
            have hpre : ∃ P Q, ord = P ++ Q ∧ ∀ x, x ∈ P ↔ x ∈ chp l c := by
              refine ⟨ord.filter (fun i => decide (cs l i ≤ (c : Int))), ord.filter (fun i => !decide (cs l i ≤ (c : Int))), ?_, fun x => ?_⟩
              · have key : ∀ o : List Nat, (o.Pairwise fun a b => cs l a < cs l b ∨ (cs l a = cs l b ∧ a < b)) → o = o.filter (fun i => decide (cs l i ≤ (c : Int))) ++ o.filter (fun i => !decide (cs l i ≤ (c : Int))) := by
                  intro o
                  induction o with
                  | nil => intro _; rfl
                  | cons x o ih =>
                    intro hp
                    obtain ⟨p1, p2⟩ := List.pairwise_cons.1 hp
                    by_cases e : cs l x ≤ (c : Int)
                    · rw [List.filter_cons_of_pos (by simpa using e), List.filter_cons_of_neg (by simpa using e), List.cons_append, ← ih p2]
                    · have hno : o.filter (fun i => decide (cs l i ≤ (c : Int))) = [] := by
                        rw [List.filter_eq_nil_iff]; intro z hz hq
                        have := p1 z hz
                        simp at hq; omega
                      have hyes : o.filter (fun i => !decide (cs l i ≤ (c : Int))) = o := by
                        rw [List.filter_eq_self]; intro z hz
                        have := p1 z hz
                        simp; omega
                      rw [List.filter_cons_of_neg (by simpa using e), List.filter_cons_of_pos (by simpa using e), hno, hyes]; rfl
                exact key ord o3
              · unfold chp
                rw [List.mem_filter, List.mem_filter, o2, List.mem_range]
            obtain ⟨P, Q, e, hP⟩ := hpre
            have hcn := hgen P Q e a b (c3.mono fun x hx => (hP x).2 hx)
            have hlines := way_lines hin G (fun i hi => (List.mem_filter.1 hi).1) hbk w2 hak hcn
            have hin2 : ∀ j, 1 ≤ j → j < w.length → ∃ x z i : Nat, w.getD (j-1) 0 = (x : Int) ∧ w.getD j 0 = (z : Int) ∧ i ∈ tkl l R.2.1 ∧ cs l i ≤ (c : Int) ∧ joins l i x z := by
              intro j hj1 hj
              obtain ⟨x, z, i, q1, q2, q3, q4⟩ := hlines (j-1) (by omega)
              obtain ⟨m1, m2⟩ := List.mem_filter.1 q3
              have hcs := (List.mem_filter.1 ((hP i).1 (of_decide_eq_true m2))).2
              have ej : j - 1 + 1 = j := by omega
              refine ⟨x, z, i, ?_, ?_, m1, of_decide_eq_true hcs, q4⟩
              · rw [← q1]; simp [List.getD, show j - 1 < w.length by omega]
              · rw [← q2]; simp [List.getD, hj, ej]
            have hle : ∀ j i, 1 ≤ j → j < w.length → i ∈ tkl l R.2.1 → jn l w i j → cs l i ≤ (c : Int) := by
              intro j i hj1 hj hi hn
              obtain ⟨x, z, i', q1, q2, q3, q4, q5⟩ := hin2 j hj1 hj
              have := hone i i' x z hi q3 ((jn_joins hin (tkl_lt hi) q1 q2).1 hn) q5
              rw [this]; exact q4
            have hrle : r ≤ (c : Int) := by
              rcases r3 with e | ⟨j', j1, j2, i, i1, i2, i3⟩
              · omega
              · rw [i3]; exact hle j' i j1 j2 i1 i2
            -- by the lines that cost at most r one comes from a to b
            have hcr : Cn l (chp l r.toNat) a b := by
              have hall : ∀ j, 1 ≤ j → j < w.length → ∃ x z i : Nat, w.getD (j-1) 0 = (x : Int) ∧ w.getD j 0 = (z : Int) ∧ i ∈ chp l r.toNat ∧ joins l i x z := by
                intro j hj1 hj
                obtain ⟨x, z, i, q1, q2, q3, q4, q5⟩ := hin2 j hj1 hj
                have := r4 j i hj1 hj q3 ((jn_joins hin (tkl_lt q3) q1 q2).2 q5)
                exact ⟨x, z, i, q1, q2, List.mem_filter.2 ⟨List.mem_range.2 (tkl_lt q3), decide_eq_true (by omega)⟩, q5⟩
              have key : ∀ (w : List Int) (v : Nat), (tr_of G).Way b v w → (∀ j, 1 ≤ j → j < w.length → ∃ x z i : Nat, w.getD (j-1) 0 = (x : Int) ∧ w.getD j 0 = (z : Int) ∧ i ∈ chp l r.toNat ∧ joins l i x z) → Cn l (chp l r.toNat) v b := by
                intro w v hw
                induction hw with
                | root => intro _; exact .refl _
                | @step v u w hu hw ih =>
                  intro hq
                  have hh : w.head? = some (u : Int) := by cases hw <;> rfl
                  have hpos : 0 < w.length := by cases w with | nil => simp at hh | cons _ _ => simp
                  obtain ⟨x, z, i, q1, q2, q3, q4⟩ := hq 1 (Nat.le_refl _) (by rw [List.length_cons]; omega)
                  have ex : v = x := by have : (v : Int) = (x : Int) := q1; omega
                  have ez : u = z := by
                    have : w.getD 0 0 = (z : Int) := q2
                    cases w with
                    | nil => simp at hpos
                    | cons y w =>
                      simp at hh
                      have : y = (z : Int) := this
                      omega
                  subst ex; subst ez
                  have hst : Cn l (chp l r.toNat) v u := Cn.step (.refl v) q3 (q4.elim (fun q => .inl ⟨q.1, q.2⟩) fun q => .inr ⟨q.1, q.2⟩)
                  refine hst.trans (ih fun j hj1 hj => ?_)
                  obtain ⟨x, z, i', p1, p2, p3, p4⟩ := hq (j+1) (by omega) (by rw [List.length_cons]; omega)
                  refine ⟨x, z, i', ?_, ?_, p3, p4⟩
                  · rw [← p1]; obtain ⟨j', rfl⟩ : ∃ j', j = j' + 1 := ⟨j - 1, by omega⟩
                    simp
                  · rw [← p2]; simp
              exact key w a w2 hall
            have : ¬ r.toNat < c := fun q => c4 _ q hcr
            omega
          rw [c1, Option.bind_some]
          dsimp only
          rw [if_neg (by decide), hlen, if_neg (by simp), Option.bind_some, if_neg (by decide), chosen_ev _ h24, Option.bind_some, tree3_ev G.good, good_errT G, Option.bind_some, if_neg (by decide), w1, Option.bind_some,
            show L3_SpanNeck_L1 300 l R.2.1 w 300 0 1 = _ from r1, Option.bind_some]
          dsimp only
          rw [hrc, if_pos (by simp), Option.bind_some]
        · rw [decide_eq_false hb, if_neg (by decide), Option.bind_some, if_pos rfl, if_pos (by rfl)]; rfl
      · rw [decide_eq_false ha, if_neg (by decide), Option.bind_some, if_pos rfl, Option.bind_some, if_pos rfl, if_pos (by rfl)]; rfl
    · rw [if_neg c]; rfl
  · rw [least_bad h, Option.bind_some]
    dsimp only
    have hne : ¬ ((errC n l == 0) = true) := by rw [beq_iff_eq]; exact h
    rw [if_pos (by rw [bne_iff_ne]; exact h), Option.bind_some, if_pos rfl, Option.bind_some, if_pos rfl, if_neg hne]; rfl
end
theorem spanNeck_any (w : World) (n : Int) (hn : (Lit.int .i64 n).wf = true) (A : Option Addr) (cap : Nat) (l : List (Int × Int × Int)) (hr : ReadsC w w.heap.size A l) (hl : l.length ≤ maxLen) (a : Int) (_ : (Lit.int .i64 a).wf = true) (b : Int) (_ : (Lit.int .i64 b).wf = true) :
    Calls Try.prog 4 #[.int .i64 n, .slice A l.length cap, .int .i64 a, .int .i64 b] w fun e w' => e = .returned (.bool true) ∧ Below w.heap.size w w' :=
  L3_SpanNeck_ok w cap hr (neck_law n l a b)
end Go.Proofs.Ytccdnokddkpmgaa
