import Derived.Test.YtoiidngnlhhanaaCP
/- what clique.whole finds: every clique that none can join -/
set_option linter.all false
set_option maxRecDepth 100000
namespace Go.Proofs.Ytoiidngnlhhanaa.Pl
def adj (bes : List Nat) (i j : Nat) : Bool := (bes.getD i 0).testBit j
theorem step_keep (f : Nat → Nat → Nat → List Nat) (bes : List Nat) (has : Nat) : ∀ (pts : List Nat) (st : List Nat × Nat × Nat) (x : Nat), x ∈ st.1 → x ∈ (pts.foldl (wstep f bes has) st).1
  | [], _, _, h => h
  | i :: pts, st, x, h => step_keep f bes has pts _ x (by simp only [wstep, List.mem_append]; exact .inl h)
theorem wfold_mem (f : Nat → Nat → Nat → List Nat) (bes : List Nat) (has may not : Nat) (pre post : List Nat) (i x : Nat)
    (h : x ∈ f (has ||| 2 ^ i) ((wfold f bes has may not pre).2.1 &&& bes.getD i 0) ((wfold f bes has may not pre).2.2 &&& bes.getD i 0)) :
    x ∈ (wfold f bes has may not (pre ++ i :: post)).1 := by
  unfold wfold at *
  rw [List.foldl_append, List.foldl_cons]
  refine step_keep f bes has post _ x ?_
  simp only [wstep, List.mem_append]
  exact .inr h
theorem wfold_bits (f : Nat → Nat → Nat → List Nat) (bes : List Nat) (has : Nat) : ∀ (pts : List Nat) (st : List Nat × Nat × Nat) (v : Nat),
    (pts.foldl (wstep f bes has) st).2.1.testBit v = (st.2.1.testBit v && !decide (v ∈ pts)) ∧ (pts.foldl (wstep f bes has) st).2.2.testBit v = (st.2.2.testBit v || decide (v ∈ pts))
  | [], st, v => by simp
  | i :: pts, st, v => by
    obtain ⟨h1, h2⟩ := wfold_bits f bes has pts (wstep f bes has st i) v
    rw [List.foldl_cons]
    refine ⟨h1.trans ?_, h2.trans ?_⟩
    · simp only [wstep, ndiff_testBit, Nat.testBit_two_pow, List.mem_cons]
      by_cases e : i = v
      · subst e; simp
      · have e2 : ¬ v = i := fun h => e h.symm
        simp [e, e2]
    · simp only [wstep, Nat.testBit_or, Nat.testBit_two_pow, List.mem_cons]
      by_cases e : i = v
      · subst e; simp
      · have e2 : ¬ v = i := fun h => e h.symm
        simp [e, e2]
theorem first_of {p : Nat → Bool} : ∀ (l : List Nat), (∃ x ∈ l, p x = true) → ∃ pre i post, l = pre ++ i :: post ∧ p i = true ∧ ∀ j ∈ pre, p j = false
  | [], h => by obtain ⟨x, hx, _⟩ := h; cases hx
  | y :: l, h => by
    cases hy : p y
    · obtain ⟨pre, i, post, e, h1, h2⟩ := first_of l (by
        obtain ⟨x, hx, hp⟩ := h
        rcases List.mem_cons.1 hx with rfl | hx
        · rw [hy] at hp; cases hp
        · exact ⟨x, hx, hp⟩)
      refine ⟨y :: pre, i, post, by rw [e]; rfl, h1, fun j hj => ?_⟩
      rcases List.mem_cons.1 hj with rfl | hj
      · exact hy
      · exact h2 j hj
    · exact ⟨[], y, l, rfl, hy, by simp⟩
theorem whole_complete (bes : List Nat) (hsym : ∀ i j, adj bes i j = adj bes j i) (hb : NoLoop bes) : ∀ (d has may not K : Nat), (memb may).length ≤ d → may < 65536 → not < 65536 →
    (∀ v, (may.testBit v = true ∨ not.testBit v = true) → ∀ u, has.testBit u = true → adj bes u v = true) →
    (∀ v, has.testBit v = true → K.testBit v = true) → (∀ v, K.testBit v = true → has.testBit v = true ∨ may.testBit v = true) →
    (∀ u v, K.testBit u = true → K.testBit v = true → u ≠ v → adj bes u v = true) →
    (∀ v, (may.testBit v = true ∨ not.testBit v = true) → K.testBit v = false → ∃ u, K.testBit u = true ∧ adj bes u v = false) → K ∈ wholeM bes d has may not := by
  intro d
  have nil : ∀ (d has not K : Nat), not < 65536 → (∀ v, ((0 : Nat).testBit v = true ∨ not.testBit v = true) → ∀ u, has.testBit u = true → adj bes u v = true) →
    (∀ v, has.testBit v = true → K.testBit v = true) → (∀ v, K.testBit v = true → has.testBit v = true ∨ (0 : Nat).testBit v = true) →
    (∀ v, ((0 : Nat).testBit v = true ∨ not.testBit v = true) → K.testBit v = false → ∃ u, K.testBit u = true ∧ adj bes u v = false) → K ∈ wholeM bes d has 0 not := by
    intro d has not K hn hinv h1 h2 hmax
    have hK : K = has := by
      apply Nat.eq_of_testBit_eq; intro v
      cases e1 : has.testBit v
      · cases e2 : K.testBit v
        · rfl
        · rcases h2 v e2 with h | h
          · rw [e1] at h; cases h
          · simp at h
      · exact h1 v e1
    subst hK
    have hnot : not = 0 := by
      apply Nat.eq_of_testBit_eq; intro v
      rw [Nat.zero_testBit]
      cases e1 : not.testBit v
      · rfl
      · exfalso
        cases e2 : K.testBit v
        · obtain ⟨u, hu, ha⟩ := hmax v (.inr e1) e2
          rw [hinv v (.inr e1) u hu] at ha; cases ha
        · have := hinv v (.inr e1) v e2
          unfold adj at this; rw [hb v] at this; cases this
    cases d <;> simp [wholeM, hnot]
  have zero_of : ∀ m : Nat, m < 65536 → (memb m).length ≤ 0 → m = 0 := by
    intro m hm h
    apply Nat.eq_of_testBit_eq; intro i
    rw [Nat.zero_testBit]
    cases e : m.testBit i
    · rfl
    · have h2 := (mem_memb hm).2 e
      rw [List.length_eq_zero_iff.1 (Nat.le_zero.1 h)] at h2; cases h2
  induction d with
  | zero =>
    intro has may not K hd hm hn hinv h1 h2 hcl hmax
    obtain rfl := zero_of may hm hd
    exact nil 0 has not K hn hinv h1 h2 hmax
  | succ d ih =>
    intro has may not K hd hm hn hinv h1 h2 hcl hmax
    by_cases hz : may = 0
    · subst hz; exact nil _ has not K hn hinv h1 h2 hmax
    · have hdis : ∀ v, may.testBit v = true → has.testBit v = false := by
        intro v hv
        cases e : has.testBit v
        · rfl
        · have := hinv v (.inl hv) v e
          unfold adj at this; rw [hb v] at this; cases this
      have hex : ∃ x ∈ memb may, K.testBit x = true := by
        apply Classical.byContradiction
        intro hno
        have hno' : ∀ x, may.testBit x = true → K.testBit x = false := by
          intro x hx
          cases e : K.testBit x
          · rfl
          · exact absurd ⟨x, (mem_memb hm).2 hx, e⟩ hno
        refine hz (Nat.eq_of_testBit_eq fun v => ?_)
        rw [Nat.zero_testBit]
        cases e : may.testBit v
        · rfl
        · exfalso
          obtain ⟨u, hu, ha⟩ := hmax v (.inl e) (hno' v e)
          rcases h2 u hu with h | h
          · rw [hinv v (.inl e) u h] at ha; cases ha
          · rw [hno' u h] at hu; cases hu
      obtain ⟨pre, i, post, e, hi, hpre⟩ := first_of (memb may) hex
      have himem : i ∈ memb may := by rw [e]; simp
      have himay := memb_bit himem
      have hpre16 : ∀ j ∈ pre, j < 16 := fun j hj => memb_lt' (m := may) (by rw [e]; simp [hj])
      obtain ⟨k1, k2, k3⟩ := wfold_inv (wholeM bes d) bes has may not hm hn pre hpre16
      have hless := whole_less (f := wholeM bes d) (has := has) (not := not) hb hm hn hpre16 himem
      have hbits : ∀ v, (wfold (wholeM bes d) bes has may not pre).2.1.testBit v = (may.testBit v && !decide (v ∈ pre)) ∧ (wfold (wholeM bes d) bes has may not pre).2.2.testBit v = (not.testBit v || decide (v ∈ pre)) := fun v => wfold_bits _ _ _ pre ([], may, not) v
      have hw : wholeM bes (d+1) has may not = (wfold (wholeM bes d) bes has may not (memb may)).1 := by simp [wholeM, hz]
      rw [hw, e]
      refine wfold_mem _ _ _ _ _ _ _ _ _ (ih _ _ _ _ (by omega) (and_lt k1) (and_lt k2) ?_ ?_ ?_ hcl ?_)
      · intro v hv u hu
        rw [Nat.testBit_or, Nat.testBit_two_pow] at hu
        simp only [Nat.testBit_and, Bool.and_eq_true] at hv
        have hadj : adj bes i v = true := by rcases hv with h | h <;> exact h.2
        by_cases hui : i = u
        · subst hui; exact hadj
        · have hu' : has.testBit u = true := by simpa [hui] using hu
          refine hinv v ?_ u hu'
          rcases hv with h | h
          · have := (hbits v).1; rw [h.1] at this
            have := this.symm; rw [Bool.and_eq_true] at this; exact .inl this.1
          · have := (hbits v).2; rw [h.1] at this
            have := this.symm; rw [Bool.or_eq_true] at this
            rcases this with h' | h'
            · exact .inr h'
            · exact .inl (memb_bit (by rw [e]; simp [of_decide_eq_true h']))
      · intro v hv
        rw [Nat.testBit_or, Nat.testBit_two_pow, Bool.or_eq_true] at hv
        rcases hv with h | h
        · exact h1 v h
        · have := of_decide_eq_true h; subst this; exact hi
      · intro v hv
        by_cases hvi : i = v
        · subst hvi; left; rw [Nat.testBit_or, Nat.testBit_two_pow]; simp
        · rcases h2 v hv with h | h
          · left; rw [Nat.testBit_or, h]; rfl
          · right
            rw [Nat.testBit_and, (hbits v).1, h, Bool.and_eq_true]
            refine ⟨?_, hcl i v hi hv hvi⟩
            have : ¬ v ∈ pre := fun hp => by rw [hpre v hp] at hv; cases hv
            simp [this]
      · intro v hv hKv
        simp only [Nat.testBit_and, Bool.and_eq_true] at hv
        refine hmax v ?_ hKv
        rcases hv with h | h
        · have := (hbits v).1; rw [h.1] at this
          have := this.symm; rw [Bool.and_eq_true] at this; exact .inl this.1
        · have := (hbits v).2; rw [h.1] at this
          have := this.symm; rw [Bool.or_eq_true] at this
          rcases this with h' | h'
          · exact .inr h'
          · exact .inl (memb_bit (by rw [e]; simp [of_decide_eq_true h']))
end Go.Proofs.Ytoiidngnlhhanaa.Pl
