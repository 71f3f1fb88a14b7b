import Derived.Test.YtoiidngnlhhanaaMask
/- plain model of clique.whole -/
set_option linter.all false
set_option maxRecDepth 100000
namespace Go.Proofs.Ytoiidngnlhhanaa.Pl
def wstep (f : Nat → Nat → Nat → List Nat) (bes : List Nat) (has : Nat) (st : List Nat × Nat × Nat) (i : Nat) : List Nat × Nat × Nat :=
  (st.1 ++ f (has ||| 2 ^ i) (st.2.1 &&& bes.getD i 0) (st.2.2 &&& bes.getD i 0), ndiff st.2.1 (2 ^ i), st.2.2 ||| 2 ^ i)
def wfold (f : Nat → Nat → Nat → List Nat) (bes : List Nat) (has may not : Nat) (pts : List Nat) : List Nat × Nat × Nat := pts.foldl (wstep f bes has) ([], may, not)
def wholeM (bes : List Nat) : Nat → Nat → Nat → Nat → List Nat
  | 0, has, may, not => if may = 0 then (if not = 0 then [has] else []) else []
  | d+1, has, may, not => if may = 0 then (if not = 0 then [has] else []) else (wfold (wholeM bes d) bes has may not (memb may)).1
theorem wfold_snoc (f : Nat → Nat → Nat → List Nat) (bes : List Nat) (has may not : Nat) (pts : List Nat) (i : Nat) : wfold f bes has may not (pts ++ [i]) = wstep f bes has (wfold f bes has may not pts) i := by
  unfold wfold; rw [List.foldl_append]; rfl
theorem and_lt {a b : Nat} (h : a < 65536) : a &&& b < 65536 := Nat.lt_of_le_of_lt Nat.and_le_left h
theorem or_lt {a i : Nat} (h : a < 65536) (hi : i < 16) : a ||| 2 ^ i < 65536 := Nat.or_lt_two_pow (n := 16) h (Nat.pow_lt_pow_right (by omega) hi)
theorem memb_lt' {m x : Nat} (h : x ∈ memb m) : x < 16 := by
  unfold memb at h; rw [List.mem_filter] at h; simpa using h.1
theorem memb_bit {m x : Nat} (h : x ∈ memb m) : m.testBit x = true := by
  unfold memb at h; rw [List.mem_filter] at h; exact h.2
theorem wfold_inv (f : Nat → Nat → Nat → List Nat) (bes : List Nat) (has may not : Nat) (hm : may < 65536) (hn : not < 65536) :
    ∀ (pts : List Nat), (∀ i ∈ pts, i < 16) → (wfold f bes has may not pts).2.1 < 65536 ∧ (wfold f bes has may not pts).2.2 < 65536 ∧ ∀ j, (wfold f bes has may not pts).2.1.testBit j = true → may.testBit j = true := by
  have key : ∀ (pts : List Nat) (st : List Nat × Nat × Nat), (∀ i ∈ pts, i < 16) → st.2.1 < 65536 → st.2.2 < 65536 → (∀ j, st.2.1.testBit j = true → may.testBit j = true) →
      (pts.foldl (wstep f bes has) st).2.1 < 65536 ∧ (pts.foldl (wstep f bes has) st).2.2 < 65536 ∧ ∀ j, (pts.foldl (wstep f bes has) st).2.1.testBit j = true → may.testBit j = true := by
    intro pts
    induction pts with
    | nil => intro st _ h1 h2 h3; exact ⟨h1, h2, h3⟩
    | cons i pts ih =>
      intro st h h1 h2 h3
      refine ih _ (fun j hj => h j (List.mem_cons_of_mem _ hj)) (Nat.lt_of_le_of_lt (ndiff_le _ _) h1) (or_lt h2 (h i List.mem_cons_self)) (fun j hj => h3 j ?_)
      simp only [wstep, ndiff_testBit, Bool.and_eq_true] at hj
      exact hj.1
  intro pts h
  exact key pts _ h hm hn (fun _ h => h)
theorem filter_lt {p q : Nat → Bool} : ∀ (l : List Nat), (∀ x ∈ l, q x = true → p x = true) → (∃ x ∈ l, p x = true ∧ q x = false) → (l.filter q).length < (l.filter p).length
  | [], _, h => by obtain ⟨x, hx, _⟩ := h; cases hx
  | y :: l, h1, h2 => by
    have hle : (l.filter q).length ≤ (l.filter p).length := by
      clear h2
      induction l with
      | nil => simp
      | cons z l ih =>
        have := ih (fun x hx => h1 x (by rcases List.mem_cons.1 hx with rfl | h; exact List.mem_cons_self; exact List.mem_cons_of_mem _ (List.mem_cons_of_mem _ h)))
        have hz := h1 z (List.mem_cons_of_mem _ List.mem_cons_self)
        cases hq : q z
        · cases hp : p z <;> simp [hq, hp] <;> omega
        · simp [hq, hz hq]; omega
    have hy := h1 y List.mem_cons_self
    by_cases hex : p y = true ∧ q y = false
    · simp [hex.1, hex.2]; omega
    · have hrec := filter_lt l (fun x hx => h1 x (List.mem_cons_of_mem _ hx)) (by
        obtain ⟨x, hx, hp⟩ := h2
        rcases List.mem_cons.1 hx with rfl | h
        · exact absurd hp hex
        · exact ⟨x, h, hp⟩)
      cases hq : q y
      · cases hp : p y
        · simp [hq, hp]; omega
        · exact absurd ⟨hp, hq⟩ hex
      · simp [hq, hy hq]; omega
theorem memb_less {m m' i : Nat} (hi : i ∈ memb m) (hno : m'.testBit i = false) (hsub : ∀ j, m'.testBit j = true → m.testBit j = true) : (memb m').length < (memb m).length := by
  unfold memb
  refine filter_lt _ (fun x _ h => hsub x h) ⟨i, by simpa using memb_lt' hi, memb_bit hi, hno⟩
/-- no point is beside itself -/
def NoLoop (bes : List Nat) : Prop := ∀ i, (bes.getD i 0).testBit i = false
theorem whole_less {f : Nat → Nat → Nat → List Nat} {bes : List Nat} {has may not : Nat} (hb : NoLoop bes) (hm : may < 65536) (hn : not < 65536) {pts : List Nat} (hp : ∀ i ∈ pts, i < 16) {i : Nat} (hi : i ∈ memb may) :
    (memb ((wfold f bes has may not pts).2.1 &&& bes.getD i 0)).length < (memb may).length := by
  obtain ⟨_, _, h3⟩ := wfold_inv f bes has may not hm hn pts hp
  refine memb_less hi ?_ (fun j hj => h3 j ?_)
  · rw [Nat.testBit_and, hb i, Bool.and_false]
  · rw [Nat.testBit_and, Bool.and_eq_true] at hj; exact hj.1
theorem wfold_len (f : Nat → Nat → Nat → List Nat) (bes : List Nat) (has may not M : Nat) (hf : ∀ a b c, (f a b c).length ≤ M) : ∀ (pts : List Nat), (wfold f bes has may not pts).1.length ≤ pts.length * M := by
  have key : ∀ (pts : List Nat) (st : List Nat × Nat × Nat), (pts.foldl (wstep f bes has) st).1.length ≤ st.1.length + pts.length * M := by
    intro pts
    induction pts with
    | nil => intro st; simp
    | cons i pts ih =>
      intro st
      have h1 := ih (wstep f bes has st i)
      have h2 : (wstep f bes has st i).1.length ≤ st.1.length + M := by
        simp only [wstep, List.length_append]
        have := hf (has ||| 2 ^ i) (st.2.1 &&& bes.getD i 0) (st.2.2 &&& bes.getD i 0)
        omega
      have h3 : (List.length (i :: pts)) * M = pts.length * M + M := by rw [List.length_cons, Nat.add_mul, Nat.one_mul]
      rw [List.foldl_cons, h3]; omega
  intro pts
  have := key pts ([], may, not)
  simpa [wfold] using this
theorem wholeM_len (bes : List Nat) : ∀ (d has may not : Nat), (wholeM bes d has may not).length ≤ 16 ^ d
  | 0, has, may, not => by
    by_cases h1 : may = 0 <;> by_cases h2 : not = 0 <;> simp [wholeM, h1, h2]
  | d+1, has, may, not => by
    simp only [wholeM]
    have h16 : 1 ≤ 16 ^ (d + 1) := Nat.pos_of_ne_zero (by simp)
    split
    · split
      · simpa using h16
      · simp
    · refine Nat.le_trans (wfold_len _ _ _ _ _ (16 ^ d) (wholeM_len bes d) _) ?_
      have : (memb may).length ≤ 16 := by
        unfold memb; have := List.length_filter_le (fun i => may.testBit i) (List.range 16); simpa using this
      rw [Nat.pow_succ, Nat.mul_comm]
      exact Nat.mul_le_mul_left _ this
end Go.Proofs.Ytoiidngnlhhanaa.Pl
