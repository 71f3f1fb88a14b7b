import Derived.Test.YtpcmofhmhggcoaaDoorMoon
/- the order in which whole finds what it finds -/
set_option linter.all false
set_option maxRecDepth 100000
namespace Go.Proofs.YtpcmofhmhggcoaaDoor.Pl
/-- S has the lowest point at which they part -/
def lowd (S T : Nat) : Prop := ∃ b, S.testBit b = true ∧ T.testBit b = false ∧ ∀ j, j < b → S.testBit j = T.testBit j
theorem memb_sorted (m : Nat) : (memb m).Pairwise (· < ·) := List.Pairwise.filter _ List.pairwise_lt_range
/-- a set between has and has with may -/
def Btw (has may K : Nat) : Prop := (∀ v, has.testBit v = true → K.testBit v = true) ∧ ∀ v, K.testBit v = true → has.testBit v = true ∨ may.testBit v = true
theorem whole_sorted (bes : List Nat) (hb : NoLoop bes) : ∀ (d has may not : Nat), may < 65536 → (∀ u v, has.testBit u = true → may.testBit v = true → u < v) →
    (wholeM bes d has may not).Pairwise lowd ∧ ∀ K ∈ wholeM bes d has may not, Btw has may K := by
  have nil : ∀ has not may, (if not = 0 then [has] else []).Pairwise lowd ∧ ∀ K ∈ (if not = 0 then [has] else []), Btw has may K := by
    intro has not may
    by_cases h : not = 0
    · rw [if_pos h]; refine ⟨List.pairwise_singleton _ _, fun K hK => ?_⟩
      simp at hK; subst hK; exact ⟨fun v h => h, fun v h => .inl h⟩
    · rw [if_neg h]; exact ⟨.nil, fun K hK => by cases hK⟩
  intro d
  induction d with
  | zero =>
    intro has may not _ _
    by_cases hm : may = 0
    · simp only [wholeM, if_pos hm]; exact nil has not may
    · simp only [wholeM, if_neg hm]; exact ⟨.nil, fun K hK => by cases hK⟩
  | succ d ih =>
    intro has may not hlt hord
    by_cases hm : may = 0
    · simp only [wholeM, if_pos hm]; exact nil has not may
    · simp only [wholeM, if_neg hm]
      have hdis : ∀ v, may.testBit v = true → has.testBit v = false := by
        intro v hv
        cases e : has.testBit v
        · rfl
        · exact absurd (hord v v e hv) (Nat.lt_irrefl _)
      have key : ∀ (pts : List Nat) (st : List Nat × Nat × Nat), pts.Pairwise (· < ·) → (∀ i ∈ pts, may.testBit i = true) → (∀ v, st.2.1.testBit v = true ↔ v ∈ pts) → st.2.1 < 65536 →
          st.1.Pairwise lowd → (∀ K ∈ st.1, Btw has may K) → (∀ K ∈ st.1, ∃ b, K.testBit b = true ∧ may.testBit b = true ∧ (∀ i ∈ pts, b < i) ∧ ∀ j, j < b → K.testBit j = has.testBit j) →
          (pts.foldl (wstep (wholeM bes d) bes has) st).1.Pairwise lowd ∧ ∀ K ∈ (pts.foldl (wstep (wholeM bes d) bes has) st).1, Btw has may K := by
        intro pts
        induction pts with
        | nil => intro st _ _ _ _ h1 h2 _; exact ⟨h1, h2⟩
        | cons i pts ih2 =>
          intro st hp hmay hst hlt1 h1 h2 h3
          obtain ⟨hp1, hp2⟩ := List.pairwise_cons.1 hp
          have him := hmay i List.mem_cons_self
          have hi16 : i < 16 := memb_lt' ((mem_memb hlt).2 him)
          have hnew := ih (has ||| 2 ^ i) (st.2.1 &&& bes.getD i 0) (st.2.2 &&& bes.getD i 0) (and_lt hlt1) (by
            intro u v hu hv
            rw [Nat.testBit_and, Bool.and_eq_true, hst] at hv
            rw [or_bit, Bool.or_eq_true, decide_eq_true_eq] at hu
            rcases hu with hu | rfl
            · exact hord u v hu (hmay v hv.1)
            · rcases List.mem_cons.1 hv.1 with rfl | h
              · rw [hb] at hv; cases hv.2
              · exact hp1 v h)
          have hbt : ∀ K ∈ wholeM bes d (has ||| 2 ^ i) (st.2.1 &&& bes.getD i 0) (st.2.2 &&& bes.getD i 0), Btw has may K ∧ K.testBit i = true ∧ ∀ v, K.testBit v = true → has.testBit v = true ∨ v = i ∨ v ∈ pts := by
            intro K hK
            obtain ⟨g1, g2⟩ := hnew.2 K hK
            have g3 : ∀ v, K.testBit v = true → has.testBit v = true ∨ v = i ∨ v ∈ pts := by
              intro v hv
              rcases g2 v hv with h | h
              · rw [or_bit, Bool.or_eq_true, decide_eq_true_eq] at h
                rcases h with h | h
                · exact .inl h
                · exact .inr (.inl h.symm)
              · rw [Nat.testBit_and, Bool.and_eq_true, hst] at h
                exact .inr (List.mem_cons.1 h.1)
            refine ⟨⟨fun v hv => g1 v (by rw [or_bit, hv]; rfl), fun v hv => ?_⟩, g1 i (by rw [or_bit]; simp), g3⟩
            rcases g3 v hv with h | rfl | h
            · exact .inl h
            · exact .inr him
            · exact .inr (hmay v (List.mem_cons_of_mem _ h))
          rw [List.foldl_cons]
          refine ih2 _ hp2 (fun j hj => hmay j (List.mem_cons_of_mem _ hj)) ?_ (Nat.lt_of_le_of_lt (ndiff_le _ _) hlt1) ?_ ?_ ?_
          · intro v
            simp only [wstep, ndiff_testBit, Bool.and_eq_true, hst, Nat.testBit_two_pow, List.mem_cons]
            constructor
            · rintro ⟨rfl | h, h'⟩
              · simp at h'
              · exact h
            · intro h
              refine ⟨.inr h, ?_⟩
              have := hp1 v h
              have e : ¬ i = v := by omega
              simp [e]
          · simp only [wstep]
            refine List.pairwise_append.2 ⟨h1, hnew.1, fun K hK K' hK' => ?_⟩
            obtain ⟨b, b1, b2, b3, b4⟩ := h3 K hK
            obtain ⟨q1, q2, q3⟩ := hbt K' hK'
            have hbi := b3 i List.mem_cons_self
            refine ⟨b, b1, ?_, fun j hj => ?_⟩
            · cases e : K'.testBit b
              · rfl
              · rcases q3 b e with h | h | h
                · rw [hdis b b2] at h; cases h
                · omega
                · have := b3 b (List.mem_cons_of_mem _ h); omega
            · rw [b4 j hj]
              cases e : has.testBit j
              · cases e2 : K'.testBit j
                · rfl
                · rcases q3 j e2 with h | h | h
                  · rw [e] at h; cases h
                  · omega
                  · have := b3 j (List.mem_cons_of_mem _ h); omega
              · exact (q1.1 j e).symm
          · intro K hK
            simp only [wstep, List.mem_append] at hK
            rcases hK with hK | hK
            · exact h2 K hK
            · exact (hbt K hK).1
          · intro K hK
            simp only [wstep, List.mem_append] at hK
            rcases hK with hK | hK
            · obtain ⟨b, b1, b2, b3, b4⟩ := h3 K hK
              exact ⟨b, b1, b2, fun j hj => b3 j (List.mem_cons_of_mem _ hj), b4⟩
            · obtain ⟨q1, q2, q3⟩ := hbt K hK
              refine ⟨i, q2, him, hp1, fun j hj => ?_⟩
              cases e : has.testBit j
              · cases e2 : K.testBit j
                · rfl
                · rcases q3 j e2 with h | h | h
                  · rw [e] at h; cases h
                  · omega
                  · have := hp1 j h; omega
              · exact q1.1 j e
      exact key (memb may) ([], may, not) (memb_sorted may) (fun i hi => memb_bit hi) (fun v => (mem_memb hlt).symm) hlt .nil (fun K hK => by cases hK) (fun K hK => by cases hK)
/-! ### lists in order -/
def aheadN : List Nat → List Nat → Bool
  | [], [] => false
  | [], _ :: _ => true
  | _ :: _, [] => false
  | x :: a, y :: b => if x = y then aheadN a b else decide (x < y)
theorem ahead_irr : ∀ a, aheadN a a = false
  | [] => rfl
  | x :: a => by rw [aheadN, if_pos rfl]; exact ahead_irr a
theorem ahead_tri : ∀ a b, aheadN a b = true ∨ a = b ∨ aheadN b a = true
  | [], [] => .inr (.inl rfl)
  | [], _ :: _ => .inl rfl
  | _ :: _, [] => .inr (.inr rfl)
  | x :: a, y :: b => by
    by_cases e : x = y
    · subst e
      rw [aheadN, aheadN, if_pos rfl, if_pos rfl]
      rcases ahead_tri a b with h | h | h
      · exact .inl h
      · exact .inr (.inl (by rw [h]))
      · exact .inr (.inr h)
    · rw [aheadN, aheadN, if_neg e, if_neg (fun h => e h.symm), decide_eq_true_eq, decide_eq_true_eq]
      rcases Nat.lt_or_gt_of_ne e with h | h
      · exact .inl h
      · exact .inr (.inr h)
theorem ahead_trans : ∀ {a b c}, aheadN a b = true → aheadN b c = true → aheadN a c = true
  | [], [], _, h, _ => by cases h
  | [], _ :: _, [], _, h => by cases h
  | [], _ :: _, _ :: _, _, _ => rfl
  | _ :: _, [], _, h, _ => by cases h
  | _ :: _, _ :: _, [], _, h => by cases h
  | x :: a, y :: b, z :: c, h1, h2 => by
    rw [aheadN] at h1 h2 ⊢
    by_cases e : x = y
    · subst e
      rw [if_pos rfl] at h1
      by_cases e : x = z
      · subst e
        rw [if_pos rfl] at h2 ⊢
        exact ahead_trans h1 h2
      · rw [if_neg e] at h2 ⊢; exact h2
    · rw [if_neg e, decide_eq_true_eq] at h1
      by_cases e2 : y = z
      · subst e2
        rw [if_neg e, decide_eq_true_eq]; exact h1
      · rw [if_neg e2, decide_eq_true_eq] at h2
        rw [if_neg (by omega), decide_eq_true_eq]; omega
theorem ahead_of : ∀ {a b : List Nat} {x : Nat}, a.Pairwise (· < ·) → b.Pairwise (· < ·) → x ∈ a → x ∉ b → (∀ z, z < x → (z ∈ a ↔ z ∈ b)) → (∃ y ∈ b, x < y) → aheadN a b = true
  | [], _, _, _, _, h, _, _, _ => by cases h
  | _ :: _, [], _, _, _, _, _, _, ⟨y, h, _⟩ => by cases h
  | p :: a, q :: b, x, ha, hb, hx, hx', hz, ⟨y, hy, hxy⟩ => by
    obtain ⟨a1, a2⟩ := List.pairwise_cons.1 ha
    obtain ⟨b1, b2⟩ := List.pairwise_cons.1 hb
    rw [aheadN]
    by_cases e : p = q
    · subst e
      rw [if_pos rfl]
      have hxp : x ≠ p := fun e => hx' (by rw [e]; exact List.mem_cons_self)
      have hxa : x ∈ a := by rcases List.mem_cons.1 hx with h | h; exact absurd h hxp; exact h
      have hpx := a1 x hxa
      refine ahead_of a2 b2 hxa (fun h => hx' (List.mem_cons_of_mem _ h)) (fun z hzx => ?_) ⟨y, ?_, hxy⟩
      · have := hz z hzx
        simp only [List.mem_cons] at this
        constructor
        · intro h
          rcases this.1 (.inr h) with h' | h'
          · have := a1 z h; omega
          · exact h'
        · intro h
          rcases this.2 (.inr h) with h' | h'
          · have := b1 z h; omega
          · exact h'
      · rcases List.mem_cons.1 hy with h | h
        · omega
        · exact h
    · rw [if_neg e, decide_eq_true_eq]
      have hpx : p ≤ x := by
        rcases List.mem_cons.1 hx with h | h
        · omega
        · exact Nat.le_of_lt (a1 x h)
      have hq : ∀ z ∈ q :: b, q ≤ z := fun z h => by
        rcases List.mem_cons.1 h with h | h
        · omega
        · exact Nat.le_of_lt (b1 z h)
      have hp : ∀ z ∈ p :: a, p ≤ z := fun z h => by
        rcases List.mem_cons.1 h with h | h
        · omega
        · exact Nat.le_of_lt (a1 z h)
      have hqx : q ≠ x := fun e => hx' (by rw [← e]; exact List.mem_cons_self)
      by_cases hlt : q < x
      · have := hp q ((hz q hlt).2 List.mem_cons_self)
        by_cases hpx2 : p < x
        · have := hq p ((hz p hpx2).1 List.mem_cons_self); omega
        · omega
      · omega
/-- two rows in order with the same members are one -/
theorem sorted_unique : ∀ {l m : List (List Nat)}, l.Pairwise (fun a b => aheadN a b = true) → m.Pairwise (fun a b => aheadN a b = true) → (∀ x, x ∈ l ↔ x ∈ m) → l = m
  | [], [], _, _, _ => rfl
  | [], y :: m, _, _, h => by have := (h y).2 List.mem_cons_self; cases this
  | x :: l, [], _, _, h => by have := (h x).1 List.mem_cons_self; cases this
  | x :: l, y :: m, hl, hm, h => by
    obtain ⟨l1, l2⟩ := List.pairwise_cons.1 hl
    obtain ⟨m1, m2⟩ := List.pairwise_cons.1 hm
    have e : x = y := by
      rcases List.mem_cons.1 ((h x).1 List.mem_cons_self) with e | hx
      · exact e
      · rcases List.mem_cons.1 ((h y).2 List.mem_cons_self) with e | hy
        · exact e.symm
        · have := ahead_trans (l1 y hy) (m1 x hx); rw [ahead_irr] at this; cases this
    subst e
    congr 1
    refine sorted_unique l2 m2 fun z => ?_
    have := h z
    simp only [List.mem_cons] at this
    constructor
    · intro hz
      rcases this.1 (.inr hz) with e | h'
      · subst e; have := l1 z hz; rw [ahead_irr] at this; cases this
      · exact h'
    · intro hz
      rcases this.2 (.inr hz) with e | h'
      · subst e; have := m1 z hz; rw [ahead_irr] at this; cases this
      · exact h'
theorem memb_ahead {S T : Nat} (hS : S < 65536) (hT : T < 65536) (h : lowd S T) (hn : ∃ v, T.testBit v = true ∧ S.testBit v = false) : aheadN (memb S) (memb T) = true := by
  obtain ⟨b, b1, b2, b3⟩ := h
  obtain ⟨v, v1, v2⟩ := hn
  refine ahead_of (x := b) (memb_sorted S) (memb_sorted T) ((mem_memb hS).2 b1) (fun h => ?_) (fun z hz => ?_) ⟨v, (mem_memb hT).2 v1, ?_⟩
  · have := (mem_memb hT).1 h; rw [b2] at this; cases this
  · rw [mem_memb hS, mem_memb hT, b3 z hz]
  · rcases Nat.lt_trichotomy v b with h | h | h
    · have := b3 v h; rw [v1, v2] at this; cases this
    · subst h; rw [b1] at v2; cases v2
    · exact h
end Go.Proofs.YtpcmofhmhggcoaaDoor.Pl
