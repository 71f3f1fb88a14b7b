import Derived.Test.YtoiidngnlhhanaaCM
/- Moon and Moser, plain -/
set_option linter.all false
set_option maxRecDepth 100000
namespace Go.Proofs.Ytoiidngnlhhanaa.Pl
/-- what whole finds: what is said of each -/
structure Fnd (bes : List Nat) (has may not K : Nat) : Prop where
  inc : ∀ v, has.testBit v = true → K.testBit v = true
  sub : ∀ v, K.testBit v = true → has.testBit v = true ∨ may.testBit v = true
  clq : Clq bes K
  max : ∀ v, (may.testBit v = true ∨ not.testBit v = true) → K.testBit v = false → ∃ u, K.testBit u = true ∧ adj bes u v = false
theorem whole_sound (bes : List Nat) (hsym : ∀ i j, adj bes i j = adj bes j i) (hb : NoLoop bes) : ∀ (d has may not : Nat),
    Clq bes has → (∀ v, (may.testBit v = true ∨ not.testBit v = true) → ∀ u, has.testBit u = true → adj bes u v = true) →
    (wholeM bes d has may not).Nodup ∧ ∀ K ∈ wholeM bes d has may not, Fnd bes has may not K := by
  have nil : ∀ has not, Clq bes has → (if not = 0 then [has] else []).Nodup ∧ ∀ K ∈ (if not = 0 then [has] else []), Fnd bes has 0 not K := by
    intro has not hc
    by_cases h : not = 0
    · subst h
      refine ⟨by simp, fun K hK => ?_⟩
      simp at hK; subst hK
      exact ⟨fun _ h => h, fun _ h => .inl h, hc, fun v hv => by simp at hv⟩
    · rw [if_neg h]; exact ⟨.nil, fun K hK => by cases hK⟩
  intro d
  induction d with
  | zero =>
    intro has may not hc hi
    by_cases hm : may = 0
    · subst hm; simp only [wholeM, if_true]; exact nil has not hc
    · simp only [wholeM, if_neg hm]; exact ⟨.nil, fun K hK => by cases hK⟩
  | succ d ih =>
    intro has may not hc hi
    by_cases hm : may = 0
    · subst hm; simp only [wholeM, if_true]; exact nil has not hc
    · simp only [wholeM, if_neg hm]
      have hdis : ∀ v, may.testBit v = true → has.testBit v = false := by
        intro v hv
        cases e : has.testBit v
        · rfl
        · have := hi v (.inl hv) v e
          unfold adj at this; rw [hb v] at this; cases this
      have key : ∀ (pts : List Nat) (st : List Nat × Nat × Nat), pts.Nodup → (∀ i ∈ pts, st.2.1.testBit i = true) → (∀ v, st.2.1.testBit v = true → may.testBit v = true) →
          (∀ v, (may.testBit v = true ∨ not.testBit v = true) ↔ (st.2.1.testBit v = true ∨ st.2.2.testBit v = true)) →
          st.1.Nodup → (∀ K ∈ st.1, Fnd bes has may not K) → (∀ K ∈ st.1, ∃ v, K.testBit v = true ∧ may.testBit v = true ∧ st.2.1.testBit v = false) →
          (pts.foldl (wstep (wholeM bes d) bes has) st).1.Nodup ∧ ∀ K ∈ (pts.foldl (wstep (wholeM bes d) bes has) st).1, Fnd bes has may not K := by
        intro pts
        induction pts with
        | nil => intro st _ _ _ _ h1 h2 _; exact ⟨h1, h2⟩
        | cons i pts ih2 =>
          intro st hnd hp hs hu h1 h2 h3
          have hu0 := hu
          have hi1 := hp i List.mem_cons_self
          have him := hs i hi1
          have hhi : has.testBit i = false := hdis i him
          have hc' : Clq bes (has ||| 2 ^ i) := by
            intro u v hu hv hne
            rw [or_bit, Bool.or_eq_true, decide_eq_true_eq] at hu hv
            rcases hu with hu | rfl <;> rcases hv with hv | rfl
            · exact hc u v hu hv hne
            · exact hi _ (.inl him) u hu
            · rw [hsym]; exact hi _ (.inl him) v hv
            · exact absurd rfl hne
          obtain ⟨r1, r2⟩ := ih (has ||| 2 ^ i) (st.2.1 &&& bes.getD i 0) (st.2.2 &&& bes.getD i 0) hc' (by
            intro v hv u hu
            rw [Nat.testBit_and, Nat.testBit_and, Bool.and_eq_true, Bool.and_eq_true] at hv
            rw [or_bit, Bool.or_eq_true, decide_eq_true_eq] at hu
            rcases hu with hu | rfl
            · refine hi v ((hu0 v).2 ?_) u hu
              rcases hv with h | h
              · exact .inl h.1
              · exact .inr h.1
            · rcases hv with h | h <;> exact h.2)
          have hnew : ∀ K ∈ wholeM bes d (has ||| 2 ^ i) (st.2.1 &&& bes.getD i 0) (st.2.2 &&& bes.getD i 0), Fnd bes has may not K := by
            intro K hK
            obtain ⟨a1, a2, a3, a4⟩ := r2 K hK
            refine ⟨fun v hv => a1 v (by rw [or_bit, hv]; rfl), fun v hv => ?_, a3, fun v hv hKv => ?_⟩
            · rcases a2 v hv with h | h
              · rw [or_bit, Bool.or_eq_true, decide_eq_true_eq] at h
                rcases h with h | rfl
                · exact .inl h
                · exact .inr him
              · rw [Nat.testBit_and, Bool.and_eq_true] at h; exact .inr (hs v h.1)
            · cases e : adj bes i v
              · exact ⟨i, a1 i (by rw [or_bit]; simp), e⟩
              · refine a4 v ?_ hKv
                have e' : (bes.getD i 0).testBit v = true := e
                rcases (hu v).1 hv with h | h
                · left; rw [Nat.testBit_and, h, e']; rfl
                · right; rw [Nat.testBit_and, h, e']; rfl
          refine ih2 _ (List.nodup_cons.1 hnd).2 (fun j hj => ?_) (fun v hv => ?_) (fun v => ?_) ?_ ?_ ?_
          · have hne : i ≠ j := fun e => (List.nodup_cons.1 hnd).1 (e ▸ hj)
            simp only [wstep, ndiff_testBit, hp j (List.mem_cons_of_mem _ hj), Nat.testBit_two_pow, decide_eq_false hne]; rfl
          · simp only [wstep, ndiff_testBit, Bool.and_eq_true] at hv; exact hs v hv.1
          · rw [hu v]
            simp only [wstep, ndiff_testBit, or_bit, Nat.testBit_two_pow, Bool.and_eq_true, Bool.or_eq_true, Bool.not_eq_true', decide_eq_false_iff_not, decide_eq_true_eq]
            constructor
            · rintro (h | h)
              · by_cases e : i = v
                · exact .inr (.inr e)
                · exact .inl ⟨h, e⟩
              · exact .inr (.inl h)
            · rintro (h | h | h)
              · exact .inl h.1
              · exact .inr h
              · subst h; exact .inl hi1
          · simp only [wstep]
            rw [List.nodup_append]
            refine ⟨h1, r1, fun K hK K' hK' e => ?_⟩
            subst e
            obtain ⟨v, hv1, hv2, hv3⟩ := h3 K hK
            rcases (r2 K hK').sub v hv1 with h | h
            · rw [or_bit, Bool.or_eq_true, decide_eq_true_eq] at h
              rcases h with h | rfl
              · rw [hdis v hv2] at h; cases h
              · rw [hi1] at hv3; cases hv3
            · rw [Nat.testBit_and, hv3] at h; cases h
          · intro K hK
            simp only [wstep] at hK
            rcases List.mem_append.1 hK with h | h
            · exact h2 K h
            · exact hnew K h
          · intro K hK
            simp only [wstep] at hK ⊢
            rcases List.mem_append.1 hK with h | h
            · obtain ⟨v, v1, v2, v3⟩ := h3 K h
              exact ⟨v, v1, v2, by rw [ndiff_testBit, v3]; rfl⟩
            · exact ⟨i, (r2 K h).inc i (by rw [or_bit]; simp), him, by rw [ndiff_testBit, Nat.testBit_two_pow]; simp⟩
      exact key (memb may) ([], may, not) (List.nodup_range.filter _) (fun i hi => memb_bit hi) (fun _ h => h) (fun _ => Iff.rfl) .nil (fun _ h => by cases h) (fun _ h => by cases h)
/-- no more than N things -/
def Card (P : Nat → Prop) (N : Nat) : Prop := ∀ L : List Nat, L.Nodup → (∀ K ∈ L, P K) → L.length ≤ N
theorem Card.mono {P : Nat → Prop} {N M : Nat} (h : Card P N) (hm : N ≤ M) : Card P M := fun L h1 h2 => Nat.le_trans (h L h1 h2) hm
theorem nodup_map {f : Nat → Nat} : ∀ {L : List Nat}, L.Nodup → (∀ x ∈ L, ∀ y ∈ L, f x = f y → x = y) → (L.map f).Nodup
  | [], _, _ => .nil
  | x :: L, h, hi => by
    rw [List.nodup_cons] at h
    rw [List.map_cons, List.nodup_cons]
    refine ⟨fun hm => ?_, nodup_map h.2 fun a ha b hb => hi a (List.mem_cons_of_mem _ ha) b (List.mem_cons_of_mem _ hb)⟩
    obtain ⟨y, hy, e⟩ := List.mem_map.1 hm
    exact h.1 (hi y (List.mem_cons_of_mem _ hy) x List.mem_cons_self e ▸ hy)
theorem Card.inj {P Q : Nat → Prop} {N : Nat} (f : Nat → Nat) (hf : ∀ x, P x → Q (f x)) (hi : ∀ x y, P x → P y → f x = f y → x = y) (h : Card Q N) : Card P N := by
  intro L h1 h2
  have := h (L.map f) (nodup_map h1 fun x hx y hy => hi x y (h2 x hx) (h2 y hy)) (fun K hK => by
    obtain ⟨x, hx, rfl⟩ := List.mem_map.1 hK; exact hf x (h2 x hx))
  simpa using this
open Classical in
theorem Card.union {N : Nat} {Q : Nat → Nat → Prop} : ∀ (U : List Nat) {P : Nat → Prop}, (∀ K, P K → ∃ u ∈ U, Q u K) → (∀ u ∈ U, Card (Q u) N) → Card P (U.length * N)
  | [], P, h, _ => fun L _ h2 => by
    cases L with
    | nil => simp
    | cons x L => obtain ⟨u, hu, _⟩ := h x (h2 x List.mem_cons_self); cases hu
  | u :: U, P, h, hc => fun L h1 h2 => by
    have e : L.length = (L.filter fun K => decide (Q u K)).length + (L.filter fun K => !decide (Q u K)).length := by
      clear h1 h2
      induction L with
      | nil => rfl
      | cons x L ih => by_cases hq : Q u x <;> simp [hq, ih] <;> omega
    have a1 := hc u List.mem_cons_self (L.filter fun K => decide (Q u K)) (h1.filter _) (fun K hK => by simpa using (List.mem_filter.1 hK).2)
    have a2 := Card.union U (P := fun K => P K ∧ ¬ Q u K) (fun K hK => by
      obtain ⟨x, hx, hq⟩ := h K hK.1
      rcases List.mem_cons.1 hx with rfl | hx
      · exact absurd hq hK.2
      · exact ⟨x, hx, hq⟩) (fun x hx => hc x (List.mem_cons_of_mem _ hx)) (L.filter fun K => !decide (Q u K)) (h1.filter _) (fun K hK => by
      obtain ⟨m1, m2⟩ := List.mem_filter.1 hK
      exact ⟨h2 K m1, by simpa using m2⟩)
    rw [List.length_cons, Nat.add_mul, Nat.one_mul]; omega
def mo : Nat → Nat
  | 0 => 1 | 1 => 1 | 2 => 2 | 3 => 3 | 4 => 4 | 5 => 6 | 6 => 9 | 7 => 12 | _ => 18
theorem mo_mono : ∀ n ≤ 8, ∀ m ≤ n, mo m ≤ mo n := by decide
theorem mo_step : ∀ n ≤ 8, ∀ t ≤ n, 1 ≤ t → t * mo (n - t) ≤ mo n := by decide
theorem mask_zero {m : Nat} (hm : m < 65536) (h : (memb m).length = 0) : m = 0 := by
  apply Nat.eq_of_testBit_eq; intro i
  rw [Nat.zero_testBit]
  cases e : m.testBit i
  · rfl
  · have h2 := (mem_memb hm).2 e
    rw [List.length_eq_zero_iff.1 h] at h2; cases h2
theorem exists_max (f : Nat → Nat) : ∀ (l : List Nat), l ≠ [] → ∃ v ∈ l, ∀ u ∈ l, f u ≤ f v
  | [], h => absurd rfl h
  | [x], _ => ⟨x, by simp, by simp⟩
  | x :: y :: l, _ => by
    obtain ⟨v, hv, hm⟩ := exists_max f (y :: l) (by simp)
    by_cases h : f v ≤ f x
    · exact ⟨x, by simp, fun u hu => by rcases List.mem_cons.1 hu with rfl | hu; exact Nat.le_refl _; exact Nat.le_trans (hm u hu) h⟩
    · exact ⟨v, List.mem_cons_of_mem _ hv, fun u hu => by rcases List.mem_cons.1 hu with rfl | hu; omega; exact hm u hu⟩
theorem moon (bes : List Nat) (hsym : ∀ i j, adj bes i j = adj bes j i) (hb : NoLoop bes) : ∀ (n : Nat), n ≤ 8 → ∀ S < 65536, (memb S).length = n → Card (fun K => Fnd bes 0 S 0 K) (mo n) := by
  intro n
  induction n using Nat.strongRecOn with
  | _ n ihn =>
    intro hn S hS hl
    by_cases h0 : n = 0
    · subst h0
      obtain rfl := mask_zero hS hl
      intro L h1 h2
      have : ∀ K ∈ L, K ∈ [0] := fun K hK => by
        have := (h2 K hK).sub
        have : K = 0 := by
          apply Nat.eq_of_testBit_eq; intro i; rw [Nat.zero_testBit]
          cases e : K.testBit i
          · rfl
          · rcases this i e with h | h <;> rw [Nat.zero_testBit] at h <;> cases h
        simp [this]
      exact nodup_len_le h1 this
    · obtain ⟨v, hv, hmax⟩ := exists_max (fun u => (memb (S &&& bes.getD u 0)).length) (memb S) (fun e => h0 (by rw [← hl, e]; rfl))
      have hvb := memb_bit hv
      let U := (memb S).filter fun u => !adj bes v u
      have hU : ∀ u, u ∈ U ↔ u ∈ memb S ∧ adj bes v u = false := fun u => by simp [U]
      have hUl : U.length + (memb (S &&& bes.getD v 0)).length = n := by
        have e : (memb (S &&& bes.getD v 0)) = (memb S).filter fun u => adj bes v u := by
          unfold memb; rw [List.filter_filter]
          congr 1; funext i; rw [Nat.testBit_and, Bool.and_comm]; rfl
        rw [e, ← hl]
        show ((memb S).filter fun u => !adj bes v u).length + _ = _
        generalize memb S = l
        clear e hl
        induction l with
        | nil => rfl
        | cons x l ih => cases h : adj bes v x <;> simp [h] <;> omega
      have hvU : v ∈ U := (hU v).2 ⟨hv, hb v⟩
      have hUpos : 1 ≤ U.length := List.length_pos_of_mem hvU
      refine Card.mono (Card.union (Q := fun u K => Fnd bes 0 S 0 K ∧ K.testBit u = true) (N := mo (n - U.length)) U (fun K hK => ?_) (fun u hu => ?_)) (mo_step n hn U.length (by omega) hUpos)
      · cases e : K.testBit v
        · obtain ⟨u, hu1, hu2⟩ := hK.max v (.inl hvb) e
          refine ⟨u, (hU u).2 ⟨?_, by rw [hsym]; exact hu2⟩, hK, hu1⟩
          rcases hK.sub u hu1 with h | h
          · rw [Nat.zero_testBit] at h; cases h
          · exact (mem_memb hS).2 h
        · exact ⟨v, hvU, hK, e⟩
      · have hum := ((hU u).1 hu).1
        have hS' : S &&& bes.getD u 0 < 65536 := and_lt hS
        have hlt : (memb (S &&& bes.getD u 0)).length ≤ n - U.length := by have : (memb (S &&& bes.getD u 0)).length ≤ (memb (S &&& bes.getD v 0)).length := hmax u hum; omega
        refine Card.mono ?_ (mo_mono (n - U.length) (by omega) _ hlt)
        refine Card.inj (Q := fun K => Fnd bes 0 (S &&& bes.getD u 0) 0 K) (fun K => ndiff K (2 ^ u)) ?_ ?_ (ihn _ (by omega) (by omega) _ hS' rfl)
        · rintro K ⟨hK, hKu⟩
          refine ⟨fun w hw => (by rw [Nat.zero_testBit] at hw; cases hw), fun w hw => ?_, fun x y hx hy hne => ?_, fun w hw hKw => ?_⟩
          · rw [ndiff_testBit, Nat.testBit_two_pow, Bool.and_eq_true, Bool.not_eq_true', decide_eq_false_iff_not] at hw
            right
            rw [Nat.testBit_and, Bool.and_eq_true]
            refine ⟨?_, hK.clq u w hKu hw.1 hw.2⟩
            rcases hK.sub w hw.1 with h | h
            · rw [Nat.zero_testBit] at h; cases h
            · exact h
          · rw [ndiff_testBit, Bool.and_eq_true] at hx hy
            exact hK.clq x y hx.1 hy.1 hne
          · rw [Nat.testBit_and, Nat.zero_testBit, Bool.and_eq_true] at hw
            have hw' : S.testBit w = true ∧ (bes.getD u 0).testBit w = true := by
              rcases hw with h | h
              · exact h
              · cases h
            have hne : u ≠ w := fun e => by subst e; have := hw'.2; rw [hb u] at this; cases this
            rw [ndiff_testBit, Nat.testBit_two_pow, decide_eq_false hne, Bool.not_false, Bool.and_true] at hKw
            obtain ⟨x, hx1, hx2⟩ := hK.max w (.inl hw'.1) hKw
            refine ⟨x, ?_, hx2⟩
            have hxu : u ≠ x := fun e => by subst e; have : adj bes u w = true := hw'.2; rw [this] at hx2; cases hx2
            rw [ndiff_testBit, Nat.testBit_two_pow, decide_eq_false hxu, hx1]; rfl
        · rintro x y ⟨_, hx⟩ ⟨_, hy⟩ e
          apply Nat.eq_of_testBit_eq; intro i
          by_cases hi : u = i
          · subst hi; rw [hx, hy]
          · have := congrArg (·.testBit i) e
            simpa [ndiff_testBit, Nat.testBit_two_pow, hi] using this
end Go.Proofs.Ytoiidngnlhhanaa.Pl
