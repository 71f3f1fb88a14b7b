import Derived.Test.YtpcmofhmhggcoaaDoorEv1
import Derived.Test.YtpcmofhmhggcoaaDoorTur
set_option linter.all false
set_option maxRecDepth 100000
namespace Go.Proofs.YtpcmofhmhggcoaaDoor
open Go.RowKit Go.Shelf Pl
theorem pc_le (f : Nat → Bool) : ∀ n, pc f n ≤ n
  | 0 => Nat.le_refl _
  | n+1 => by have := pc_le f n; unfold pc; split <;> omega
theorem tri_le (f : Nat → Nat → Bool) : ∀ n ≤ 8, tri f n ≤ 8 * n
  | 0, _ => Nat.le_refl _
  | n+1, h => by have := tri_le f n (by omega); have := pc_le (f n) n; unfold tri; omega
theorem md_ev {a r : Nat} (h : 1 ≤ r) : md (a : Int) (r : Int) = some ((a % r : Nat) : Int) := by
  unfold md; rw [if_neg (by omega), Int.ofNat_tmod]
theorem mostOf_le {ms : List Nat} {c : Nat} (h : ∀ m ∈ ms, (memb m).length ≤ c) : mostOf ms ≤ c := by
  unfold mostOf
  have key : ∀ (ms : List Nat) (a : Nat), a ≤ c → (∀ m ∈ ms, (memb m).length ≤ c) → ms.foldl (fun a m => max a (memb m).length) a ≤ c := by
    intro ms
    induction ms with
    | nil => intro a h _; exact h
    | cons x ms ih => intro a h h2; exact ih _ (Nat.max_le.2 ⟨h, h2 x List.mem_cons_self⟩) (fun m hm => h2 m (List.mem_cons_of_mem _ hm))
  exact key ms 0 (by omega) h
/-- what whole finds lies in has and may -/
theorem whole_sub (bes : List Nat) : ∀ (d has may not K : Nat), may < 65536 → K ∈ wholeM bes d has may not → ∀ v, K.testBit v = true → has.testBit v = true ∨ may.testBit v = true := by
  intro d
  induction d with
  | zero =>
    intro has may not K _ hK v hv
    unfold wholeM at hK
    split at hK
    · split at hK
      · simp at hK; subst hK; exact .inl hv
      · cases hK
    · cases hK
  | succ d ih =>
    intro has may not K hm hK v hv
    unfold wholeM at hK
    split at hK
    · split at hK
      · simp at hK; subst hK; exact .inl hv
      · cases hK
    · have key : ∀ (pts : List Nat) (st : List Nat × Nat × Nat), (∀ i ∈ pts, may.testBit i = true) → (∀ j, st.2.1.testBit j = true → may.testBit j = true) → (∀ K ∈ st.1, ∀ v, K.testBit v = true → has.testBit v = true ∨ may.testBit v = true) →
          ∀ K ∈ (pts.foldl (wstep (wholeM bes d) bes has) st).1, ∀ v, K.testBit v = true → has.testBit v = true ∨ may.testBit v = true := by
        intro pts
        induction pts with
        | nil => intro st _ _ h; exact h
        | cons i pts ih2 =>
          intro st hp hs h
          refine ih2 _ (fun j hj => hp j (List.mem_cons_of_mem _ hj)) (fun j hj => ?_) ?_
          · simp only [wstep, ndiff_testBit, Bool.and_eq_true] at hj; exact hs j hj.1
          · intro K hK v hv
            simp only [wstep] at hK
            rcases List.mem_append.1 hK with hK | hK
            · exact h K hK v hv
            · have hst : st.2.1 < 65536 := by
                refine Nat.lt_pow_two_of_testBit (n := 16) _ fun i hi => ?_
                cases e : st.2.1.testBit i
                · rfl
                · have := hs i e
                  rw [Nat.testBit_lt_two_pow (Nat.lt_of_lt_of_le hm (Nat.pow_le_pow_right (n := 2) (by omega) hi))] at this; cases this
              rcases ih _ _ _ K (and_lt hst) hK v hv with h1 | h1
              · rw [Nat.testBit_or, Nat.testBit_two_pow, Bool.or_eq_true, decide_eq_true_eq] at h1
                rcases h1 with h1 | rfl
                · exact .inl h1
                · exact .inr (hp _ List.mem_cons_self)
              · rw [Nat.testBit_and, Bool.and_eq_true] at h1
                exact .inr (hs v h1.1)
      exact key _ _ (fun i hi => memb_bit hi) (fun _ h => h) (fun _ h => (by cases h)) K hK v hv
theorem adj_besL {n : Nat} {l : List (Int × Int)} (h : InL n l) (i j : Nat) : adj (besM n l) i j = besL l i j := by
  unfold adj besL goes
  rw [besM_bit h, ]
  have e : ∀ p ∈ l, (decide (p.1.toNat = i) && decide (p.2.toNat = j)) = (p.1 == (i : Int) && p.2 == (j : Int)) ∧ (decide (p.2.toNat = i) && decide (p.1.toNat = j)) = (p.1 == (j : Int) && p.2 == (i : Int)) := by
    intro p hp
    have := h p hp
    constructor <;> rw [Bool.eq_iff_iff] <;> simp <;> omega
  congr 1
  · rw [Bool.eq_iff_iff, List.any_eq_true, List.any_eq_true]
    exact ⟨fun ⟨p, hp, h1⟩ => ⟨p, hp, by rw [← (e p hp).1]; exact h1⟩, fun ⟨p, hp, h1⟩ => ⟨p, hp, by rw [(e p hp).1]; exact h1⟩⟩
  · rw [Bool.eq_iff_iff, List.any_eq_true, List.any_eq_true]
    exact ⟨fun ⟨p, hp, h1⟩ => ⟨p, hp, by rw [← (e p hp).2]; exact h1⟩, fun ⟨p, hp, h1⟩ => ⟨p, hp, by rw [(e p hp).2]; exact h1⟩⟩
theorem most_bounds {k : Nat} {l : List (Int × Int)} (h1 : 1 ≤ k) (h8 : k ≤ 8) (hin : InL k l) (hne : ∀ p ∈ l, p.1 ≠ p.2) : 1 ≤ mostOf (cliquesM k l) ∧ mostOf (cliquesM k l) ≤ k := by
  constructor
  · exact clique_most (besM k l) (besM_sym hin) (besM_ne hin hne) h8 [0] (by simp) (by simp; omega) (by intro u hu v hv hne; simp at hu hv; omega)
  · refine mostOf_le fun m hm => ?_
    have hs := whole_sub (besM k l) 8 0 (2 ^ k - 1) 0 m (by have := Nat.pow_le_pow_right (n := 2) (by omega) h8; omega) hm
    have h2 : (memb m).length ≤ (List.range k).length := by
      refine nodup_len_le (List.nodup_range.filter _) fun x hx => ?_
      have := memb_bit hx
      rcases hs x this with h | h
      · rw [Nat.zero_testBit] at h; cases h
      · rw [ones_bit, decide_eq_true_eq] at h; exact List.mem_range.2 h
    simpa using h2
end Go.Proofs.YtpcmofhmhggcoaaDoor
