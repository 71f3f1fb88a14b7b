import Derived.Test.YtoiidngnlhhanaaMoon
import Derived.Test.YtoiidngnlhhanaaAl
/- the size of the greatest clique -/
set_option linter.all false
set_option maxRecDepth 100000
namespace Go.Proofs.Ytoiidngnlhhanaa
open Go.RowKit Go.Shelf
open Pl hiding adj nodup_len_le maskOf maskOf_bit maskOf_lt memb_less
theorem bound_of {k T : Nat} (h : ∀ v, T.testBit v = true → v < k) : T < 2 ^ k := by
  refine Nat.lt_pow_two_of_testBit T fun v hv => ?_
  cases e : T.testBit v
  · rfl
  · have := h v e; omega
theorem most_is {bes : List Nat} (hsym : ∀ i j, Pl.adj bes i j = Pl.adj bes j i) (hnl : NoLoop bes) {k : Nat} (h8 : k ≤ 8) (P : Nat → Prop) (hP : ∀ T, T < 2 ^ k → (P T ↔ Clq bes T)) {W : Nat}
    (h1 : ∀ T, T < 2 ^ k → P T → (memb T).length ≤ W) (h2 : W = 0 ∨ ∃ T, T < 2 ^ k ∧ P T ∧ (memb T).length = W) : mostOf (wholeM bes 8 0 (2 ^ k - 1) 0) = W := by
  have hp := Nat.pow_le_pow_right (n := 2) (by omega) h8
  have hf := (whole_sound bes hsym hnl 8 0 (2 ^ k - 1) 0 (fun u v hu => by rw [Nat.zero_testBit] at hu; cases hu) (fun v _ u hu => by rw [Nat.zero_testBit] at hu; cases hu)).2
  refine Nat.le_antisymm ?_ ?_
  · have key : ∀ (ms : List Nat) (a : Nat), a ≤ W → (∀ m ∈ ms, (memb m).length ≤ W) → ms.foldl (fun a m => max a (memb m).length) a ≤ W := by
      intro ms
      induction ms with
      | nil => intro a ha _; exact ha
      | cons m ms ih =>
        intro a ha hm
        exact ih _ (Nat.max_le.2 ⟨ha, hm m List.mem_cons_self⟩) (fun x hx => hm x (List.mem_cons_of_mem _ hx))
    refine key _ 0 (Nat.zero_le _) fun T hT => ?_
    have hlt : T < 2 ^ k := bound_of fun v hv => by
      rcases (hf T hT).sub v hv with h | h
      · rw [Nat.zero_testBit] at h; cases h
      · rw [ones_bit] at h; exact of_decide_eq_true h
    exact h1 T hlt ((hP T hlt).2 (hf T hT).clq)
  · rcases h2 with h | ⟨T, t1, t2, t3⟩
    · omega
    · obtain ⟨M, m1, m2, m3⟩ := clique_in bes hsym hnl h8 T t1 ((hP T t1).1 t2)
      have := memb_subset m3
      have h4 := mostOf_ge m1
      rw [← t3]; exact Nat.le_trans this h4
end Go.Proofs.Ytoiidngnlhhanaa
