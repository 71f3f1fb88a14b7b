import Derived.Test.YtekfgkeimlidhaaGreatDoorBB2
import Derived.Test.YtekfgkeimlidhaaGreatDoorFwT
/- plain: the book's Far -/
set_option linter.all false
set_option maxRecDepth 100000
namespace Go.Proofs.YtekfgkeimlidhaaGreatDoor
open Go.RowKit Go.Shelf Pl
/-! ### how far -/
theorem bf_L1 {b : BkT} (h : BInv b) {i j : Nat} (hi : i < 8) (hj : j < 8) {o : List Int} (hf : Far 8 (fun a c => (mk b a).testBit c = true) i o) : ∀ (g : Nat) (S : Nat) (kk : Nat), 9 < (memb S).length + g → S < 256 → (∀ q, q < 8 → (S.testBit q = true ↔ 0 ≤ o.getD q 0 ∧ o.getD q 0 ≤ (kk : Int))) →
    ¬ (0 ≤ o.getD j 0 ∧ o.getD j 0 < (kk : Int)) → kk < (memb S).length → brambleweir_book_Book_Far_L1 300 b.1 (j : Int) g S (kk : Int) = some (.inr (o.getD j 0, 0))
  | 0, S, kk, hg, hS, _, _, _ => by
    exfalso
    have : (memb S).length ≤ 8 := by
      show ((List.range 16).filter fun i => S.testBit i).length ≤ 8
      rw [show List.range 16 = List.range' 0 8 ++ List.range' 8 8 by decide, List.filter_append]
      have z2 : (List.range' 8 8).filter (fun j => S.testBit j) = [] := by
        rw [List.filter_eq_nil_iff]
        intro j hj
        rw [List.mem_range'_1] at hj
        rw [bit256 hS (by omega)]; simp
      rw [z2, List.append_nil]
      have := List.length_filter_le (fun j => S.testBit j) (List.range' 0 8)
      rw [List.length_range'] at this; exact this
    omega
  | g+1, S, kk, hg, hS, hinv, hno, hkk => by
    have hh : sHas S (j : Int) = some (S.testBit j) := by unfold sHas; rw [if_pos (by omega), Int.toNat_natCast]
    rw [brambleweir_book_Book_Far_L1_s, hh, Option.bind_some]
    have hml : (memb S).length ≤ 16 := by unfold memb; have := List.length_filter_le (fun i => S.testBit i) (List.range 16); rwa [List.length_range] at this
    by_cases c : S.testBit j = true
    · have hc := (hinv j hj).1 c
      have : o.getD j 0 = (kk : Int) := by omega
      rw [if_pos c, this]
    · have he : sEach S = some (memb S) := by unfold sEach; rw [if_pos (by omega)]
      have hx : ∀ p ∈ memb S, p < 8 := fun p hp => by
        have := (mem_memb (by omega)).1 hp
        rcases Nat.lt_or_ge p 8 with q | q
        · exact q
        · rw [bit256 hS q] at this; cases this
      obtain ⟨R, r1, r2, r3⟩ := bf_L2 h 300 (memb S) S hx hS
      rw [if_neg c, he, Option.bind_some, r1, Option.bind_some]
      have hR : ∀ q, q < 8 → (R.testBit q = true ↔ 0 ≤ o.getD q 0 ∧ o.getD q 0 ≤ ((kk + 1 : Nat) : Int)) := fun q hq => by
        rw [r3]
        constructor
        · rintro (q1 | ⟨p, p1, p2⟩)
          · have := (hinv q hq).1 q1; omega
          · have hp8 := hx p p1
            have := (hinv p hp8).1 ((mem_memb (by omega)).1 p1)
            have := hf.step p q hp8 this.1 p2
            omega
        · rintro ⟨q1, q2⟩
          by_cases e : o.getD q 0 ≤ (kk : Int)
          · exact .inl ((hinv q hq).2 ⟨q1, e⟩)
          · rcases hf.down q hq q1 with e2 | ⟨p, p1, p2, p3, p4⟩
            · subst e2; have := hf.start; omega
            · exact .inr ⟨p, (mem_memb (by omega)).2 ((hinv p p1).2 ⟨p3, by omega⟩), p2⟩
      by_cases e : R = S
      · subst e
        rw [if_pos (by rw [beq_iff_eq])]
        have hall : ∀ n : Nat, ∀ q, q < 8 → ¬ (o.getD q 0 = ((kk + 1 + n : Nat) : Int)) := by
          intro n
          induction n with
          | zero =>
            intro q hq hqe
            have h1 := (hR q hq).2 ⟨by omega, by omega⟩
            have := (hinv q hq).1 h1
            omega
          | succ n ih =>
            intro q hq hqe
            rcases hf.down q hq (by omega) with e2 | ⟨p, p1, p2, p3, p4⟩
            · subst e2; have := hf.start; omega
            · exact ih p p1 (by omega)
        have hneg : o.getD j 0 = -1 := by
          have hlow := hf.low j hj
          apply Classical.byContradiction
          intro hne
          have h0 : 0 ≤ o.getD j 0 := by omega
          have hnk : ¬ o.getD j 0 ≤ (kk : Int) := fun q => c ((hinv j hj).2 ⟨h0, q⟩)
          exact hall (o.getD j 0 - (kk + 1)).toNat j hj (by omega)
        rw [hneg]
      · rw [if_neg (by rw [beq_iff_eq]; exact e), w64n (by omega)]
        have hgrow : (memb S).length + 1 ≤ (memb R).length := by
          have : ∃ q, R.testBit q = true ∧ S.testBit q = false := by
            apply Classical.byContradiction
            intro hn
            refine e (Nat.eq_of_testBit_eq fun q => ?_)
            rw [Bool.eq_iff_iff]
            constructor
            · intro hq
              cases e3 : S.testBit q
              · exact absurd ⟨q, hq, e3⟩ hn
              · rfl
            · intro hq; exact (r3 q).2 (.inl hq)
          obtain ⟨q, q1, q2⟩ := this
          exact memb_grow (by omega) (fun x hx => (r3 x).2 (.inl hx)) q2 q1
        refine bf_L1 h hi hj hf g R (kk + 1) (by omega) r2 hR (fun hq => ?_) (by omega)
        exact c ((hinv j hj).2 ⟨hq.1, by omega⟩)
end Go.Proofs.YtekfgkeimlidhaaGreatDoor
