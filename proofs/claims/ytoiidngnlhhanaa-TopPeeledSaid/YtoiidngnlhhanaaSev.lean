import Derived.Test.YtoiidngnlhhanaaSlc
import Derived.Test.YtoiidngnlhhanaaEv2
/- what the models of the library's functions on rows come to -/
set_option linter.all false
set_option maxRecDepth 100000
namespace Go.Proofs.Ytoiidngnlhhanaa
open Go.RowKit Pl
theorem slIndex_L1 (l : List Int) (x : Int) (hl : l.length < 9223372036854775807) : ∀ g k, l.length < g + k → k ≤ l.length →
    slices_Index_int_int_L1 300 l x g (k : Int) = some (if x ∈ l.drop k then .inr (((k + (l.drop k).idxOf x : Nat)) : Int) else .inl ())
  | 0, k, h, hk => by omega
  | g+1, k, h, hk => by
    rw [slices_Index_int_int_L1_s]
    by_cases hlt : k < l.length
    · have hd := List.drop_eq_getElem_cons hlt
      rw [if_pos (by omega), ix_nat hlt, Option.bind_some]
      by_cases e : x = l[k]
      · rw [if_pos (by simpa using e), hd, ← e, if_pos List.mem_cons_self]
        simp
      · rw [if_neg (by simpa using e), w64n (by omega), slIndex_L1 l x hl g (k+1) (by omega) (by omega), hd]
        have : (x ∈ l[k] :: l.drop (k+1)) ↔ x ∈ l.drop (k+1) := by
          rw [List.mem_cons]; exact ⟨fun h => h.resolve_left e, .inr⟩
        by_cases hm : x ∈ l.drop (k+1)
        · have hb : (l[k] == x) = false := beq_eq_false_iff_ne.2 fun h => e h.symm
          rw [if_pos hm, if_pos (this.2 hm), List.idxOf_cons, hb]
          show some (Sum.inr _) = some (Sum.inr _)
          congr 2
          simp only [cond_false]
          omega
        · rw [if_neg hm, if_neg (fun h => hm (this.1 h))]
    · have : k = l.length := by omega
      rw [if_neg (by omega), this, List.drop_length]; rfl
theorem slContains_ev {l : List Int} (x : Int) (hl : l.length < 300) : slices_Contains_int_int 300 l x = some (decide (x ∈ l)) := by
  unfold slices_Contains_int_int slices_Index_int_int
  rw [show slices_Index_int_int_L1 300 l x 300 0 = _ from slIndex_L1 l x (by omega) 300 0 (by omega) (by omega), List.drop_zero]
  by_cases h : x ∈ l
  · rw [if_pos h, decide_eq_true h, Option.bind_some, Option.bind_some, if_pos (by omega)]; rfl
  · rw [if_neg h, decide_eq_false h, Option.bind_some, Option.bind_some, if_neg (by omega)]; rfl
theorem slIdxF_L1 (l : List Int) (p : Int → Option Bool) (q : Int → Bool) (hp : ∀ x ∈ l, p x = some (q x)) (hl : l.length < 9223372036854775807) : ∀ g k, l.length < g + k → k ≤ l.length →
    slices_IndexFunc_int_int_L1 300 l p g (k : Int) = some (if (l.drop k).any q then .inr (((k + (l.drop k).findIdx q : Nat)) : Int) else .inl ())
  | 0, k, h, hk => by omega
  | g+1, k, h, hk => by
    rw [slices_IndexFunc_int_int_L1_s]
    by_cases hlt : k < l.length
    · have hd := List.drop_eq_getElem_cons hlt
      rw [if_pos (by omega), ix_nat hlt, Option.bind_some, hp _ (List.getElem_mem hlt), Option.bind_some, hd, List.any_cons, List.findIdx_cons]
      cases e : q l[k]
      · rw [if_neg (by decide), w64n (by omega), slIdxF_L1 l p q hp hl g (k+1) (by omega) (by omega), Bool.false_or]
        by_cases hm : (l.drop (k+1)).any q = true
        · rw [if_pos hm, if_pos hm]
          show some (Sum.inr _) = some (Sum.inr _)
          congr 2
          simp only [cond_false]
          omega
        · rw [if_neg hm, if_neg hm]
      · rw [if_pos rfl, Bool.true_or, if_pos rfl]; simp
    · have : k = l.length := by omega
      rw [if_neg (by omega), this, List.drop_length]; rfl
theorem slIdxF_ev {l : List Int} {p : Int → Option Bool} {q : Int → Bool} (hp : ∀ x ∈ l, p x = some (q x)) (hl : l.length < 300) : slices_IndexFunc_int_int 300 l p = some (if l.any q then ((l.findIdx q : Nat) : Int) else -1) := by
  unfold slices_IndexFunc_int_int
  rw [show slices_IndexFunc_int_int_L1 300 l p 300 0 = _ from slIdxF_L1 l p q hp (by omega) 300 0 (by omega) (by omega), List.drop_zero]
  by_cases h : l.any q = true
  · rw [if_pos h, if_pos h, Option.bind_some]; simp
  · rw [if_neg h, if_neg h, Option.bind_some]
theorem slConF_ev {l : List Int} {p : Int → Option Bool} {q : Int → Bool} (hp : ∀ x ∈ l, p x = some (q x)) (hl : l.length < 300) : slices_ContainsFunc_int_int 300 l p = some (l.any q) := by
  unfold slices_ContainsFunc_int_int
  rw [slIdxF_ev hp hl, Option.bind_some]
  by_cases h : l.any q = true
  · rw [if_pos h, if_pos (by omega), h]; rfl
  · rw [if_neg h, if_neg (by omega), Bool.eq_false_iff.2 h]; rfl
end Go.Proofs.Ytoiidngnlhhanaa
