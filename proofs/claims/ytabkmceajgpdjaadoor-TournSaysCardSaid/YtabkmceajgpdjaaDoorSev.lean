import Derived.Test.YtabkmceajgpdjaaDoorSlc
import Derived.Test.YtabkmceajgpdjaaDoorEv2
/- what the models of the library's functions on rows come to -/
set_option linter.all false
set_option maxRecDepth 100000
namespace Go.Proofs.YtabkmceajgpdjaaDoor
open Go.RowKit Pl
theorem slIdxF_L1 (l : List Int) (p : Int → Option Bool) (q : Int → Bool) (hp : ∀ x ∈ l, p x = some (q x)) (hl : l.length < 9223372036854775807) : ∀ g k, l.length < g + k → k ≤ l.length →
    slices_IndexFunc_int_int_L1 300 l p g (k : Int) = some (if (l.drop k).any q then .inr (((k + (l.drop k).findIdx q : Nat)) : Int) else .inl ())
  | 0, k, h, hk => by omega
  | g+1, k, h, hk => by
    rw [slices_IndexFunc_int_int_L1_s]
    by_cases hlt : k < l.length
    · have hd := List.drop_eq_getElem_cons hlt
      rw [if_pos (by omega), ix_nat hlt, Option.bind_some, hp _ (List.getElem_mem hlt), Option.bind_some, hd, List.any_cons, List.findIdx_cons]
      cases e : q l[k]
      · rw [if_neg (by decide), w64n (by omega), slIdxF_L1 l p q hp hl g (k+1) (by omega) (by omega), Bool.false_or]
        by_cases hm : (l.drop (k+1)).any q = true
        · rw [if_pos hm, if_pos hm]
          show some (Sum.inr _) = some (Sum.inr _)
          congr 2
          simp only [cond_false]
          omega
        · rw [if_neg hm, if_neg hm]
      · rw [if_pos rfl, Bool.true_or, if_pos rfl]; simp
    · have : k = l.length := by omega
      rw [if_neg (by omega), this, List.drop_length]; rfl
theorem slIdxF_ev {l : List Int} {p : Int → Option Bool} {q : Int → Bool} (hp : ∀ x ∈ l, p x = some (q x)) (hl : l.length < 300) : slices_IndexFunc_int_int 300 l p = some (if l.any q then ((l.findIdx q : Nat) : Int) else -1) := by
  unfold slices_IndexFunc_int_int
  rw [show slices_IndexFunc_int_int_L1 300 l p 300 0 = _ from slIdxF_L1 l p q hp (by omega) 300 0 (by omega) (by omega), List.drop_zero]
  by_cases h : l.any q = true
  · rw [if_pos h, if_pos h, Option.bind_some]; simp
  · rw [if_neg h, if_neg h, Option.bind_some]
end Go.Proofs.YtabkmceajgpdjaaDoor
