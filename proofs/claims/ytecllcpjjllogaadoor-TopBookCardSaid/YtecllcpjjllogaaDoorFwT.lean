import Derived.Test.YtecllcpjjllogaaDoorGF
import Derived.Test.YtecllcpjjllogaaDoorTree
import Derived.Test.YtecllcpjjllogaaDoorTrEv
/- plain: how far the points are from each other, by Far of the document -/
set_option linter.all false
set_option maxRecDepth 100000
namespace Go.Proofs.YtecllcpjjllogaaDoor
open Go.RowKit Pl
def ent (M : List (List Int)) (a b : Nat) : Int := (M.getD a []).getD b 0
structure Sh (k : Nat) (M : List (List Int)) : Prop where
  len : M.length = k
  row : ∀ a, a < k → (M.getD a []).length = k
theorem Sh.ix {k : Nat} {M : List (List Int)} (h : Sh k M) {a : Nat} (ha : a < k) : ix M (a : Int) = some (M.getD a []) := ix_at [] (by rw [h.len]; exact ha)
theorem Sh.ix2 {k : Nat} {M : List (List Int)} (h : Sh k M) {a b : Nat} (ha : a < k) (hb : b < k) : Proofs.YtecllcpjjllogaaDoor.ix (M.getD a []) (b : Int) = some (ent M a b) := ix_at 0 (by rw [h.row a ha]; exact hb)
theorem ent_set {k : Nat} {M : List (List Int)} (h : Sh k M) {a b : Nat} (ha : a < k) (hb : b < k) (x : Int) : Sh k (M.set a ((M.getD a []).set b x)) ∧ ∀ a' b', ent (M.set a ((M.getD a []).set b x)) a' b' = if a' = a ∧ b' = b then x else ent M a' b' := by
  have hM : a < M.length := by rw [h.len]; exact ha
  have hg : ∀ a', (M.set a ((M.getD a []).set b x)).getD a' [] = if a' = a then (M.getD a []).set b x else M.getD a' [] := fun a' => getD_set _ _ _ _ _ hM
  refine ⟨⟨by rw [List.length_set]; exact h.len, fun a' ha' => ?_⟩, fun a' b' => ?_⟩
  · rw [hg]; split
    · rw [List.length_set]; exact h.row a ha
    · exact h.row a' ha'
  · unfold ent
    rw [hg]
    by_cases e : a' = a
    · subst e
      rw [if_pos rfl, getD_set _ _ _ _ _ (by rw [h.row a' ha]; exact hb)]
      by_cases e2 : b' = b
      · rw [if_pos e2, if_pos ⟨rfl, e2⟩]
      · rw [if_neg e2, if_neg (fun c => e2 c.2)]
    · rw [if_neg e, if_neg (fun c => e c.1)]
/-- over c as well -/
def over (f : Nat → Nat → Int) (c a b : Nat) : Int := if 0 ≤ f a c ∧ 0 ≤ f c b ∧ (f a b < 0 ∨ f a c + f c b < f a b) then f a c + f c b else f a b
theorem over_c {f : Nat → Nat → Int} {c : Nat} (hc : f c c = 0) (a : Nat) : over f c a c = f a c := by unfold over; rw [hc]; split <;> omega
theorem over_r {f : Nat → Nat → Int} {c : Nat} (hc : f c c = 0) (b : Nat) : over f c c b = f c b := by unfold over; rw [hc]; split <;> omega
end Go.Proofs.YtecllcpjjllogaaDoor
/- plain: the document's Tree, Way -/
set_option linter.all false
set_option maxRecDepth 100000
namespace Go.Proofs.YtecllcpjjllogaaDoor
open Go.RowKit Pl
end Go.Proofs.YtecllcpjjllogaaDoor
