import Derived.Test.YtoiidngnlhhanaaApart1
set_option linter.all false
set_option maxRecDepth 100000
namespace Go.Proofs.Ytoiidngnlhhanaa
open Go.RowKit Go.Shelf Pl
attribute [local go_sem] Oper.semAt_some
def apTo (bes : List Nat) (k : Nat) : Nat → List Nat
  | 0 => bes
  | j+1 => (apTo bes k j).set j (ndiff (ndiff (2 ^ k - 1) (2 ^ j)) (bes.getD j 0))
theorem apTo_len (bes : List Nat) (k : Nat) : ∀ j, (apTo bes k j).length = bes.length
  | 0 => rfl
  | j+1 => by simp [apTo, apTo_len bes k j]
theorem apTo_later (bes : List Nat) (k : Nat) : ∀ j i, j ≤ i → (apTo bes k j)[i]? = bes[i]?
  | 0, i, _ => rfl
  | j+1, i, h => by
    rw [apTo, List.getElem?_set_ne (by omega), apTo_later bes k j i (by omega)]
theorem apTo_done (bes : List Nat) (k : Nat) : ∀ j i, i < j → j ≤ bes.length → (apTo bes k j)[i]? = some (ndiff (ndiff (2 ^ k - 1) (2 ^ i)) (bes.getD i 0))
  | 0, i, h, _ => by omega
  | j+1, i, h, hj => by
    rw [apTo]
    by_cases e : j = i
    · subst e; rw [List.getElem?_set_self (by rw [apTo_len]; omega)]
    · rw [List.getElem?_set_ne e, apTo_done bes k j i (by omega) (by omega)]
/-- the lines that are not there -/
def othersM (bes : List Nat) (k : Nat) : List Nat := apTo bes k k
theorem others_bit (bes : List Nat) (k : Nat) (hl : bes.length = k) (i j : Nat) (hi : i < k) : ((othersM bes k).getD i 0).testBit j = (decide (j < k) && !decide (i = j) && !((bes.getD i 0).testBit j)) := by
  have h := apTo_done bes k k i hi (by omega)
  unfold othersM
  have e : (apTo bes k k).getD i 0 = ndiff (ndiff (2 ^ k - 1) (2 ^ i)) (bes.getD i 0) := by simp [List.getD, h]
  rw [e, ndiff_testBit, ndiff_testBit, Nat.testBit_two_pow_sub_one, Nat.testBit_two_pow]
theorem others_out (bes : List Nat) (k : Nat) (hl : bes.length = k) (i : Nat) (hi : ¬ i < k) : (othersM bes k).getD i 0 = 0 := by
  have : (othersM bes k)[i]? = none := by rw [List.getElem?_eq_none_iff]; unfold othersM; rw [apTo_len]; omega
  simp [List.getD, this]
theorem others_loop (bes : List Nat) (k : Nat) (hl : bes.length = k) : NoLoop (othersM bes k) := by
  intro i
  by_cases hi : i < k
  · rw [others_bit bes k hl i i hi]; simp
  · rw [others_out bes k hl i hi, Nat.zero_testBit]
theorem others_lt (bes : List Nat) (k : Nat) (hl : bes.length = k) (hk : k ≤ 8) : ∀ m ∈ othersM bes k, m < 65536 := by
  intro m hm
  obtain ⟨i, hi, rfl⟩ := List.mem_iff_getElem.1 hm
  have hil : i < k := by unfold othersM at hi; rw [apTo_len] at hi; omega
  have h := apTo_done bes k k i hil (by omega)
  have e : (othersM bes k)[i] = ndiff (ndiff (2 ^ k - 1) (2 ^ i)) (bes.getD i 0) := by
    have h2 : (othersM bes k)[i]? = some (othersM bes k)[i] := List.getElem?_eq_getElem hi
    unfold othersM at h2 ⊢; rw [h] at h2; exact (Option.some.inj h2).symm
  rw [e]
  have h1 := ndiff_le (ndiff (2 ^ k - 1) (2 ^ i)) (bes.getD i 0)
  have h2 := ndiff_le (2 ^ k - 1) (2 ^ i)
  have h3 := Nat.pow_le_pow_right (n := 2) (by omega) hk
  omega
def apartsM (k : Nat) (l : List (Int × Int)) : List Nat := wholeM (othersM (besM k l) k) 8 0 (2 ^ k - 1) 0
end Go.Proofs.Ytoiidngnlhhanaa
