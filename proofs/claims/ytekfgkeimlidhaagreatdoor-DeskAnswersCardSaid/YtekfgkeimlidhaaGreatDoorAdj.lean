import Derived.Test.YtekfgkeimlidhaaGreatDoorMask
import Derived.Test.YtekfgkeimlidhaaGreatDoorL0
/- whom the rows of sets name -/
set_option linter.all false
set_option maxRecDepth 100000
namespace Go.Proofs.YtekfgkeimlidhaaGreatDoor.Pl
theorem setOne_len (s : List Nat) (a b : Nat) : (setOne s a b).length = s.length := by simp [setOne]
theorem setOne_bit (s : List Nat) (a b i j : Nat) (ha : a < s.length) : ((setOne s a b).getD i 0).testBit j = ((s.getD i 0).testBit j || (decide (a = i) && decide (b = j))) := by
  unfold setOne
  by_cases h : a = i
  · subst h
    have e : (s.set a (s.getD a 0 ||| 2 ^ b)).getD a 0 = s.getD a 0 ||| 2 ^ b := by
      simp [List.getD, ha]
    rw [e, Nat.testBit_or, Nat.testBit_two_pow]
    simp
  · have e : (s.set a (s.getD a 0 ||| 2 ^ b)).getD i 0 = s.getD i 0 := by
      simp [List.getD, List.getElem?_set, h]
    rw [e]; simp [h]
theorem fold_bit (f g : Int × Int → Nat) : ∀ (l : List (Int × Int)) (s : List Nat), (∀ p ∈ l, f p < s.length) → ∀ i j, ((l.foldl (fun s p => setOne s (f p) (g p)) s).getD i 0).testBit j = ((s.getD i 0).testBit j || l.any (fun p => decide (f p = i) && decide (g p = j)))
  | [], s, _, i, j => by simp
  | p :: l, s, h, i, j => by
    rw [List.foldl_cons, fold_bit f g l _ (fun q hq => by rw [setOne_len]; exact h q (List.mem_cons_of_mem _ hq)), setOne_bit _ _ _ _ _ (h p List.mem_cons_self), List.any_cons, Bool.or_assoc]
theorem besM_bit {n : Nat} {l : List (Int × Int)} (h : InL n l) (i j : Nat) :
    ((besM n l).getD i 0).testBit j = (l.any (fun p => decide (p.1.toNat = i) && decide (p.2.toNat = j)) || l.any (fun p => decide (p.2.toNat = i) && decide (p.1.toNat = j))) := by
  unfold besM besTo
  have hl : (outTo n l).length = n := (outTo_row h).1
  rw [fold_bit (fun p => p.2.toNat) (fun p => p.1.toNat) l _ (fun p hp => by rw [hl]; have := h p hp; omega)]
  unfold outTo
  rw [fold_bit (fun p => p.1.toNat) (fun p => p.2.toNat) l _ (fun p hp => by rw [List.length_replicate]; have := h p hp; omega)]
  have e : (List.replicate n 0).getD i 0 = 0 := by
    simp only [List.getD, List.getElem?_replicate]; split <;> rfl
  rw [e]; simp
theorem besM_ne {n : Nat} {l : List (Int × Int)} (h : InL n l) (hne : ∀ p ∈ l, p.1 ≠ p.2) (i : Nat) : ((besM n l).getD i 0).testBit i = false := by
  rw [besM_bit h, Bool.or_eq_false_iff]
  constructor
  · rw [List.any_eq_false]; intro p hp; have := h p hp; have := hne p hp; simp; omega
  · rw [List.any_eq_false]; intro p hp; have := h p hp; have := hne p hp; simp; omega
theorem errLines_zero {n : Int} : ∀ {l : List (Int × Int)}, errLines n l = 0 → ∀ p ∈ l, (0 ≤ p.1 ∧ p.1 < n ∧ 0 ≤ p.2 ∧ p.2 < n) ∧ p.1 ≠ p.2
  | [], _, p, hp => by cases hp
  | q :: l, h, p, hp => by
    unfold errLines at h
    split at h
    · cases h
    · rename_i h1
      split at h
      · cases h
      · rename_i h2
        rcases List.mem_cons.1 hp with rfl | hp
        · exact ⟨by omega, h2⟩
        · exact errLines_zero h p hp
theorem errG_zero {n : Int} {l : List (Int × Int)} (h : errG n l = 0) : ∃ k : Nat, n = k ∧ 1 ≤ k ∧ k ≤ 8 ∧ l.length ≤ 24 ∧ InL k l ∧ ∀ p ∈ l, p.1 ≠ p.2 := by
  unfold errG at h
  split at h
  · cases h
  · rename_i h1
    split at h
    · cases h
    · rename_i h2
      have h3 := errLines_zero h
      refine ⟨n.toNat, by omega, by omega, by omega, by omega, fun p hp => ?_, fun p hp => (h3 p hp).2⟩
      have := (h3 p hp).1
      omega
end Go.Proofs.YtekfgkeimlidhaaGreatDoor.Pl
