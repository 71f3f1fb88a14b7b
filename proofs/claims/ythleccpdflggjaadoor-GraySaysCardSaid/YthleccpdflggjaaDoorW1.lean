import Derived.Test.YthleccpdflggjaaDoorRows
import Derived.Test.YthleccpdflggjaaDoorWords
import Derived.Test.YthleccpdflggjaaDoorG
namespace Go.Proofs.YthleccpdflggjaaDoor
open Go.RowKit Pl
set_option maxHeartbeats 400000 in
theorem within_any (n a b : Int) (w : World) :
    Calls Tryd.prog 13 #[.int .i64 n, .int .i64 a, .int .i64 b] w fun e w' => e = .returned (.bool (decide (a ≤ n ∧ n ≤ b))) ∧ w = w' := by
  go_enter Tryd.func13, Tryd.ntmps13
  go_wp2
  all_goals
    go_ret
    refine ⟨?_, rfl⟩
    congr 2
    simp; omega
theorem within_yes (n a b : Int) (w : World) (h : a ≤ n ∧ n ≤ b) :
    Calls Tryd.prog 13 #[.int .i64 n, .int .i64 a, .int .i64 b] w fun e w' => e = .returned (.bool true) ∧ w = w' := 
  (within_any n a b w).mono fun e w' ⟨he, hw⟩ => ⟨by rw [he, decide_eq_true h], hw⟩
theorem within_no (n a b : Int) (w : World) (h : ¬ (a ≤ n ∧ n ≤ b)) :
    Calls Tryd.prog 13 #[.int .i64 n, .int .i64 a, .int .i64 b] w fun e w' => e = .returned (.bool false) ∧ w = w' := 
  (within_any n a b w).mono fun e w' ⟨he, hw⟩ => ⟨by rw [he, decide_eq_false h], hw⟩
set_option maxHeartbeats 400000 in
theorem in_any (n a b : Int) (w : World) :
    Calls Tryd.prog 4 #[.int .i64 n, .int .i64 a, .int .i64 b] w fun e w' => e = .returned (.bool (decide (a ≤ n ∧ n ≤ b))) ∧ w = w' := by
  go_enter Tryd.func4, Tryd.ntmps4
  go_wp2
  all_goals
    go_ret
    refine ⟨?_, rfl⟩
    congr 2
    simp; omega
set_option maxHeartbeats 400000 in
theorem least_any (a b : Int) (w : World) :
    Calls Tryd.prog 6 #[.int .i64 a, .int .i64 b] w fun e w' => e = .returned (.int .i64 (min a b)) ∧ w = w' := by
  go_enter Tryd.func6, Tryd.ntmps6
  go_wp2
  all_goals
    go_ret
    exact ⟨ret_int (by omega), rfl⟩
theorem pow_le (k : Nat) (h : k ≤ 8) : (2:Int)^k ≤ 256 ∧ 1 ≤ (2:Int)^k := by
  have : k = 0 ∨ k = 1 ∨ k = 2 ∨ k = 3 ∨ k = 4 ∨ k = 5 ∨ k = 6 ∨ k = 7 ∨ k = 8 := by omega
  rcases this with rfl | rfl | rfl | rfl | rfl | rfl | rfl | rfl | rfl <;> decide
set_option maxHeartbeats 400000 in
theorem power_any (n : Int) (w : World) (h8 : n ≤ 8) :
    Calls Tryd.prog 5 #[.int .i64 n] w fun e w' => e = .returned (.int .i64 (2 ^ n.toNat)) ∧ w = w' := by
  go_enter Tryd.func5, Tryd.ntmps5
  go_wp2
  go_loop [3, 4] (fun p i => ∃ k : Nat, k ≤ n.toNat ∧ i = .int .i64 k ∧ p = .int .i64 (2 ^ k)) (fun _ i => n.toNat - (intOf i).toNat)
  case atStart => exact ⟨0, Nat.zero_le _, rfl, rfl⟩
  case round =>
    obtain ⟨k, hk, rfl, rfl⟩ := hrel
    have hp := pow_le k (by omega)
    obtain ⟨hp1, hp2⟩ := hp
    have HE := Lib.hid (Int.pow_succ 2 k)
    generalize hq : (2:Int)^k = q at *
    by_cases hlt : (k : Int) < n
    · have HQ := Lib.hid hq; clear hq
      go_wp2
      go_round
      case rel => exact ⟨k + 1, by omega, by go_num, by rw [HE.out]; go_num⟩
      case measure => simp [intOf]; omega
    · have HQ := Lib.hid hq; clear hq
      go_wp2
      go_ret
      exact ⟨ret_int (by rw [← HQ.out]; congr 1; omega), rfl⟩
set_option maxHeartbeats 400000 in
theorem member_any (s : Int) (i : Int) (w : World) (hs : 0 ≤ s) (hsb : s ≤ 1000000000) (hi : 0 ≤ i) (h8 : i ≤ 64) :
    Calls Tryd.prog 8 #[.int .i64 s, .int .i64 i] w fun e w' => e = .returned (.bool (mem s i.toNat)) ∧ w = w' := by
  go_enter Tryd.func8, Tryd.ntmps8
  go_wp2
  go_loop [0, 5] (fun p j => ∃ k : Nat, k ≤ i.toNat ∧ j = .int .i64 k ∧ p = .int .i64 (s / 2 ^ k)) (fun _ j => i.toNat - (intOf j).toNat)
  case atStart => exact ⟨0, Nat.zero_le _, rfl, by simp⟩
  case round =>
    obtain ⟨k, hk, rfl, rfl⟩ := hrel
    have hp : 0 ≤ s / 2 ^ k := Int.ediv_nonneg hs (Int.pow_nonneg (by omega))
    have hp2 : s / 2 ^ k ≤ 1000000000 := Int.le_trans (Int.ediv_le_self _ hs) hsb
    have HE : Hid (s / 2 ^ (k+1) = s / 2 ^ k / 2) := by rw [Int.pow_succ, Int.ediv_ediv_of_nonneg (Int.pow_nonneg (by omega))]; rfl
    generalize hq : s / 2 ^ k = q at *
    have HQ := Lib.hid hq; clear hq
    by_cases hlt : (k : Int) < i
    · go_wp2
      go_round
      case rel => exact ⟨k + 1, by omega, by go_num, by rw [HE.out]⟩
      case measure => simp [intOf]; omega
    · go_wp2
      go_ret
      refine ⟨ret_bool ?_, rfl⟩
      have : k = i.toNat := by omega
      subst this
      unfold mem; rw [HQ.out]
end Go.Proofs.YthleccpdflggjaaDoor
