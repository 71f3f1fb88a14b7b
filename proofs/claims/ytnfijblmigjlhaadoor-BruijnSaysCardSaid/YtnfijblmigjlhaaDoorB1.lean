import Derived.Test.YtnfijblmigjlhaaDoorC
import Derived.Test.YtnfijblmigjlhaaDoorOwn
import Derived.Test.YtnfijblmigjlhaaDoorP
import Derived.Test.YtnfijblmigjlhaaDoorL1
set_option linter.all false
set_option maxRecDepth 100000
namespace Go.Proofs.YtnfijblmigjlhaaDoor
open Go.RowKit Pl
theorem pow_bd (s k : Nat) (hs : 1 ≤ s) (hs3 : s ≤ 3) (hk : k ≤ 6) : 1 ≤ s ^ k ∧ s ^ k ≤ 729 := by
  have h1 : s ^ k ≤ 3 ^ k := Nat.pow_le_pow_left hs3 k
  have h2 : 3 ^ k ≤ 3 ^ 6 := Nat.pow_le_pow_right (by omega) hk
  have h3 : 0 < s ^ k := Nat.pow_pos (by omega)
  omega
set_option maxHeartbeats 400000 in
theorem size_any (s l : Nat) (w : World) (hs : 1 ≤ s) (hs3 : s ≤ 3) (hl : l ≤ 6) :
    Calls Tryd.prog 15 #[.int .i64 s, .int .i64 l] w fun e w' => e = .returned (.int .i64 ((s ^ l : Nat) : Int)) ∧ w = w' := by
  go_enter Tryd.func15, Tryd.ntmps15
  go_wp2
  go_loop [5, 7] (fun p i => ∃ k : Nat, k ≤ l ∧ i = .int .i64 k ∧ p = .int .i64 ((s ^ k : Nat) : Int)) (fun _ i => l - (intOf i).toNat)
  case atStart => exact ⟨0, Nat.zero_le _, rfl, rfl⟩
  case round =>
    obtain ⟨k, hk, rfl, rfl⟩ := hrel
    obtain ⟨p1, p2⟩ := pow_bd s k hs hs3 (by omega)
    have HE := Lib.hid (Nat.pow_succ s k)
    generalize hq : s ^ k = q at *
    have HQ := Lib.hid hq; clear hq
    have hm : (q : Int) * s ≤ 729 * 3 := Int.mul_le_mul (by omega) (by omega) (by omega) (by omega)
    have hm0 : 0 ≤ (q : Int) * s := Int.mul_nonneg (by omega) (by omega)
    by_cases hlt : k < l
    · go_wp2
      go_round
      case rel => exact ⟨k + 1, by omega, by go_num, by rw [HE.out]; go_num⟩
      case measure => simp [intOf] <;> omega
    · obtain rfl : k = l := by omega
      go_wp2
      go_ret
      exact ⟨ret_int (by rw [← HQ.out]; simp), rfl⟩
/-- what is wrong with signs and words -/
def errB (s l : Int) : Int := if 1 ≤ s ∧ s ≤ 3 ∧ 1 ≤ l ∧ l ≤ 6 then (if s.toNat ^ l.toNat > 100 then 4 else 0) else 1
set_option maxHeartbeats 400000 in
theorem bref_any (s l : Int) (w : World) :
    Calls Tryd.prog 4 #[.int .i64 s, .int .i64 l] w fun e w' => e = .returned (.int .i64 (errB s l)) ∧ w = w' := by
  by_cases h : 1 ≤ s ∧ s ≤ 3 ∧ 1 ≤ l ∧ l ≤ 6
  · have HF : Hid (errB s l = if s.toNat ^ l.toNat > 100 then 4 else 0) := by show _ = _; unfold errB; rw [if_pos h]
    obtain ⟨h1, h2, h3, h4⟩ := h
    have d1 := Lib.hid (show decide ((1:Int) ≤ s ∧ s ≤ 3) = true by simp; omega)
    have d2 := Lib.hid (show decide ((1:Int) ≤ l ∧ l ≤ 6) = true by simp; omega)
    obtain ⟨s, rfl⟩ := Int.eq_ofNat_of_zero_le (show 0 ≤ s by omega)
    obtain ⟨l, rfl⟩ := Int.eq_ofNat_of_zero_le (show 0 ≤ l by omega)
    go_enter Tryd.func4, Tryd.ntmps4
    go_wp2_with fail
    refine (inr3_dec d1.out _).mono ?_; rintro e w' ⟨rfl, rfl⟩
    go_wp2_with fail
    refine (inr3_dec d2.out _).mono ?_; rintro e w' ⟨rfl, rfl⟩
    go_wp2_with fail
    go_loop [5, 6] (fun p i => ∃ k : Nat, k ≤ l ∧ i = .int .i64 k ∧ p = .int .i64 ((s ^ k : Nat) : Int)) (fun _ i => l - (intOf i).toNat)
    case atStart => exact ⟨0, Nat.zero_le _, rfl, rfl⟩
    case round =>
      obtain ⟨k, hk, rfl, rfl⟩ := hrel
      obtain ⟨p1, p2⟩ := pow_bd s k (by omega) (by omega) (by omega)
      have HE := Lib.hid (Nat.pow_succ s k)
      generalize hq : s ^ k = q at *
      have HQ := Lib.hid hq; clear hq
      have hm : (q : Int) * s ≤ 729 * 3 := Int.mul_le_mul (by omega) (by omega) (by omega) (by omega)
      have hm0 : 0 ≤ (q : Int) * s := Int.mul_nonneg (by omega) (by omega)
      by_cases hlt : k < l
      · go_wp2
        go_round
        case rel => exact ⟨k + 1, by omega, by go_num, by rw [HE.out]; go_num⟩
        case measure => simp [intOf] <;> omega
      · obtain rfl : k = l := by omega
        by_cases h100 : 100 < q
        · go_wp2
          go_ret
          exact ⟨ret_int (by rw [HF.out]; exact (if_pos (by simp only [Int.toNat_natCast]; have := HQ.out; omega)).symm), rfl⟩
        · go_wp2
          go_ret
          exact ⟨ret_int (by rw [HF.out]; exact (if_neg (by simp only [Int.toNat_natCast]; have := HQ.out; omega)).symm), rfl⟩
  · have HF : Hid (errB s l = 1) := by show _ = _; unfold errB; rw [if_neg h]
    by_cases h1 : 1 ≤ s ∧ s ≤ 3
    · have d1 := Lib.hid (show decide ((1:Int) ≤ s ∧ s ≤ 3) = true by simp; omega)
      have d2 := Lib.hid (show decide ((1:Int) ≤ l ∧ l ≤ 6) = false by simp; omega)
      clear h h1
      go_enter Tryd.func4, Tryd.ntmps4
      go_wp2_with fail
      refine (inr3_dec d1.out _).mono ?_; rintro e w' ⟨rfl, rfl⟩
      go_wp2_with fail
      refine (inr3_dec d2.out _).mono ?_; rintro e w' ⟨rfl, rfl⟩
      go_wp2_with fail
      go_ret
      exact ⟨ret_int (by rw [HF.out]), rfl⟩
    · have d1 := Lib.hid (show decide ((1:Int) ≤ s ∧ s ≤ 3) = false by simp; omega)
      clear h h1
      go_enter Tryd.func4, Tryd.ntmps4
      go_wp2_with fail
      refine (inr3_dec d1.out _).mono ?_; rintro e w' ⟨rfl, rfl⟩
      go_wp2_with fail
      go_ret
      exact ⟨ret_int (by rw [HF.out]), rfl⟩
set_option maxHeartbeats 400000 in
theorem check_any (s l : Int) (w : World) :
    Calls Tryd.prog 6 #[.int .i64 s, .int .i64 l] w fun e w' => e = .returned (errV 37 (errB s l)) ∧ w = w' := by
  by_cases h : 1 ≤ s ∧ s ≤ 3 ∧ 1 ≤ l ∧ l ≤ 6
  · have HF : Hid (errB s l = if s.toNat ^ l.toNat > 100 then 4 else 0) := by show _ = _; unfold errB; rw [if_pos h]
    obtain ⟨h1, h2, h3, h4⟩ := h
    have d1 := Lib.hid (show decide ((1:Int) ≤ s ∧ s ≤ 3) = true by simp; omega)
    have d2 := Lib.hid (show decide ((1:Int) ≤ l ∧ l ≤ 6) = true by simp; omega)
    obtain ⟨s, rfl⟩ := Int.eq_ofNat_of_zero_le (show 0 ≤ s by omega)
    obtain ⟨l, rfl⟩ := Int.eq_ofNat_of_zero_le (show 0 ≤ l by omega)
    have hsz := fun w => Lib.hid (size_any s l w (by omega) (by omega) (by omega))
    simp only [Int.toNat_natCast] at HF
    by_cases h100 : 100 < s ^ l
    · have HF2 : Hid (errB s l = 4) := by show _ = _; rw [HF.out, if_pos h100]
      clear HF
      generalize s ^ l = q at *
      go_enter Tryd.func6, Tryd.ntmps6
      go_wp2_with fail
      refine (within_dec d1.out _).mono ?_; rintro e w' ⟨rfl, rfl⟩
      go_wp2_with fail
      refine (within_dec d2.out _).mono ?_; rintro e w' ⟨rfl, rfl⟩
      go_wp2_with fail
      refine (hsz _).out.mono ?_; rintro e w' ⟨rfl, rfl⟩
      go_wp2_with fail
      go_ret
      exact ⟨ret_v (by rw [HF2.out]; rfl), rfl⟩
    · have HF2 : Hid (errB s l = 0) := by show _ = _; rw [HF.out, if_neg h100]
      clear HF
      generalize s ^ l = q at *
      go_enter Tryd.func6, Tryd.ntmps6
      go_wp2_with fail
      refine (within_dec d1.out _).mono ?_; rintro e w' ⟨rfl, rfl⟩
      go_wp2_with fail
      refine (within_dec d2.out _).mono ?_; rintro e w' ⟨rfl, rfl⟩
      go_wp2_with fail
      refine (hsz _).out.mono ?_; rintro e w' ⟨rfl, rfl⟩
      go_wp2_with fail
      go_ret
      exact ⟨ret_v (by rw [HF2.out]; rfl), rfl⟩
  · have HF : Hid (errB s l = 1) := by show _ = _; unfold errB; rw [if_neg h]
    by_cases h1 : 1 ≤ s ∧ s ≤ 3
    · have d1 := Lib.hid (show decide ((1:Int) ≤ s ∧ s ≤ 3) = true by simp; omega)
      have d2 := Lib.hid (show decide ((1:Int) ≤ l ∧ l ≤ 6) = false by simp; omega)
      clear h h1
      go_enter Tryd.func6, Tryd.ntmps6
      go_wp2_with fail
      refine (within_dec d1.out _).mono ?_; rintro e w' ⟨rfl, rfl⟩
      go_wp2_with fail
      refine (within_dec d2.out _).mono ?_; rintro e w' ⟨rfl, rfl⟩
      go_wp2_with fail
      go_ret
      exact ⟨ret_v (by rw [HF.out]; rfl), rfl⟩
    · have d1 := Lib.hid (show decide ((1:Int) ≤ s ∧ s ≤ 3) = false by simp; omega)
      clear h h1
      go_enter Tryd.func6, Tryd.ntmps6
      go_wp2_with fail
      refine (within_dec d1.out _).mono ?_; rintro e w' ⟨rfl, rfl⟩
      go_wp2_with fail
      go_ret
      exact ⟨ret_v (by rw [HF.out]; rfl), rfl⟩
end Go.Proofs.YtnfijblmigjlhaaDoor
