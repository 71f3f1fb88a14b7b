import Derived.Test.YthleccpdflggjaaW5
namespace Go.Proofs.Ythleccpdflggjaa
open Go.RowKit Pl
theorem okP_hanoi {n p : Int} (h : okP n p) (hn : 1 ≤ n) : gTurn n.toNat p = if p + 1 = 2 ^ n.toNat then n - 1 else tzf 9 (p + 1) 0 := by
  obtain ⟨a, b, rfl, rfl, ha, hb⟩ := okP_nat h
  have := all9_at hanoi_all ha hb
  have ha0 : (a == 0) = false := by simp; omega
  simpa only [ha0, Bool.false_or, chkHanoi, decide_eq_true_eq, Int.toNat_natCast] using this
set_option maxHeartbeats 4000000 in
theorem hanoi_yes (n p : Int) (w : World) (h : okP n p) (hn : 1 ≤ n) :
    Calls Try.prog 5 #[.int .i64 n, .int .i64 p] w fun e w' => e = .returned (.bool true) ∧ w = w' := by
  have hpw := pow_le n.toNat (by have := h.2.1; omega)
  have H1 := Lib.hid (turn_yes n p w h hn)
  have H4 := Lib.hid (power_any n w h.2.1)
  have HT := Lib.hid (okP_hanoi h hn)
  obtain ⟨h0, h8, hp0, hp1⟩ := h
  generalize hk : gTurn n.toNat p = k at *
  generalize hm : (2:Int) ^ n.toNat = m at *
  have HM := Lib.hid hm; clear hm hk
  obtain ⟨hpw1, hpw2⟩ := hpw
  by_cases hl : p + 1 = m
  · have hlb : (p + 1 == m) = true := by simpa using hl
    have hk : k = n - 1 := by rw [HT.out, if_pos hl]
    subst hk
    have HL := Lib.hid hl; clear hl
    go_enter Try.func5, Try.ntmps5
    go_wp2_with fail
    refine (fact_any _).mono ?_; rintro e w' ⟨rfl, rfl⟩
    go_wp2_with fail
    refine H1.out.mono ?_; rintro e w' ⟨rfl, rfl⟩
    go_wp2_with fail
    refine (in_yes _ _ _ _ (by omega)).mono ?_; rintro e w' ⟨rfl, rfl⟩
    go_wp2_with fail
    refine (in_yes _ _ _ _ (by omega)).mono ?_; rintro e w' ⟨rfl, rfl⟩
    go_wp2_with fail
    refine H4.out.mono ?_; rintro e w' ⟨rfl, rfl⟩
    go_wp2_with fail
    go_ret
    exact ⟨ret_bool (by simp), rfl⟩
  · have hlb : (p + 1 == m) = false := by simpa using hl
    have hk := HT.out
    rw [if_neg hl] at hk
    have HK := Lib.hid hk
    have HL := Lib.hid hl; clear hl hk
    have h512 : p + 1 < 512 := by omega
    go_enter Try.func5, Try.ntmps5
    go_wp2_with fail
    refine (fact_any _).mono ?_; rintro e w' ⟨rfl, rfl⟩
    go_wp2_with fail
    refine H1.out.mono ?_; rintro e w' ⟨rfl, rfl⟩
    go_wp2_with fail
    refine (in_yes _ _ _ _ (by omega)).mono ?_; rintro e w' ⟨rfl, rfl⟩
    go_wp2_with fail
    refine (in_yes _ _ _ _ (by omega)).mono ?_; rintro e w' ⟨rfl, rfl⟩
    go_wp2_with fail
    refine H4.out.mono ?_; rintro e w' ⟨rfl, rfl⟩
    go_wp2_with fail
    go_loop [8, 9] (fun nx c => ∃ (j : Nat) (m q : Int), nx = .int .i64 m ∧ c = .int .i64 q ∧ 1 ≤ m ∧ m < 2 ^ j ∧ m < 512 ∧ 0 ≤ q ∧ q + j ≤ 9 ∧ tzf j m q = tzf 9 (p+1) 0) (fun nx _ => (intOf nx).toNat)
    case atStart => exact ⟨9, p+1, 0, rfl, rfl, by omega, by simp; omega, by omega, by omega, by omega, rfl⟩
    case round =>
      obtain ⟨j, m, q, rfl, rfl, hm0, hm, hmm, hq0, hq, hpl⟩ := hrel
      have HP := Lib.hid hpl; clear hpl
      have HM := Lib.hid hm; clear hm
      by_cases hlt : m % 2 = 0
      · have hltb : (m % 2 == 0) = true := by simpa using hlt
        cases j with
        | zero => have := HM.out; simp at this; omega
        | succ j =>
          have hlt' := Lib.hid hlt; clear hlt
          go_wp2
          go_round
          case rel => exact ⟨j, m / 2, q + 1, rfl, rfl, by have := hlt'.out; omega, by have := HM.out; rw [Int.pow_succ] at this; omega, by omega, by omega, by omega, by have := HP.out; rw [tzf, if_pos hlt'.out] at this; exact this⟩
          case measure => simp [intOf]; have := hlt'.out; omega
      · have hltb : (m % 2 == 0) = false := by simpa using hlt
        have hlt' := Lib.hid hlt; clear hlt
        go_wp2
        go_ret
        have : tzf j m q = q := by cases j <;> simp [tzf, hlt'.out]
        exact ⟨ret_bool (by rw [HK.out, ← HP.out, this]; simp), rfl⟩
set_option maxHeartbeats 400000 in
theorem hanoi_no (n p : Int) (w : World) (h : ¬ (okP n p ∧ 1 ≤ n)) :
    Calls Try.prog 5 #[.int .i64 n, .int .i64 p] w fun e w' => e = .returned (.bool true) ∧ w = w' := by
  have H1 := Lib.hid (turn_no n p w h); clear h
  go_enter Try.func5, Try.ntmps5
  go_wp2_with fail
  refine (fact_any _).mono ?_; rintro e w' ⟨rfl, rfl⟩
  go_wp2_with fail
  refine H1.out.mono ?_; rintro e w' ⟨rfl, rfl⟩
  go_wp2_with fail
  go_ret
  exact ⟨rfl, rfl⟩
theorem grayHanoi_any (w : World) (a0 : Int) (_ : (Lit.int .i64 a0).wf = true) (a1 : Int) (_ : (Lit.int .i64 a1).wf = true) :
    Calls Try.prog 5 #[.int .i64 a0, .int .i64 a1] w fun e w' => e = .returned (.bool true) ∧ Below w.heap.size w w' := by
  by_cases h : okP a0 a1 ∧ 1 ≤ a0
  · exact (hanoi_yes a0 a1 w h.1 h.2).mono fun _ _ ⟨he, hw⟩ => ⟨he, hw ▸ Below.refl _ _⟩
  · exact (hanoi_no a0 a1 w h).mono fun _ _ ⟨he, hw⟩ => ⟨he, hw ▸ Below.refl _ _⟩
end Go.Proofs.Ythleccpdflggjaa
