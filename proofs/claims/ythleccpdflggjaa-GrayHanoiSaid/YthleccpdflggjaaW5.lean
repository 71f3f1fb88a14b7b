import Derived.Test.YthleccpdflggjaaW4
namespace Go.Proofs.Ythleccpdflggjaa
open Go.RowKit Pl
theorem in_yes (n a b : Int) (w : World) (h : a ≤ n ∧ n ≤ b) :
    Calls Try.prog 12 #[.int .i64 n, .int .i64 a, .int .i64 b] w fun e w' => e = .returned (.bool true) ∧ w = w' := 
  (in_any n a b w).mono fun e w' ⟨he, hw⟩ => ⟨by rw [he, decide_eq_true h], hw⟩
theorem nx_eq {n p : Int} (h : okP n p) : okP n (nx n.toNat p) := by
  obtain ⟨h0, h8, hp0, hp1⟩ := h
  unfold nx
  have := pow_le n.toNat (by omega)
  split
  · exact ⟨h0, h8, by omega, by omega⟩
  · exact ⟨h0, h8, by omega, by omega⟩
set_option maxHeartbeats 4000000 in
theorem grayone_yes (n p : Int) (w : World) (h : okP n p) (hn : 1 ≤ n) :
    Calls Try.prog 4 #[.int .i64 n, .int .i64 p] w fun e w' => e = .returned (.bool true) ∧ w = w' := by
  obtain ⟨t0, t1, a0, a1, b0, b1, _, _, _, _, hall⟩ := okP_one h hn
  have hk := nx_eq h
  have hpw := pow_le n.toNat (by have := h.2.1; omega)
  have H1 := Lib.hid (turn_yes n p w h hn)
  have H2 := Lib.hid (at_yes n p w h)
  have H3 := Lib.hid (at_yes n _ w hk)
  have H4 := Lib.hid (power_any (min n 8) w (by omega))
  have hmin : Hid ((2:Int) ^ (min n 8).toNat = 2 ^ n.toNat) := by
    have : min n 8 = n := by have := h.2.1; omega
    show (2:Int) ^ (min n 8).toNat = 2 ^ n.toNat
    rw [this]
  have hlast : Hid (nx n.toNat p = if p + 1 = 2 ^ n.toNat then 0 else p + 1) := rfl
  obtain ⟨h0, h8, hp0, hp1⟩ := h
  clear hk
  generalize nx n.toNat p = r at *
  generalize gAt p = x at *
  generalize gAt r = y at *
  generalize gTurn n.toNat p = k at *
  generalize (2:Int) ^ (min n 8).toNat = m2 at *
  generalize hm : (2:Int) ^ n.toNat = m at *
  have HM := Lib.hid hm; clear hm
  have HA := Lib.hid hall; clear hall
  obtain ⟨hpw1, hpw2⟩ := hpw
  obtain rfl : m2 = m := hmin.out
  by_cases hl : p + 1 = m2
  all_goals
    have hr := hlast.out
    clear hlast
  case' pos =>
    have hlb : (p + 1 == m2) = true := by simpa using hl
    rw [if_pos hl] at hr
  case' neg =>
    have hlb : (p + 1 == m2) = false := by simpa using hl
    rw [if_neg hl] at hr
  all_goals
    subst hr
    have HL := Lib.hid hl; clear hl
    go_enter Try.func4, Try.ntmps4
    go_wp2_with fail
    refine (fact_any _).mono ?_; rintro e w' ⟨rfl, rfl⟩
    go_wp2_with fail
    refine H1.out.mono ?_; rintro e w' ⟨rfl, rfl⟩
    go_wp2_with fail
    refine (least_any _ _ _).mono ?_; rintro e w' ⟨rfl, rfl⟩
    go_wp2_with fail
    refine H4.out.mono ?_; rintro e w' ⟨rfl, rfl⟩
    go_wp2_with fail
    refine H2.out.mono ?_; rintro e w' ⟨rfl, rfl⟩
    go_wp2_with fail
    refine H3.out.mono ?_; rintro e w' ⟨rfl, rfl⟩
    go_wp2_with (go_at_call 12; refine (in_yes _ _ _ _ (by omega)).mono ?_; rintro e w' ⟨rfl, rfl⟩)
    go_loop [13] (fun i => ∃ j : Nat, j ≤ n.toNat ∧ i = .int .i64 j) (fun i => n.toNat - (intOf i).toNat)
    case atStart => exact ⟨0, by omega, rfl⟩
    case round =>
      obtain ⟨j, hj, rfl⟩ := hrel
      by_cases hlt : (j : Int) < n
      · have := HA.out j hlt
        have HF : Hid (((mem x j != mem y j) != (((j:Int) == k))) = false) := by rw [Hid, this, bne_eq_false_iff_eq, Bool.eq_iff_iff]; simp
        clear this
        go_wp2_with fail
        refine (member_any x j _ (by omega) (by omega) (by omega) (by omega)).mono ?_; rintro e w' ⟨rfl, rfl⟩
        go_wp2_with fail
        refine (member_any y j _ (by omega) (by omega) (by omega) (by omega)).mono ?_; rintro e w' ⟨rfl, rfl⟩
        rw [Int.toNat_natCast]
        have HF2 := HF.out; simp only [Hid, bne] at HF2
        go_wp2_with fail

        go_round
        case rel => exact ⟨j + 1, by omega, by go_num⟩
        case measure => simp [intOf]; omega
      · go_wp2_with fail
        go_ret
        exact ⟨rfl, rfl⟩
set_option maxHeartbeats 400000 in
theorem grayone_no (n p : Int) (w : World) (h : ¬ (okP n p ∧ 1 ≤ n)) :
    Calls Try.prog 4 #[.int .i64 n, .int .i64 p] w fun e w' => e = .returned (.bool true) ∧ w = w' := by
  have H1 := Lib.hid (turn_no n p w h); clear h
  go_enter Try.func4, Try.ntmps4
  go_wp2_with fail
  refine (fact_any _).mono ?_; rintro e w' ⟨rfl, rfl⟩
  go_wp2_with fail
  refine H1.out.mono ?_; rintro e w' ⟨rfl, rfl⟩
  go_wp2_with fail
  go_ret
  exact ⟨rfl, rfl⟩
theorem grayOne_any (w : World) (a0 : Int) (_ : (Lit.int .i64 a0).wf = true) (a1 : Int) (_ : (Lit.int .i64 a1).wf = true) :
    Calls Try.prog 4 #[.int .i64 a0, .int .i64 a1] w fun e w' => e = .returned (.bool true) ∧ Below w.heap.size w w' := by
  by_cases h : okP a0 a1 ∧ 1 ≤ a0
  · exact (grayone_yes a0 a1 w h.1 h.2).mono fun _ _ ⟨he, hw⟩ => ⟨he, hw ▸ Below.refl _ _⟩
  · exact (grayone_no a0 a1 w h).mono fun _ _ ⟨he, hw⟩ => ⟨he, hw ▸ Below.refl _ _⟩
end Go.Proofs.Ythleccpdflggjaa
