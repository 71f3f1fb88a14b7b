import Derived.Test.YthleccpdflggjaaDoorWP
namespace Go.Proofs.YthleccpdflggjaaDoor
open Go.RowKit Pl
theorem okP_turn {n p : Int} (h : okP n p) (hn : 1 ≤ n) : ∀ q, gNext n.toNat p = q → 0 ≤ q ∧ q ≤ 255 := by
  rintro q rfl
  obtain ⟨_, _, _, _, _, _, h7, h8, _⟩ := okP_one h hn
  exact ⟨h7, h8⟩
set_option maxHeartbeats 4000000 in
theorem turn_yes (n p : Int) (w : World) (h : okP n p) (hn : 1 ≤ n) :
    Calls Tryd.prog 12 #[.int .i64 n, .int .i64 p] w fun e w' => e = .returned (.tuple #[.int .i64 (gTurn n.toNat p), .nilIface]) ∧ w = w' := by
  obtain ⟨_, _, _, _, _, _, _, _, hx, hx0, _⟩ := okP_one h hn
  obtain ⟨h0, h8, hp0, hp1⟩ := h
  by_cases hl : p + 1 < 2 ^ n.toNat
  case' pos =>
    have G : gTurn n.toNat p = lg 9 (bits .xor .i64 (bits .xor .i64 p (p / 2)) (bits .xor .i64 (p + 1) ((p + 1) / 2))) 0 := by simp [gTurn, gNext, hl, gAt]
    simp only [gNext, if_pos hl, gAt] at hx hx0
  case' neg =>
    have G : gTurn n.toNat p = lg 9 (bits .xor .i64 (bits .xor .i64 p (p / 2)) 0) 0 := by simp [gTurn, gNext, hl, gAt]
    simp only [gNext, if_neg hl, gAt] at hx hx0
  all_goals
    have HG := Lib.hid G; clear G
    rcases nine h0 h8 with rfl | rfl | rfl | rfl | rfl | rfl | rfl | rfl | rfl
  case pos.inl => omega
  case neg.inl => omega
  all_goals
    clear h0 h8 hn
    simp at hp1 hl
    go_enter Tryd.func12, Tryd.ntmps12
    go_wp2_with (go_at_call 13; refine (within_yes _ _ _ _ (by omega)).mono ?_; rintro e w' ⟨rfl, rfl⟩)
    go_loop [8, 9] (fun c d => ∃ (k : Nat) (m q : Int), d = .int .i64 m ∧ c = .int .i64 q ∧ 0 ≤ m ∧ m < 2 ^ k ∧ m < 512 ∧ 0 ≤ q ∧ q + k ≤ 9 ∧ lg k m q = lg 9 _ 0) (fun _ d => (intOf d).toNat)
    case atStart => exact ⟨9, _, 0, rfl, rfl, hx0, by simp; omega, by omega, by omega, by omega, rfl⟩
    case round =>
      obtain ⟨k, m, q, rfl, rfl, hm0, hm, hmm, hq0, hq, hpl⟩ := hrel
      have HP := Lib.hid hpl; clear hpl
      have HM := Lib.hid hm; clear hm
      by_cases hlt : 1 < m
      · cases k with
        | zero => have := HM.out; simp at this; omega
        | succ k =>
          go_wp2
          go_round
          case rel => exact ⟨k, m / 2, q + 1, rfl, rfl, by omega, by have := HM.out; rw [Int.pow_succ] at this; omega, by omega, by omega, by omega, by have := HP.out; rw [lg, if_pos hlt] at this; exact this⟩
          case measure => simp [intOf]; omega
      · go_wp2
        go_ret2
        have hz : ¬ 1 < m := by omega
        have : lg k m q = q := by cases k <;> simp [lg, hz]
        refine ⟨?_, rfl⟩
        exact congrArg (fun t => Ending.returned (.tuple #[.int .i64 t, .nilIface])) (HG.out.trans (HP.out.symm.trans this)).symm
set_option maxHeartbeats 1000000 in
theorem turn_no (n p : Int) (w : World) (h : ¬ (okP n p ∧ 1 ≤ n)) :
    Calls Tryd.prog 12 #[.int .i64 n, .int .i64 p] w fun e w' => e = .returned (.tuple #[.int .i64 0, .iface 33 (.int .i64 1)]) ∧ w = w' := by
  by_cases hn : 1 ≤ n ∧ n ≤ 8
  · obtain ⟨h0, h8⟩ := hn
    have hp : ¬ (0 ≤ p ∧ p ≤ 2 ^ n.toNat - 1) := fun hh => h ⟨⟨by omega, h8, hh.1, hh.2⟩, h0⟩
    clear h
    rcases nine (by omega) h8 with rfl | rfl | rfl | rfl | rfl | rfl | rfl | rfl | rfl
    case inl => omega
    all_goals
      clear h0 h8
      simp at hp
      go_enter Tryd.func12, Tryd.ntmps12
      go_wp2_with fail
      refine (within_yes _ _ _ _ (by omega)).mono ?_; rintro e w' ⟨rfl, rfl⟩
      go_wp2_with (go_at_call 13; refine (within_no _ _ _ _ (by omega)).mono ?_; rintro e w' ⟨rfl, rfl⟩)
      go_ret2
      exact ⟨rfl, rfl⟩
  · clear h
    go_enter Tryd.func12, Tryd.ntmps12
    go_wp2_with (go_at_call 13; refine (within_no _ _ _ _ hn).mono ?_; rintro e w' ⟨rfl, rfl⟩)
    go_ret2
    exact ⟨rfl, rfl⟩
theorem in_yes (n a b : Int) (w : World) (h : a ≤ n ∧ n ≤ b) :
    Calls Tryd.prog 4 #[.int .i64 n, .int .i64 a, .int .i64 b] w fun e w' => e = .returned (.bool true) ∧ w = w' := 
  (in_any n a b w).mono fun e w' ⟨he, hw⟩ => ⟨by rw [he, decide_eq_true h], hw⟩
theorem nx_eq {n p : Int} (h : okP n p) : okP n (nx n.toNat p) := by
  obtain ⟨h0, h8, hp0, hp1⟩ := h
  unfold nx
  have := pow_le n.toNat (by omega)
  split
  · exact ⟨h0, h8, by omega, by omega⟩
  · exact ⟨h0, h8, by omega, by omega⟩
end Go.Proofs.YthleccpdflggjaaDoor
