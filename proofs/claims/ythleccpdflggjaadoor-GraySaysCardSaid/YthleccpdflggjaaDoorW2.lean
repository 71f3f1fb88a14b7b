import Derived.Test.YthleccpdflggjaaDoorW1
namespace Go.Proofs.YthleccpdflggjaaDoor
open Go.RowKit Pl
theorem nine {n : Int} (h0 : 0 ≤ n) (h : n ≤ 8) : n = 0 ∨ n = 1 ∨ n = 2 ∨ n = 3 ∨ n = 4 ∨ n = 5 ∨ n = 6 ∨ n = 7 ∨ n = 8 := by omega
def okP (n p : Int) : Prop := 0 ≤ n ∧ n ≤ 8 ∧ 0 ≤ p ∧ p ≤ 2 ^ n.toNat - 1
set_option maxHeartbeats 1000000 in
theorem at_yes (n p : Int) (w : World) (h : okP n p) :
    Calls Tryd.prog 9 #[.int .i64 n, .int .i64 p] w fun e w' => e = .returned (.tuple #[.int .i64 (gAt p), .nilIface]) ∧ w = w' := by
  obtain ⟨h0, h8, hp0, hp1⟩ := h
  rcases nine h0 h8 with rfl | rfl | rfl | rfl | rfl | rfl | rfl | rfl | rfl
  all_goals
    clear h0 h8
    simp at hp1
    go_enter Tryd.func9, Tryd.ntmps9
    go_wp2_with (go_at_call 13; refine (within_yes _ _ _ _ (by omega)).mono ?_; rintro e w' ⟨rfl, rfl⟩)
    go_ret2
    exact ⟨rfl, rfl⟩
set_option maxHeartbeats 1000000 in
theorem at_no (n p : Int) (w : World) (h : ¬ okP n p) :
    Calls Tryd.prog 9 #[.int .i64 n, .int .i64 p] w fun e w' => e = .returned (.tuple #[.int .i64 0, .iface 33 (.int .i64 1)]) ∧ w = w' := by
  by_cases hn : 0 ≤ n ∧ n ≤ 8
  · obtain ⟨h0, h8⟩ := hn
    have hp : ¬ (0 ≤ p ∧ p ≤ 2 ^ n.toNat - 1) := fun hh => h ⟨h0, h8, hh.1, hh.2⟩
    clear h
    rcases nine h0 h8 with rfl | rfl | rfl | rfl | rfl | rfl | rfl | rfl | rfl
    all_goals
      clear h0 h8
      simp at hp
      go_enter Tryd.func9, Tryd.ntmps9
      go_wp2_with fail
      refine (within_yes _ _ _ _ (by omega)).mono ?_; rintro e w' ⟨rfl, rfl⟩
      go_wp2_with (go_at_call 13; refine (within_no _ _ _ _ (by omega)).mono ?_; rintro e w' ⟨rfl, rfl⟩)
      go_ret2
      exact ⟨rfl, rfl⟩
  · clear h
    go_enter Tryd.func9, Tryd.ntmps9
    go_wp2_with (go_at_call 13; refine (within_no _ _ _ _ hn).mono ?_; rintro e w' ⟨rfl, rfl⟩)
    go_ret2
    exact ⟨rfl, rfl⟩
set_option maxHeartbeats 1000000 in
theorem place_no (n p : Int) (w : World) (h : ¬ okP n p) :
    Calls Tryd.prog 11 #[.int .i64 n, .int .i64 p] w fun e w' => e = .returned (.tuple #[.int .i64 0, .iface 33 (.int .i64 1)]) ∧ w = w' := by
  by_cases hn : 0 ≤ n ∧ n ≤ 8
  · obtain ⟨h0, h8⟩ := hn
    have hp : ¬ (0 ≤ p ∧ p ≤ 2 ^ n.toNat - 1) := fun hh => h ⟨h0, h8, hh.1, hh.2⟩
    clear h
    rcases nine h0 h8 with rfl | rfl | rfl | rfl | rfl | rfl | rfl | rfl | rfl
    all_goals
      clear h0 h8
      simp at hp
      go_enter Tryd.func11, Tryd.ntmps11
      go_wp2_with fail
      refine (within_yes _ _ _ _ (by omega)).mono ?_; rintro e w' ⟨rfl, rfl⟩
      go_wp2_with (go_at_call 13; refine (within_no _ _ _ _ (by omega)).mono ?_; rintro e w' ⟨rfl, rfl⟩)
      go_ret2
      exact ⟨rfl, rfl⟩
  · clear h
    go_enter Tryd.func11, Tryd.ntmps11
    go_wp2_with (go_at_call 13; refine (within_no _ _ _ _ hn).mono ?_; rintro e w' ⟨rfl, rfl⟩)
    go_ret2
    exact ⟨rfl, rfl⟩
set_option maxHeartbeats 2000000 in
theorem place_yes (n p : Int) (w : World) (h : okP n p) :
    Calls Tryd.prog 11 #[.int .i64 n, .int .i64 p] w fun e w' => e = .returned (.tuple #[.int .i64 (pl 9 p 0), .nilIface]) ∧ w = w' := by
  obtain ⟨h0, h8, hp0, hp1⟩ := h
  have hpp : p < 512 := by have := pow_le n.toNat (by omega); omega
  rcases nine h0 h8 with rfl | rfl | rfl | rfl | rfl | rfl | rfl | rfl | rfl
  all_goals
    clear h0 h8
    simp at hp1
    go_enter Tryd.func11, Tryd.ntmps11
    go_wp2_with (go_at_call 13; refine (within_yes _ _ _ _ (by omega)).mono ?_; rintro e w' ⟨rfl, rfl⟩)
    go_loop [1, 6] (fun n o => ∃ (k : Nat) (m q : Int), n = .int .i64 m ∧ o = .int .i64 q ∧ 0 ≤ m ∧ m < 2 ^ k ∧ m < 512 ∧ pl k m q = pl 9 p 0) (fun n _ => (intOf n).toNat)
    case atStart => exact ⟨9, p, 0, rfl, rfl, hp0, hpp, hpp, rfl⟩
    case round =>
      obtain ⟨k, m, q, rfl, rfl, hm0, hm, hmm, hpl⟩ := hrel
      have HP := Lib.hid hpl; clear hpl
      by_cases hlt : 0 < m
      · cases k with
        | zero => simp at hm; omega
        | succ k =>
          have HM := Lib.hid hm; clear hm
          go_wp2
          go_round
          case rel => exact ⟨k, m / 2, _, rfl, rfl, by omega, by have := HM.out; rw [Int.pow_succ] at this; omega, by omega, by have := HP.out; rw [pl, if_pos hlt] at this; exact this⟩
          case measure => simp [intOf]; omega
      · have HM := Lib.hid hm; clear hm
        go_wp2
        go_ret2
        have hz : ¬ 0 < m := by omega
        have : pl k m q = q := by cases k <;> simp [pl, hz]
        refine ⟨?_, rfl⟩
        rw [← HP.out, this]; rfl
end Go.Proofs.YthleccpdflggjaaDoor
