import Derived.Test.YthleccpdflggjaaW2
namespace Go.Proofs.Ythleccpdflggjaa
open Go.RowKit Pl
theorem okP_nat {n p : Int} (h : okP n p) : ∃ a b : Nat, n = a ∧ p = b ∧ a ≤ 8 ∧ b < 2 ^ a := by
  obtain ⟨h0, h8, hp0, hp1⟩ := h
  refine ⟨n.toNat, p.toNat, by omega, by omega, by omega, ?_⟩
  have : ((2 ^ n.toNat : Nat) : Int) = 2 ^ n.toNat := by norm_cast
  omega
theorem okP_back {n p : Int} (h : okP n p) : okP n (gAt p) ∧ pl 9 (gAt p) 0 = p ∧ okP n (pl 9 p 0) ∧ gAt (pl 9 p 0) = p := by
  obtain ⟨a, b, rfl, rfl, ha, hb⟩ := okP_nat h
  have := all9_at back_all ha hb
  simp only [chkBack, Bool.and_eq_true, decide_eq_true_eq, beq_iff_eq] at this
  obtain ⟨⟨⟨⟨⟨h1, h2⟩, h3⟩, h4⟩, h5⟩, h6⟩ := this
  exact ⟨⟨by omega, by omega, h1, by simpa using h2⟩, h3, ⟨by omega, by omega, h4, by simpa using h5⟩, h6⟩
theorem okP_one {n p : Int} (h : okP n p) (hn : 1 ≤ n) : 0 ≤ gTurn n.toNat p ∧ gTurn n.toNat p ≤ n - 1 ∧ 0 ≤ gAt p ∧ gAt p ≤ 255 ∧ 0 ≤ gAt (nx n.toNat p) ∧ gAt (nx n.toNat p) ≤ 255 ∧ 0 ≤ gNext n.toNat p ∧ gNext n.toNat p ≤ 255 ∧
    bits .xor .i64 (gAt p) (gNext n.toNat p) ≤ 255 ∧ 0 ≤ bits .xor .i64 (gAt p) (gNext n.toNat p) ∧
    ∀ i : Nat, i < n → ((mem (gAt p) i != mem (gAt (nx n.toNat p)) i) = decide ((i : Int) = gTurn n.toNat p)) := by
  obtain ⟨a, b, rfl, rfl, ha, hb⟩ := okP_nat h
  have := all9_at one_all ha hb
  have ha0 : (a == 0) = false := by simp; omega
  simp only [ha0, Bool.false_or, chkOne, Bool.and_eq_true, decide_eq_true_eq, List.all_eq_true, List.mem_range, beq_iff_eq] at this
  obtain ⟨⟨⟨⟨⟨⟨⟨⟨⟨⟨h1, h2⟩, h3⟩, h4⟩, h5⟩, h6⟩, h7⟩, h8⟩, h9⟩, h10⟩, h11⟩ := this
  exact ⟨h1, h2, h3, h4, h5, h6, h7, h8, h9, h10, fun i hi => h11 i (by omega)⟩

set_option maxHeartbeats 400000 in
theorem fact_any (w : World) :
    Calls Try.prog 6 #[] w fun e w' => e = .returned (.bool true) ∧ w = w' := by
  have h1 : okP 3 2 := by unfold okP; decide
  have h2 : okP 3 3 := by unfold okP; decide
  have e1 : gAt 2 = 3 := by decide +kernel
  have e2 : pl 9 3 0 = 2 := by decide +kernel
  have H1 := at_yes 3 2 w h1
  have H2 := place_yes 3 3 w h2
  rw [e1] at H1; rw [e2] at H2
  clear e1 e2
  have H1' := Lib.hid H1; have H2' := Lib.hid H2; clear H1 H2
  go_enter Try.func6, Try.ntmps6
  go_wp2_with (first | (go_at_call 7; refine H1'.out.mono ?_; rintro e w' ⟨rfl, rfl⟩) | (go_at_call 8; refine H2'.out.mono ?_; rintro e w' ⟨rfl, rfl⟩))
  go_ret
  exact ⟨rfl, rfl⟩

set_option maxHeartbeats 1000000 in
theorem grayback_any (n p : Int) (w : World) :
    Calls Try.prog 3 #[.int .i64 n, .int .i64 p] w fun e w' => e = .returned (.bool true) ∧ w = w' := by
  by_cases h : okP n p
  · obtain ⟨k1, k2, k3, k4⟩ := okP_back h
    have H1 := at_yes n p w h
    have H2 := place_yes n (gAt p) w k1
    have H3 := place_yes n p w h
    have H4 := at_yes n (pl 9 p 0) w k3
    rw [k2] at H2; rw [k4] at H4
    generalize gAt p = q at *
    generalize pl 9 p 0 = r at *
    clear k1 k2 k3 k4
    have H1' := Lib.hid H1; have H2' := Lib.hid H2; have H3' := Lib.hid H3; have H4' := Lib.hid H4; clear H1 H2 H3 H4 h
    go_enter Try.func3, Try.ntmps3
    go_wp2_with fail
    refine (fact_any _).mono ?_; rintro e w' ⟨rfl, rfl⟩
    go_wp2_with fail
    refine H1'.out.mono ?_; rintro e w' ⟨rfl, rfl⟩
    go_wp2_with fail
    refine H2'.out.mono ?_; rintro e w' ⟨rfl, rfl⟩
    go_wp2_with fail
    refine H3'.out.mono ?_; rintro e w' ⟨rfl, rfl⟩
    go_wp2_with fail
    refine H4'.out.mono ?_; rintro e w' ⟨rfl, rfl⟩
    go_wp2_with fail
    go_ret
    exact ⟨ret_bool (by simp), rfl⟩
  · have H1' := Lib.hid (at_no n p w h); clear h
    go_enter Try.func3, Try.ntmps3
    go_wp2_with (first | (go_at_call 7; refine H1'.out.mono ?_; rintro e w' ⟨rfl, rfl⟩) | (go_at_call 6; refine (fact_any _).mono ?_; rintro e w' ⟨rfl, rfl⟩))
    go_ret
    exact ⟨rfl, rfl⟩
theorem grayBack_any (w : World) (a0 : Int) (_ : (Lit.int .i64 a0).wf = true) (a1 : Int) (_ : (Lit.int .i64 a1).wf = true) :
    Calls Try.prog 3 #[.int .i64 a0, .int .i64 a1] w fun e w' => e = .returned (.bool true) ∧ Below w.heap.size w w' :=
  (grayback_any a0 a1 w).mono fun _ _ ⟨he, hw⟩ => ⟨he, hw ▸ Below.refl _ _⟩
end Go.Proofs.Ythleccpdflggjaa
