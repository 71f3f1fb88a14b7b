import Derived.Test.YthleccpdflggjaaDoorW2
namespace Go.Proofs.YthleccpdflggjaaDoor
open Go.RowKit Pl
theorem okP_nat {n p : Int} (h : okP n p) : ∃ a b : Nat, n = a ∧ p = b ∧ a ≤ 8 ∧ b < 2 ^ a := by
  obtain ⟨h0, h8, hp0, hp1⟩ := h
  refine ⟨n.toNat, p.toNat, by omega, by omega, by omega, ?_⟩
  have : ((2 ^ n.toNat : Nat) : Int) = 2 ^ n.toNat := by norm_cast
  omega
theorem okP_back {n p : Int} (h : okP n p) : okP n (gAt p) ∧ pl 9 (gAt p) 0 = p ∧ okP n (pl 9 p 0) ∧ gAt (pl 9 p 0) = p := by
  obtain ⟨a, b, rfl, rfl, ha, hb⟩ := okP_nat h
  have := all9_at back_all ha hb
  simp only [chkBack, Bool.and_eq_true, decide_eq_true_eq, beq_iff_eq] at this
  obtain ⟨⟨⟨⟨⟨h1, h2⟩, h3⟩, h4⟩, h5⟩, h6⟩ := this
  exact ⟨⟨by omega, by omega, h1, by simpa using h2⟩, h3, ⟨by omega, by omega, h4, by simpa using h5⟩, h6⟩
theorem okP_one {n p : Int} (h : okP n p) (hn : 1 ≤ n) : 0 ≤ gTurn n.toNat p ∧ gTurn n.toNat p ≤ n - 1 ∧ 0 ≤ gAt p ∧ gAt p ≤ 255 ∧ 0 ≤ gAt (nx n.toNat p) ∧ gAt (nx n.toNat p) ≤ 255 ∧ 0 ≤ gNext n.toNat p ∧ gNext n.toNat p ≤ 255 ∧
    bits .xor .i64 (gAt p) (gNext n.toNat p) ≤ 255 ∧ 0 ≤ bits .xor .i64 (gAt p) (gNext n.toNat p) ∧
    ∀ i : Nat, i < n → ((mem (gAt p) i != mem (gAt (nx n.toNat p)) i) = decide ((i : Int) = gTurn n.toNat p)) := by
  obtain ⟨a, b, rfl, rfl, ha, hb⟩ := okP_nat h
  have := all9_at one_all ha hb
  have ha0 : (a == 0) = false := by simp; omega
  simp only [ha0, Bool.false_or, chkOne, Bool.and_eq_true, decide_eq_true_eq, List.all_eq_true, List.mem_range, beq_iff_eq] at this
  obtain ⟨⟨⟨⟨⟨⟨⟨⟨⟨⟨h1, h2⟩, h3⟩, h4⟩, h5⟩, h6⟩, h7⟩, h8⟩, h9⟩, h10⟩, h11⟩ := this
  exact ⟨h1, h2, h3, h4, h5, h6, h7, h8, h9, h10, fun i hi => h11 i (by omega)⟩

end Go.Proofs.YthleccpdflggjaaDoor
