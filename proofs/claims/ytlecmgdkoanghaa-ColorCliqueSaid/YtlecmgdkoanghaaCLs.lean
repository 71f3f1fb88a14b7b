import Derived.Test.YtlecmgdkoanghaaChl
import Derived.Test.YtlecmgdkoanghaaWiE
import Derived.Test.YtlecmgdkoanghaaCl
/- plain: ColorLess holds -/
set_option linter.all false
set_option maxRecDepth 100000
namespace Go.Proofs.Ytlecmgdkoanghaa
open Go.RowKit Go.Shelf Pl
theorem colorFact_ev : L3_colorFact 300 = some true := by decide +kernel
theorem erase_back {l : List (Int × Int)} {i : Nat} (hi : i < l.length) {p : Int × Int} (hp : p ∈ l) : p ∈ l.eraseIdx i ∨ p = l[i] := by
  rw [List.eraseIdx_eq_take_drop_succ, List.mem_append]
  have e : l = l.take i ++ l[i] :: l.drop (i+1) := by rw [← List.drop_eq_getElem_cons hi, List.take_append_drop]
  rw [e] at hp
  rcases List.mem_append.1 hp with h | h
  · exact .inl (.inl h)
  · rcases List.mem_cons.1 h with h | h
    · exact .inr h
    · exact .inl (.inr h)
/-- with a line less -/
theorem erase_chi {k i : Nat} {l : List (Int × Int)} (hk : 1 ≤ k) (hin : InL k l) (hi : i < l.length) : chi (aL (l.eraseIdx i)) k ≤ chi (aL l) k ∧ chi (aL l) k ≤ chi (aL (l.eraseIdx i)) k + 1 := by
  obtain ⟨x, y, ex, ey, _, _⟩ := hin.at_ hi
  refine chi_edge (p := x) hk (aL_sym l) (aL_sym _) (fun u v h => ?_) fun u v h => ?_
  · unfold aL at *
    obtain ⟨p, hp, hh⟩ := besL_iff.1 h
    exact besL_iff.2 ⟨p, List.mem_of_mem_eraseIdx hp, hh⟩
  · unfold aL at *
    obtain ⟨p, hp, hh⟩ := besL_iff.1 h
    rcases erase_back hi hp with hp | rfl
    · exact .inl (besL_iff.2 ⟨p, hp, hh⟩)
    · rcases hh with ⟨h1, h2⟩ | ⟨h1, h2⟩
      · exact .inr (.inl (by omega))
      · exact .inr (.inr (by omega))
theorem without_part {k : Nat} {l : List (Int × Int)} (h1 : 1 ≤ k) (h8 : k ≤ 8) (h24 : l.length ≤ 24) (hin : InL k l) (hne : ∀ p ∈ l, p.1 ≠ p.2) (i : Int) :
    ((graph_Without 300 (k : Int) l i).bind fun y8 => (if (y8.2 != 0) = true then (if ((k : Int) == 1) = true then some true else (L3_in 300 i 0 (wrap64 ((k : Int) - 1))).bind fun y10 => if y10 = true then some false else some true).bind fun b9 => some b9 else
      (color_Least 300 (wrap64 ((k : Int) - 1)) y8.1).bind fun y11 => (if (y11.2 == 0) = true then if (y11.1 == ((chi (aL l) k : Nat) : Int)) = true then some true else if (y11.1 == wrap64 (((chi (aL l) k : Nat) : Int) - 1)) = true then some true else some false else some false).bind fun b12 => some b12)) = some true := by
  have hg : good (k : Int) l := ⟨wf8 h8, by unfold maxLen; omega⟩
  have hw : wrap64 ((k : Int) - 1) = (k : Int) - 1 := w64 (by omega) (by omega)
  unfold graph_Without
  rw [mCheck_ev hg, errG_ok h1 h8 h24 hin hne, Option.bind_some, if_neg (by decide), hw, core_Within_ev, L3_in_ev]
  by_cases hk : k = 1
  · subst hk
    rw [if_pos (by decide), Option.bind_some, if_pos rfl, Option.bind_some, if_pos (by decide)]; rfl
  · rw [if_neg (by rw [beq_iff_eq]; omega), Option.bind_some]
    by_cases hi : 0 ≤ i ∧ i ≤ (k : Int) - 1
    · obtain ⟨j, rfl⟩ := Int.eq_ofNat_of_zero_le hi.1
      rw [decide_eq_true hi, if_pos rfl, Option.bind_some, if_neg (by decide)]
      have hL := without_L1 (l := l) (i := (j : Int)) (by omega) h24 (fun p hp => by have := hin p hp; omega) 300 0 [] (by omega) (by omega) (by simp)
      rw [show graph_Without_L1 300 l (j : Int) (fun z4 => brambleweir_graph_Without_1 300 (j : Int) z4) 300 0 [] = _ from hL, Option.bind_some, Option.bind_some, List.drop_zero, List.nil_append]
      dsimp only
      rw [if_neg (by decide), show (k : Int) - 1 = ((k - 1 : Nat) : Int) by omega, least_ev (by omega) (by omega) (by have := lessL_len (j : Int) l; omega) (lessL_in hin (by omega)) (lessL_ne hne), Option.bind_some]
      dsimp only
      obtain ⟨c1, c2⟩ := chi_point (a := aL l) (a' := aL (lessL (j : Int) l)) (k := k) (i := j) (by omega) (by omega) (aL_sym l) (aL_sym _) (fun u v => lessL_aL u v)
      have hb := (chi_spec (aL l) h1).2.2.1
      have hb1 := (chi_spec (aL l) h1).2.1
      rw [if_pos (by decide), w64 (by omega) (by omega)]
      by_cases e : chi (aL (lessL (j : Int) l)) (k-1) = chi (aL l) k
      · rw [if_pos (by rw [beq_iff_eq]; omega)]; rfl
      · rw [if_neg (by rw [beq_iff_eq]; omega), if_pos (by rw [beq_iff_eq]; omega)]; rfl
    · rw [decide_eq_false hi, if_neg (by decide), Option.bind_some, if_pos rfl, Option.bind_some, if_pos (by decide)]; rfl
theorem less_says {n : Int} {l : List (Int × Int)} (hg : good n l) (i : Int) : L3_ColorLess 300 n l i = some true := by
  unfold L3_ColorLess
  rw [colorFact_ev, Option.bind_some, if_pos rfl]
  by_cases he : errG n l = 0
  · obtain ⟨k, rfl, h1, h8, h24, hin, hne⟩ := errG_zero he
    rw [least_ev h1 h8 h24 hin hne, Option.bind_some]
    dsimp only
    have hW := without_part h1 h8 h24 hin hne i
    have hb := (chi_spec (aL l) h1).2.2.1
    have hb1 := (chi_spec (aL l) h1).2.1
    rw [if_neg (by decide), L3_in_ev, Option.bind_some, w64 (x := (l.length : Int) - 1) (by omega) (by omega)]
    by_cases hi : 0 ≤ i ∧ i ≤ (l.length : Int) - 1
    · obtain ⟨j, rfl⟩ := Int.eq_ofNat_of_zero_le hi.1
      have hj : j < l.length := by omega
      have hin' : InL k (l.eraseIdx j) := fun p hp => hin p (List.mem_of_mem_eraseIdx hp)
      obtain ⟨c1, c2⟩ := erase_chi (k := k) h1 hin hj
      rw [decide_eq_true hi, if_pos rfl, R1_But_ev (by omega) (by omega), Option.bind_some, least_ev h1 h8 (by rw [List.length_eraseIdx]; split <;> omega) hin' (fun p hp => hne p (List.mem_of_mem_eraseIdx hp)), Option.bind_some]
      dsimp only
      rw [if_neg (by decide), w64 (x := ((chi (aL l) k : Nat) : Int) - 1) (by omega) (by omega)]
      have e : (if (((chi (aL (l.eraseIdx j)) k : Nat) : Int) != ((chi (aL l) k : Nat) : Int)) = true then if (((chi (aL (l.eraseIdx j)) k : Nat) : Int) != ((chi (aL l) k : Nat) : Int) - 1) = true then some true else some false else some false) = some false := by
        by_cases e : chi (aL (l.eraseIdx j)) k = chi (aL l) k
        · rw [if_neg (by rw [bne_iff_ne]; omega)]
        · rw [if_pos (by rw [bne_iff_ne]; omega), if_neg (by rw [bne_iff_ne]; omega)]
      rw [e, Option.bind_some, if_neg (by decide)]
      rw [w64 (x := ((chi (aL l) k : Nat) : Int) - 1) (by omega) (by omega)] at hW
      exact hW
    · rw [decide_eq_false hi, if_neg (by decide)]
      exact hW
  · rw [least_bad hg he, Option.bind_some]
    dsimp only
    rw [if_pos (bne_iff_ne.2 he), if_pos (by decide)]; rfl
theorem colorLess_any (w : World) (n : Int) (hn : (Lit.int .i64 n).wf = true) (A : Option Addr) (cap : Nat) (l : List (Int × Int)) (hr : ReadsL w w.heap.size A l) (hl : l.length ≤ maxLen) (i : Int) (_ : (Lit.int .i64 i).wf = true) :
    Calls Try.prog 4 #[.int .i64 n, .slice A l.length cap, .int .i64 i] w fun e w' => e = .returned (.bool true) ∧ Below w.heap.size w w' :=
  L3_ColorLess_ok w cap hr (less_says ⟨hn, hl⟩ i)
end Go.Proofs.Ytlecmgdkoanghaa
