import Derived.Test.YtpbkepajgdmbpaaDoorPg
import Derived.Test.YtpbkepajgdmbpaaDoorFwT
import Derived.Test.YtpbkepajgdmbpaaDoorF6
/- plain: PruferSays holds -/
set_option linter.all false
set_option maxRecDepth 100000
namespace Go.Proofs.YtpbkepajgdmbpaaDoor
open Go.RowKit Pl
theorem mErr_self (c : Int) : mErr c c = some true := by unfold mErr; rw [decide_eq_true rfl]
theorem lines_L1 {l : List (Int × Int)} (hl : l.length < 300) : ∀ (g j : Nat), l.length < j + g → j ≤ l.length → ∃ x, SE_Lines_L1 300 l l g (j : Int) = some (.inl x)
  | 0, j, h, hj => by omega
  | g+1, j, h, hj => by
    rw [SE_Lines_L1_s]
    by_cases hlt : j < l.length
    · rw [if_pos (by omega), ix_nat hlt, Option.bind_some, Option.bind_some, if_neg (by simp), w64n (by omega)]
      exact lines_L1 hl g (j+1) (by omega) (by omega)
    · rw [if_neg (by omega)]; exact ⟨_, rfl⟩
theorem lines_self {l : List (Int × Int)} (hl : l.length < 300) : SE_Lines 300 l l = some true := by
  obtain ⟨x, hx⟩ := lines_L1 hl 300 0 (by omega) (by omega)
  unfold SE_Lines
  rw [if_neg (by simp), show SE_Lines_L1 300 l l 300 0 = _ from hx]; rfl
theorem says_write {n : Int} {l : List (Int × Int)} (hg : good n l) : ∃ e m, (((if (errT n l == 0) = true then if (n == 1) = true then some true else some false else some false).bind fun b3 => if b3 = true then some 5 else some (errT n l)) : Option Int) = some e ∧
    (((if (e == 0) = true then some true else some false).bind fun b5 => if b5 = true then (R3_Prufer 300 n l).bind fun y6 => some y6 else some []) : Option (List Int)) = some m ∧ prufer_Write 300 n l = some (m, e) ∧ m.length < 300 := by
  by_cases he : errT n l = 0
  · obtain ⟨k, rfl, G⟩ := good_of hg he
    have hp := G.pos
    rw [he]
    by_cases h2 : k < 2
    · have : k = 1 := by omega
      subst this
      exact ⟨5, [], rfl, rfl, write_one G h2, by simp⟩
    · obtain ⟨ps, R', q1, q2, q3, q4, q5, q6, q7, _⟩ := write_good G (by omega)
      have hk := G.le
      have hn : ¬ (((k : Int) == 1) = true) := by rw [beq_iff_eq]; omega
      refine ⟨0, ps.map (fun p => (p.2 : Int)), ?_, ?_, q1, by rw [List.length_map]; omega⟩
      · rw [if_pos (by decide), if_neg hn]; rfl
      · rw [if_pos (by decide), Option.bind_some, if_pos rfl, prufer3_ev G q2 q3 q4 q7]; rfl
  · have h1 : ¬ ((errT n l == 0) = true) := by rw [beq_iff_eq]; exact he
    refine ⟨errT n l, [], ?_, ?_, write_bad hg he, by simp⟩
    · rw [if_neg h1]; rfl
    · rw [if_neg h1]; rfl
theorem says_read {row : List Int} (hr : row.length ≤ 17592186044416) : ∃ e ls, (((if 6 < (row.length : Int) then some true else some false).bind fun b12 => if b12 = true then some ((4 : Int), ([] : List (Int × Int))) else ((R1_All 300 row 0 (wrap64 ((row.length : Int) + 1))).bind fun y13 => if y13 = true then (R3_Grown 300 row).bind fun y14 => some (0, y14) else some (1, []))) : Option (Int × List (Int × Int))) = some (e, ls) ∧ prufer_Read 300 row = some (ls, e) ∧ ls.length < 300 := by
  rcases read_any hr with ⟨js, rfl, h1, h2⟩ | ⟨h, h'⟩ | ⟨h, h', h''⟩
  · obtain ⟨ls, r1, r2, r3⟩ := grown_ev h1 h2
    refine ⟨0, ls, ?_, r1, r3⟩
    have hall : allIn (rowI js) 0 ((js.length : Int) + 1) = true := by
      unfold allIn
      rw [List.all_eq_true]
      intro x hx
      obtain ⟨y, hy, rfl⟩ := List.mem_map.1 hx
      have := h2 y hy
      simp; omega
    rw [List.length_map, if_neg (by omega), Option.bind_some, if_neg (by decide), w64 (by omega) (by omega), R1_All_ev _ _ (by rw [List.length_map]; omega) (by rw [List.length_map]; omega), hall, Option.bind_some, if_pos rfl, r2]; rfl
  · exact ⟨4, [], by rw [if_pos (by omega)]; rfl, h', by simp⟩
  · refine ⟨1, [], ?_, h'', by simp⟩
    rw [if_neg (by omega), Option.bind_some, if_neg (by decide), w64 (by omega) (by omega), R1_All_ev _ _ (by omega) (by omega), h']; rfl
theorem says_ev {n : Int} {l : List (Int × Int)} {row : List Int} (hg : good n l) (hr : row.length ≤ 17592186044416) : L3_PruferSays 300 n l row = some true := by
  obtain ⟨e, m, a1, a2, a3, a4⟩ := says_write hg
  obtain ⟨f, ls, b1, b2, b3⟩ := says_read hr
  unfold L3_PruferSays
  rw [tree3_ev hg, Option.bind_some, a1, Option.bind_some, a2, Option.bind_some, a3, Option.bind_some]
  dsimp only
  rw [mErr_self, Option.bind_some, if_pos rfl, SE_Ints_ev a4 (by omega), decide_eq_true rfl, Option.bind_some, if_pos rfl, Option.bind_some, b1, Option.bind_some, b2, Option.bind_some]
  dsimp only
  rw [if_pos rfl, mErr_self, Option.bind_some, if_pos rfl, Option.bind_some, if_pos rfl, lines_self b3]
  rfl
theorem pruferSays_any (w : World) (htc : TyCell w) (n : Int) (hn : (Lit.int .i64 n).wf = true) (A : Option Addr) (cap : Nat) (l : List (Int × Int)) (hr : ReadsL w w.heap.size A l) (hl : l.length ≤ maxLen) (A2 : Option Addr) (cap2 : Nat) (row : List Int) (hr2 : ReadsI w w.heap.size A2 row ∧ row.length ≤ 17592186044416 ∧ row.length ≤ cap2 ∧ ∀ x ∈ row, (Lit.int .i64 x).wf = true) :
    Calls Tryd.prog 3 #[.int .i64 n, .slice A l.length cap, .slice A2 row.length cap2] w fun e w' => e = .returned (.bool true) ∧ Below w.heap.size w w' :=
  L3_PruferSays_ok w htc cap hr cap2 hr2.1 hr2.2.2.1 (says_ev ⟨hn, hl⟩ hr2.2.1)
end Go.Proofs.YtpbkepajgdmbpaaDoor
