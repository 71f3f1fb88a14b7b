import Derived.Test.YtekfgkeimlidhaaGreatDoorBox
/- rows of sets: stores, make; lines appended -/
set_option linter.all false
set_option maxRecDepth 100000
namespace Go.Proofs.YtekfgkeimlidhaaGreatDoor
open Go.RowKit
theorem run_appL (W : World) (t ot : TypeId) (ht : Tryz.prog.underlying t = some (.slice 89))
    {B : Nat} {e' : TypeId} {L1 L2 : List It} {v : Value} {l : List (Int × Int)} {y z : Int} (h : HP W B (L1 ++ .fl (owL v l) :: L2)) (hlen : l.length < 1000000000) (hB : B ≤ W.heap.size) :
    ∃ v' w', (Builtin.append_ #[t, t] ot #[v, .slice (some ⟨W.heap.size, 0, none⟩) 1 1]).run Tryz.prog (W.alloc (.cells #[Value.int .i64 y, Value.int .i64 z] e')) = .ok v' w' ∧
      HP w' B (L1 ++ .fl (owL v' (l ++ [(y, z)])) :: L2) ∧ Below B W w' ∧ NC W w' := by
  obtain ⟨i0, hi0, hz0, hz1, hz2⟩ := info_parts line_info
  obtain ⟨M1, M2, h1, h2⟩ := h.getAt
  obtain ⟨v', w', hrun, hown, hg, hblk, hb, hn⟩ := run_app1 (e' := e') W t ot B 89 i0 _ 2 16 ht hi0 hz0 hz1 hz2 rfl (by omega) v l.length (lineCells l) (h1.get (o := owL v l) (by simp)) [.int .i64 y, .int .i64 z] rfl (by simp [Value.oneCell']) (by omega) (by omega) hB
  refine ⟨v', w', hrun, h2 _ _ (h1.upd hg ?_ ?_), hb, hn⟩
  · show w'.ownsRow B 89 2 v' (l ++ [(y, z)]).length (lineCells (l ++ [(y, z)]))
    rw [List.length_append]
    have e : lineCells (l ++ [(y, z)]) = lineCells l ++ [.int .i64 y, .int .i64 z] := by simp [lineCells]
    rw [e]; exact hown
  · rcases hblk with e | e
    · exact .inl e
    · exact .inr ⟨_, e, by omega⟩
end Go.Proofs.YtekfgkeimlidhaaGreatDoor
