import Derived.Test.YtekfgkeimlidhaaGreatDoorTl
import Derived.Deep.AppendLies
import Derived.Deep.RegionLaw
/- append of one in a region that draws its order -/
set_option linter.all false
set_option maxRecDepth 100000
namespace Go.Proofs.YtekfgkeimlidhaaGreatDoor
open Go.RowKit
section
variable {ops : Array Oper} {o : Oper} {a : Act} {K : Act → World → Prop} {Q : Exit → Act → World → Prop} {E : Prop}
theorem hp_appI_st (W : World) (s x : Operand) (t : TypeId) (ht : Tryz.prog.underlying t = some (.slice 3)) (hgd : o.guard = none)
    (ho : o.op = .call { callee := .builtin .append, args := #[s, x], argTypes := #[t, t] })
    {B : Nat} {e' : TypeId} {L1 L2 : List It} {v : Value} {l : List Int} {y : Int} (h : HP W B (L1 ++ .fl (owI v l) :: L2)) (hs : a.eval s = v) (hx : a.eval x = .slice (some ⟨W.heap.size, 0, none⟩) 1 1)
    (hlen : l.length < 1000000000) (hB : B ≤ W.heap.size)
    (hk : ∀ g cap w', HP w' B (L1 ++ .fl (owI (.slice (some ⟨g, 0, none⟩) (l.length + 1) cap) (l ++ [y])) :: L2) → Below B W w' → K (a.put o.dst (.slice (some ⟨g, 0, none⟩) (l.length + 1) cap)) w') :
    if Region.wanted o (yielded ops a.tmps) = true then Oper.wp Tryz.prog o a (W.alloc (.cells #[Value.int .i64 y] e')) K Q else E := by
  obtain ⟨i0, hi0, hz0, hz1, hz2⟩ := info_parts int_info
  obtain ⟨M1, M2, h1, h2⟩ := h.getAt
  have hown : W.ownsRow B 3 1 v l.length (l.map (Value.int .i64)) := h1.get (o := owI v l) (by simp)
  refine step_append_lies _ hgd s x t ho B 3 i0 _ 1 8 ht hi0 hz0 hz1 hz2 rfl (by omega) v l.length (l.map (Value.int .i64)) hs (hown.alloc _) ⟨W.heap.size, 0, none⟩ 1 1 [.int .i64 y] hx rfl (World.news_of_block (heap_alloc_new W _)) (by simp [Value.oneCell']) (by omega) (by unfold maxLen; omega) (by omega) (by simp; omega) (W.heap.size + 1) (by simp) ?_
  intro g cap w' hown' hg hat hlt
  have hg' : W.grownBy w' v.ownBlock := ⟨hg.os, hg.tape, hg.output, Nat.le_trans (by simp) hg.size, fun k hk' hne => (hg.block k (by simp; omega) hne).trans (Below.heap_alloc W _ k hk')⟩
  refine hk g cap w' (h2 w' _ (h1.upd hg' ?_ ?_)) ((Below.refl _ _).grown hg' hB fun k hk' => (hown.lt k hk').1)
  · show w'.ownsRow B 3 1 _ (l ++ [y]).length ((l ++ [y]).map (Value.int .i64))
    rw [List.length_append, List.map_append]; exact hown'
  · rcases hat with e | e
    · exact .inl e.symm
    · exact .inr ⟨g, rfl, by omega⟩
/-- append(out, line) in a region that draws its order -/
theorem hp_appL_st (W : World) (s x : Operand) (t : TypeId) (ht : Tryz.prog.underlying t = some (.slice 89)) (hgd : o.guard = none)
    (ho : o.op = .call { callee := .builtin .append, args := #[s, x], argTypes := #[t, t] })
    {B : Nat} {e' : TypeId} {L1 L2 : List It} {v : Value} {l : List (Int × Int)} {y1 y2 : Int} (h : HP W B (L1 ++ .fl (owL v l) :: L2)) (hs : a.eval s = v) (hx : a.eval x = .slice (some ⟨W.heap.size, 0, none⟩) 1 1)
    (hlen : l.length < 1000000000) (hB : B ≤ W.heap.size)
    (hk : ∀ g cap w', HP w' B (L1 ++ .fl (owL (.slice (some ⟨g, 0, none⟩) (l.length + 1) cap) (l ++ [(y1, y2)])) :: L2) → Below B W w' → K (a.put o.dst (.slice (some ⟨g, 0, none⟩) (l.length + 1) cap)) w') :
    if Region.wanted o (yielded ops a.tmps) = true then Oper.wp Tryz.prog o a (W.alloc (.cells #[Value.int .i64 y1, Value.int .i64 y2] e')) K Q else E := by
  obtain ⟨i0, hi0, hz0, hz1, hz2⟩ := info_parts line_info
  obtain ⟨M1, M2, h1, h2⟩ := h.getAt
  have hown : W.ownsRow B 89 2 v l.length (lineCells l) := h1.get (o := owL v l) (by simp)
  refine step_append_lies _ hgd s x t ho B 89 i0 _ 2 16 ht hi0 hz0 hz1 hz2 rfl (by omega) v l.length (lineCells l) hs (hown.alloc _) ⟨W.heap.size, 0, none⟩ 1 1 [.int .i64 y1, .int .i64 y2] hx rfl (World.news_of_block (heap_alloc_new W _)) (by simp [Value.oneCell']) (by omega) (by unfold maxLen; omega) (by omega) (by simp; omega) (W.heap.size + 1) (by simp) ?_
  intro g cap w' hown' hg hat hlt
  have hg' : W.grownBy w' v.ownBlock := ⟨hg.os, hg.tape, hg.output, Nat.le_trans (by simp) hg.size, fun k hk' hne => (hg.block k (by simp; omega) hne).trans (Below.heap_alloc W _ k hk')⟩
  refine hk g cap w' (h2 w' _ (h1.upd hg' ?_ ?_)) ((Below.refl _ _).grown hg' hB fun k hk' => (hown.lt k hk').1)
  · show w'.ownsRow B 89 2 _ (l ++ [(y1, y2)]).length (lineCells (l ++ [(y1, y2)]))
    have e : lineCells (l ++ [(y1, y2)]) = lineCells l ++ [.int .i64 y1, .int .i64 y2] := by simp [lineCells]
    rw [List.length_append, e]; exact hown'
  · rcases hat with e | e
    · exact .inl e.symm
    · exact .inr ⟨g, rfl, by omega⟩
end
end Go.Proofs.YtekfgkeimlidhaaGreatDoor
