import Derived.Test.YtfabhdadckohdaaTl
import Derived.Deep.AppendLies
import Derived.Deep.RegionLaw
/- rows of lines that cost something -/
set_option linter.all false
set_option maxRecDepth 100000
namespace Go.Proofs.Ytfabhdadckohdaa
open Go.RowKit
abbrev Cost := Int × Int × Int
def costCells (l : List Cost) : List Value := l.flatMap fun p => [.int .i64 p.1, .int .i64 p.2.1, .int .i64 p.2.2]
theorem costCells_at : ∀ (l : List Cost) (k : Nat) (h : k < l.length), (costCells l)[k * 3]? = some (.int .i64 l[k].1) ∧ (costCells l)[k * 3 + 1]? = some (.int .i64 l[k].2.1) ∧ (costCells l)[k * 3 + 2]? = some (.int .i64 l[k].2.2)
  | p :: l, 0, _ => ⟨rfl, rfl, rfl⟩
  | p :: l, k+1, h => by
    have := costCells_at l k (by simpa using h)
    simpa [costCells, Nat.succ_mul] using this
theorem costCells_len (l : List Cost) : (costCells l).length = l.length * 3 := by
  induction l with
  | nil => rfl
  | cons p l ih => simp only [costCells, List.flatMap_cons, List.length_append, List.length_cons, List.length_nil] at *; omega
def ReadsC (w : World) (B : Nat) (A : Option Addr) (l : List Cost) : Prop := Reads w B 3 A l.length (costCells l)
theorem rdC {w W : World} {A : Option Addr} {l : List Cost} (h : Below w.heap.size w W) (hr : ReadsC w w.heap.size A l) : ReadsC W W.heap.size A l := Reads.more (Reads.below hr h) h.size
theorem ReadsC.drewN' {w : World} {B : Nat} {A : Option Addr} {l : List Cost} (h : ReadsC w B A l) (m : Nat) : ReadsC (w.drewN m) B A l := h
theorem readsC_nil {w : World} {B : Nat} {A : Option Addr} : ReadsC w B A [] := ⟨rfl, fun h => by simp at h⟩
theorem ReadsC.at_ {w : World} {B : Nat} {A : Option Addr} {l : List Cost} {k : Nat} (h : ReadsC w B A l) (hk : k < l.length) :
    ∃ b o, A = some ⟨b, o, none⟩ ∧ b < B ∧ w.cell? ⟨b, o + k * 3, none⟩ = some (.int .i64 l[k].1) ∧ w.cell? ⟨b, o + k * 3 + 1, none⟩ = some (.int .i64 l[k].2.1) ∧ w.cell? ⟨b, o + k * 3 + 2, none⟩ = some (.int .i64 l[k].2.2) := by
  obtain ⟨b, o, e, hb, hc⟩ := h.2 (by omega)
  obtain ⟨h1, h2, h3⟩ := costCells_at l k hk
  exact ⟨b, o, e, hb, hc _ _ h1, hc _ _ h2, hc _ _ h3⟩
theorem ReadsC.ix {W : World} {B : Nat} {A : Option Addr} {l : List Cost} {i : Int} {x : Cost} (h : ReadsC W B A l) (hx : ix l i = some x) :
    ∃ b o, A = some ⟨b, o, none⟩ ∧ b < B ∧ 0 ≤ i ∧ i < (l.length : Int) ∧ W.cell? ⟨b, o + i.toNat * 3, none⟩ = some (.int .i64 x.1) ∧ W.cell? ⟨b, o + i.toNat * 3 + 1, none⟩ = some (.int .i64 x.2.1) ∧ W.cell? ⟨b, o + i.toNat * 3 + 2, none⟩ = some (.int .i64 x.2.2) := by
  obtain ⟨h0, h1, h2⟩ := ix_some hx
  obtain ⟨h3, h4⟩ := List.getElem?_eq_some_iff.1 h2
  obtain ⟨b, o, e, hb, hc, hd, hf⟩ := ReadsC.at_ h h3
  exact ⟨b, o, e, hb, h0, h1, by rw [hc, h4], by rw [hd, h4], by rw [hf, h4]⟩
def owC (v : Value) (l : List Cost) : Ow := ⟨52, 3, v, l.length, costCells l⟩
section
variable {W : World} {B : Nat} {its : List It} {v : Value}
theorem HP.open_C {l : List Cost} (h : HP W B its) (ho : It.fl (owC v l) ∈ its) : ∃ A cap, v = .slice A l.length cap ∧ ReadsC W W.heap.size A l := own_reads (h.get ho)
theorem HP.rd_C {l : List Cost} {cap n : Nat} {A : Option Addr} (h : HP W B its) (ho : It.fl (owC (.slice A n cap) l) ∈ its) : ReadsC W W.heap.size A l := by
  obtain ⟨A', cap', e, hr⟩ := h.open_C ho; cases e; exact hr
theorem HP.len_C {l : List Cost} {cap n : Nat} {A : Option Addr} (h : HP W B its) (ho : It.fl (owC (.slice A n cap) l) ∈ its) : n = l.length := by
  obtain ⟨_, _, e, _⟩ := h.open_C ho; injection e
end
theorem cost_info : (Try.prog.info? 52).map (fun i => (i.zero, i.size, i.bytes)) = some (some (.agg #[.int .i64 0, .int .i64 0, .int .i64 0]), 3, 24) := by kernel_rfl
section
variable {ops : Array Oper} {rest : List Oper} {o : Oper} {a : Act} {Q : Exit → Act → World → Prop}
theorem hp_appC (W : World) (s x : Operand) (t : TypeId) (ht : Try.prog.underlying t = some (.slice 52)) (hgd : o.guard = none)
    (ho : o.op = .call { callee := .builtin .append, args := #[s, x], argTypes := #[t, t] })
    {B : Nat} {e' : TypeId} {L1 L2 : List It} {v : Value} {l : List Cost} {y1 y2 y3 : Int} (h : HP W B (L1 ++ .fl (owC v l) :: L2)) (hs : a.eval s = v) (hx : a.eval x = .slice (some ⟨W.heap.size, 0, none⟩) 1 1)
    (hlen : l.length < 1000000000) (hB : B ≤ W.heap.size)
    (hk : ∀ v' w', HP w' B (L1 ++ .fl (owC v' (l ++ [(y1, y2, y3)])) :: L2) → Below B W w' → wpList Try.prog ops Q rest (a.put o.dst v') w') :
    wpList Try.prog ops Q (o :: rest) a (W.alloc (.cells #[Value.int .i64 y1, Value.int .i64 y2, Value.int .i64 y3] e')) := by
  obtain ⟨i0, hi0, hz0, hz1, hz2⟩ := info_parts cost_info
  obtain ⟨M1, M2, h1, h2⟩ := h.getAt
  refine wp_app1 W s x t hgd ho B 52 e' i0 _ 3 24 ht hi0 hz0 hz1 hz2 rfl (by omega) v l.length (costCells l) hs (h1.get (o := owC v l) (by simp)) [.int .i64 y1, .int .i64 y2, .int .i64 y3] hx rfl (by simp [Value.oneCell']) (by omega) (by omega) hB ?_
  intro v' w' hown hg hblk hb
  refine hk v' w' (h2 w' _ (h1.upd hg ?_ ?_)) hb
  · show w'.ownsRow B 52 3 v' (l ++ [(y1, y2, y3)]).length (costCells (l ++ [(y1, y2, y3)]))
    have e : costCells (l ++ [(y1, y2, y3)]) = costCells l ++ [.int .i64 y1, .int .i64 y2, .int .i64 y3] := by simp [costCells]
    rw [List.length_append, e]; exact hown
  · rcases hblk with e | e
    · exact .inl e
    · exact .inr ⟨_, e, by omega⟩
end
theorem litC_ok (W : World) (l : List Cost) (hl : l.length ≤ maxLen) : (owC (.slice (some ⟨W.heap.size, 0, none⟩) l.length l.length) l).ok (W.alloc (.cells (costCells l).toArray 52)) W.heap.size := by
  have := own_lit (w := W) (base := W.heap.size) (n := l.length) (e := 52) (costCells l).toArray 3 (by simpa using costCells_len l) (Nat.le_refl _) hl
  simpa [Ow.ok, owC] using this
theorem boxRC (W : World) (y : Cost) : (owC (.slice (some ⟨W.heap.size, 0, none⟩) 1 1) [y]).ok (W.alloc (.cells #[Value.int .i64 y.1, Value.int .i64 y.2.1, Value.int .i64 y.2.2] 52)) W.heap.size := by
  have := own_lit (w := W) (base := W.heap.size) (n := 1) (e := 52) (#[Value.int .i64 y.1, Value.int .i64 y.2.1, Value.int .i64 y.2.2]) 3 (by simp) (Nat.le_refl _) (by unfold maxLen; omega)
  simpa [Ow.ok, owC, costCells] using this
theorem boxC {W : World} {B g : Nat} {y : Cost} (h : ReadsC W B (some ⟨g, 0, none⟩) [y]) : W.cell? ⟨g, 0, none⟩ = some (.int .i64 y.1) ∧ W.cell? ⟨g, 1, none⟩ = some (.int .i64 y.2.1) ∧ W.cell? ⟨g, 2, none⟩ = some (.int .i64 y.2.2) := by
  obtain ⟨b, o, e, hb, h1, h2, h3⟩ := ReadsC.at_ h (k := 0) (by simp)
  cases e
  exact ⟨by simpa using h1, by simpa using h2, by simpa using h3⟩
section
variable {ops : Array Oper} {o : Oper} {a : Act} {K : Act → World → Prop} {Q : Exit → Act → World → Prop} {E : Prop}
/-- append(out, line) in a region that draws its order -/
theorem hp_appC_st (W : World) (s x : Operand) (t : TypeId) (ht : Try.prog.underlying t = some (.slice 52)) (hgd : o.guard = none)
    (ho : o.op = .call { callee := .builtin .append, args := #[s, x], argTypes := #[t, t] })
    {B : Nat} {e' : TypeId} {L1 L2 : List It} {v : Value} {l : List Cost} {y1 y2 y3 : Int} (h : HP W B (L1 ++ .fl (owC v l) :: L2)) (hs : a.eval s = v) (hx : a.eval x = .slice (some ⟨W.heap.size, 0, none⟩) 1 1)
    (hlen : l.length < 1000000000) (hB : B ≤ W.heap.size)
    (hk : ∀ g cap w', HP w' B (L1 ++ .fl (owC (.slice (some ⟨g, 0, none⟩) (l.length + 1) cap) (l ++ [(y1, y2, y3)])) :: L2) → Below B W w' → K (a.put o.dst (.slice (some ⟨g, 0, none⟩) (l.length + 1) cap)) w') :
    if Region.wanted o (yielded ops a.tmps) = true then Oper.wp Try.prog o a (W.alloc (.cells #[Value.int .i64 y1, Value.int .i64 y2, Value.int .i64 y3] e')) K Q else E := by
  obtain ⟨i0, hi0, hz0, hz1, hz2⟩ := info_parts cost_info
  obtain ⟨M1, M2, h1, h2⟩ := h.getAt
  have hown : W.ownsRow B 52 3 v l.length (costCells l) := h1.get (o := owC v l) (by simp)
  refine step_append_lies _ hgd s x t ho B 52 i0 _ 3 24 ht hi0 hz0 hz1 hz2 rfl (by omega) v l.length (costCells l) hs (hown.alloc _) ⟨W.heap.size, 0, none⟩ 1 1 [.int .i64 y1, .int .i64 y2, .int .i64 y3] hx rfl (World.news_of_block (heap_alloc_new W _)) (by simp [Value.oneCell']) (by omega) (by unfold maxLen; omega) (by omega) (by simp; omega) (W.heap.size + 1) (by simp) ?_
  intro g cap w' hown' hg hat hlt
  have hg' : W.grownBy w' v.ownBlock := ⟨hg.os, hg.tape, hg.output, Nat.le_trans (by simp) hg.size, fun k hk' hne => (hg.block k (by simp; omega) hne).trans (Below.heap_alloc W _ k hk')⟩
  refine hk g cap w' (h2 w' _ (h1.upd hg' ?_ ?_)) ((Below.refl _ _).grown hg' hB fun k hk' => (hown.lt k hk').1)
  · show w'.ownsRow B 52 3 _ (l ++ [(y1, y2, y3)]).length (costCells (l ++ [(y1, y2, y3)]))
    have e : costCells (l ++ [(y1, y2, y3)]) = costCells l ++ [.int .i64 y1, .int .i64 y2, .int .i64 y3] := by simp [costCells]
    rw [List.length_append, e]; exact hown'
  · rcases hat with e | e
    · exact .inl e.symm
    · exact .inr ⟨g, rfl, by omega⟩
end
end Go.Proofs.Ytfabhdadckohdaa
