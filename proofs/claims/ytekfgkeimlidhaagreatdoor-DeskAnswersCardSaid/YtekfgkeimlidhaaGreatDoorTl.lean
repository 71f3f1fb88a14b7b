import Derived.Test.YtekfgkeimlidhaaGreatDoorHP2
import Derived.StillTailTactics
import Derived.IntWalk
import Derived.Deep.DeepCutAuto
/- rows of which the front is cut off, and rows put into rows of rows -/
set_option linter.all false
set_option maxRecDepth 100000
namespace Go.Proofs.YtekfgkeimlidhaaGreatDoor
open Go.RowKit
section
variable {W W' : World} {B : Nat} {its its1 its2 : List It} {L L1 L2 : List Ow} {V V' v : Value} {ls : List (List Int)} {l : List Int}
theorem Fl.memT : ∀ {its : List It} {L : List Ow}, Fl its L → ∀ {v : Value} {l : List Int}, It.tl v l ∈ its → ∃ vf pre, TailV vf v pre.length l.length ∧ owI vf (pre ++ l) ∈ L
  | _, _, .fl o h, v', l', hm => by
    rcases List.mem_cons.1 hm with e | hm
    · cases e
    · obtain ⟨vf, pre, h1, h2⟩ := Fl.memT h hm
      exact ⟨vf, pre, h1, List.mem_cons_of_mem _ h2⟩
  | _, _, .ro V hl h, v', l', hm => by
    rcases List.mem_cons.1 hm with e | hm
    · cases e
    · obtain ⟨vf, pre, h1, h2⟩ := Fl.memT h hm
      exact ⟨vf, pre, h1, List.mem_cons_of_mem _ (List.mem_append_right _ h2)⟩
  | _, _, .bk g e0 h, v', l', hm => by
    rcases List.mem_cons.1 hm with e | hm
    · cases e
    · obtain ⟨vf, pre, h1, h2⟩ := Fl.memT h hm
      exact ⟨vf, pre, h1, List.mem_cons_of_mem _ (List.mem_cons_of_mem _ h2)⟩
  | _, _, .tl v (vf := vf) (pre := pre) e0 h, v', l', hm => by
    rcases List.mem_cons.1 hm with e | hm
    · cases e; exact ⟨vf, pre, e0, List.mem_cons_self⟩
    · obtain ⟨vf, pre, h1, h2⟩ := Fl.memT h hm
      exact ⟨vf, pre, h1, List.mem_cons_of_mem _ h2⟩
theorem HP.open_T (h : HP W B its) (ho : It.tl v l ∈ its) : ∃ A cap, v = .slice A l.length cap ∧ ReadsI W W.heap.size A l := by
  obtain ⟨L, h1, h2⟩ := h
  obtain ⟨vf, pre, e1, e2⟩ := h2.memT ho
  obtain ⟨A, cap, e, hr⟩ := own_readsI (h1.get e2)
  rcases e1 with ⟨rfl, e0⟩ | ⟨g, c, rfl, rfl, hc⟩ | ⟨ad, rfl, hn⟩
  · have : pre = [] := List.eq_nil_of_length_eq_zero e0
    subst this
    exact ⟨A, cap, e, hr⟩
  · refine ⟨_, _, rfl, by simp, fun hn => ?_⟩
    obtain ⟨b, o, ea, hb, hcell⟩ := hr.2 (by rw [List.length_append]; omega)
    subst ea
    injection e with e _ _
    injection e with e
    injection e with e1 e2 _
    subst e1; subst e2
    refine ⟨g, pre.length, rfl, hb, fun j u hu => ?_⟩
    have := hcell (pre.length + j) u (by rw [List.map_append, List.getElem?_append_right (by simp)]; simpa using hu)
    simpa using this
  · exact ⟨_, 0, by rw [hn], by simp, fun h => by omega⟩
theorem HP.rd_T {cap n : Nat} {A : Option Addr} (h : HP W B its) (ho : It.tl (.slice A n cap) l ∈ its) : ReadsI W W.heap.size A l := by
  obtain ⟨A', cap', e, hr⟩ := h.open_T ho; cases e; exact hr
theorem HP.toTl (h : HP W B (its1 ++ .fl (owI v l) :: its2)) : HP W B (its1 ++ .tl v l :: its2) := by
  obtain ⟨L, h1, h2⟩ := h
  obtain ⟨M1, M2, rfl, f1, f2⟩ := Fl.split h2
  cases f2 with
  | fl _ f2 => exact ⟨_, h1, Fl.join f1 (Fl.tl v (vf := v) (pre := []) (l := l) (.inl ⟨rfl, rfl⟩) f2)⟩
/-- where a slice begins whose front is cut off -/
def sl1 (A : Option Addr) (cap k : Nat) : Option Addr := if cap = k then A else A.map fun a => a.add (k * 1)
/-- the front cut off -/
theorem HP.dropT {A : Option Addr} {cap n : Nat} {k : Nat} (h : HP W B (its1 ++ .tl (.slice A n cap) l :: its2)) (hk : k ≤ l.length) :
    HP W B (its1 ++ .tl (.slice (sl1 A cap k) (n - k) (cap - k)) (l.drop k) :: its2) := by
  obtain ⟨L, h1, h2⟩ := h
  obtain ⟨M1, M2, rfl, f1, f2⟩ := Fl.split h2
  cases f2 with
  | @tl _ vf pre _ _ M3 e f2 =>
  have hl : (pre ++ l.take k).length = pre.length + k := by rw [List.length_append, List.length_take]; omega
  refine ⟨M1 ++ owI vf ((pre ++ l.take k) ++ l.drop k) :: M3, by rw [List.append_assoc, List.take_append_drop]; exact h1, Fl.join f1 (.tl _ ?_ f2)⟩
  rw [hl, List.length_drop]
  rcases e with ⟨e1, e2⟩ | ⟨g, c, rfl, e2, hc⟩ | ⟨ad, e1, hn⟩
  · have hp : pre = [] := List.eq_nil_of_length_eq_zero e2
    subst hp
    have hok := h1.get (o := owI vf ([] ++ l)) (by simp)
    rcases hok.2 with ⟨e3, e4⟩ | ⟨g, cap', cur, e3, _, _, h4, _⟩
    · have e4' : l.length = 0 := e4
      have e3' : vf = .slice none 0 0 := e3
      rw [e3'] at e1
      injection e1 with a1 a2 a3
      subst a1; subst a2; subst a3
      left
      rw [e3']
      have : k = 0 := by omega
      subst this
      exact ⟨by simp [sl1], by simp⟩
    · have e3' : vf = .slice (some ⟨g, 0, none⟩) ([] ++ l).length cap' := e3
      rw [e3'] at e1
      injection e1 with a1 a2 a3
      subst a1; subst a2; subst a3
      have h4' : ([] ++ l).length ≤ cap' := h4
      rw [List.nil_append] at h4'
      right
      by_cases hcap : cap' = k
      · right
        have : l.length = k := by omega
        exact ⟨⟨g, 0, none⟩, by simp [sl1, hcap, this], by omega⟩
      · left
        refine ⟨g, cap' - k, by rw [e3']; congr 1 <;> simp <;> omega, ?_, by omega⟩
        simp [sl1, hcap, Addr.add]
        intro h; exact h.symm
  · right
    injection e2 with a1 a2 a3
    subst a1; subst a2; subst a3
    by_cases hcap : cap = k
    · right
      exact ⟨⟨g, pre.length, none⟩, by simp [sl1, hcap]; omega, by omega⟩
    · left
      refine ⟨g, cap - k, by congr 1 <;> omega, ?_, by omega⟩
      simp [sl1, hcap, Addr.add, Nat.add_assoc]
      try (intro h; exact h.symm)
  · injection e1 with a1 a2 a3
    subst a1; subst a2; subst a3
    have : k = 0 := by omega
    subst this
    exact .inr (.inr ⟨ad, by simp [sl1], by omega⟩)
end
/-- l[k:] -/
def dr {α : Type} (l : List α) (k : Int) : Option (List α) := if 0 ≤ k ∧ k ≤ (l.length : Int) then some (l.drop k.toNat) else none
theorem dr_some {α : Type} {l r : List α} {k : Int} (h : dr l k = some r) : (0 ≤ k ∧ k ≤ (l.length : Int)) ∧ l.drop k.toNat = r := s_of h
/-- l[:k] -/
def tk {α : Type} (l : List α) (k : Int) : Option (List α) := if 0 ≤ k ∧ k ≤ (l.length : Int) then some (l.take k.toNat) else none
theorem tk_some {α : Type} {l r : List α} {k : Int} (h : tk l k = some r) : (0 ≤ k ∧ k ≤ (l.length : Int)) ∧ l.take k.toNat = r := s_of h
theorem run_sliceD {W : World} {cap n : Nat} {A : Option Addr} {k : Int} (hk : 0 ≤ k ∧ k ≤ (n : Int)) (hc : n ≤ cap) :
    (Instr.slice 62 (.slice A n cap) (some (.int .i64 k)) none none).run Tryz.prog W = .ok (.slice (sl1 A cap k.toNat) (n - k.toNat) (cap - k.toNat)) W := by
  obtain ⟨i0, hi0, hz0, hz1, hz2⟩ := info_parts int_info
  obtain ⟨j, rfl⟩ := Int.eq_ofNat_of_zero_le hk.1
  have h1 : j ≤ n := by omega
  by_cases hcap : cap = j
  · simp [Instr.slice, run_underlying Tryz.underlying62, Instr.sliceBounds, Instr.sliceBound, asIntOf, hc, h1, sizeOf, typeInfo, hi0, hz1, Sem.run_bind, Sem.run_pure, sl1, hcap]
  · simp [Instr.slice, run_underlying Tryz.underlying62, Instr.sliceBounds, Instr.sliceBound, asIntOf, hc, h1, sizeOf, typeInfo, hi0, hz1, Sem.run_bind, Sem.run_pure, sl1, hcap]
    try omega
/-- a row takes another one's place, in a new block -/
theorem OA.fresh {W W' : World} {B n : Nat} {L1 L2 : List Ow} {o : Ow} {v' : Value} {l' : List Int} (h : OA W B (L1 ++ o :: L2)) (ho : W'.ownsRow (W.heap.size + 1) 3 1 v' n (l'.map (Value.int .i64))) (hb : Below W.heap.size W W') (hB : B ≤ W.heap.size) : OA W' B (L1 ++ owI v' l' :: L2) := by
  have hn : n = l'.length := by have := ho.1; simpa using this.symm
  subst hn
  exact ((h.sub (List.Sublist.append_left (List.sublist_cons_self _ _) _)).call (o := owI v' l') hb hB (own_weak ho (by omega))).perm List.perm_middle.symm
section
variable {ops : Array Oper} {rest : List Oper} {o : Oper} {a : Act} {Q : Exit → Act → World → Prop}
end
theorem run_appT (W : World) (t ot : TypeId) (ht : Tryz.prog.underlying t = some (.slice 3))
    {B : Nat} {e' : TypeId} {L1 L2 : List It} {v : Value} {l : List Int} {y : Int} (h : HP W B (L1 ++ .tl v l :: L2)) (hlen : l.length < 1000000000) (hB : B ≤ W.heap.size) :
    ∃ v' w', (Builtin.append_ #[t, t] ot #[v, .slice (some ⟨W.heap.size, 0, none⟩) 1 1]).run Tryz.prog (W.alloc (.cells #[Value.int .i64 y] e')) = .ok v' w' ∧
      HP w' B (L1 ++ .tl v' (l ++ [y]) :: L2) ∧ Below B W w' ∧ NC W w' := by
  obtain ⟨i0, hi0, hz0, hz1, hz2⟩ := info_parts int_info
  have hnews : ∀ j u, [Value.int .i64 y][j]? = some u → (W.alloc (.cells #[Value.int .i64 y] e')).cell? ((⟨W.heap.size, 0, none⟩ : Addr).add j) = some u := by
    intro j u hu
    have e1 : ((⟨W.heap.size, 0, none⟩ : Addr).add j) = ⟨W.heap.size, j, none⟩ := by unfold Addr.add; split <;> simp_all
    rw [e1, cell_of_row _ _ _ _ _ _ (heap_alloc_new W _)]
    simpa using hu
  have hal : Below W.heap.size W (W.alloc (.cells #[Value.int .i64 y] e')) := (Below.refl _ _).alloc (Nat.le_refl _) _
  have hsz : (W.alloc (.cells #[Value.int .i64 y] e')).heap.size = W.heap.size + 1 := by simp
  obtain ⟨L, h1, h2⟩ := h
  obtain ⟨M1, M2, rfl, f1, f2⟩ := Fl.split h2
  cases f2 with
  | @tl _ vf pre _ _ M3 e f2 =>
  suffices key : ∃ v' vf' w' pre', (Builtin.append_ #[t, t] ot #[v, .slice (some ⟨W.heap.size, 0, none⟩) 1 1]).run Tryz.prog (W.alloc (.cells #[Value.int .i64 y] e')) = .ok v' w' ∧ TailV vf' v' (List.length pre') (l.length + 1) ∧ OA w' B (M1 ++ owI vf' (pre' ++ (l ++ [y])) :: M3) ∧ Below B W w' ∧ NC W w' by
    obtain ⟨v', vf', w', pre', hrun, ht', hoa, hb, hn⟩ := key
    exact ⟨v', w', hrun, ⟨_, hoa, Fl.join f1 (.tl v' (by rw [List.length_append]; exact ht') f2)⟩, hb, hn⟩
  rcases e with ⟨rfl, e0⟩ | ⟨g, c, rfl, rfl, hc⟩ | ⟨ad, rfl, hn⟩
  · have hp : pre = [] := List.eq_nil_of_length_eq_zero e0
    subst hp
    have hown : W.ownsRow B 3 1 vf l.length (l.map (Value.int .i64)) := h1.get (o := owI vf l) (by simp)
    obtain ⟨v', w', r1, r2, r3, _, r5⟩ := run_append_own_at (P := Tryz.prog) (W.alloc (.cells #[Value.int .i64 y] e')) B t ot 3 i0 _ 1 8 ht hi0 hz0 hz1 hz2 rfl (by omega) vf l.length _ (hown.alloc _) ⟨W.heap.size, 0, none⟩ 1 1 [.int .i64 y] rfl hnews (by simp [Value.oneCell']) (by unfold maxLen; omega) (by omega) (by omega)
    have hg : W.grownBy w' vf.ownBlock :=
      ⟨r3.os, r3.tape, r3.output, Nat.le_trans (by simp) r3.size, fun k hk hne => (r3.block k (by simp; omega) hne).trans (Below.heap_alloc W _ k hk)⟩
    refine ⟨v', v', w', [], r1, .inl ⟨rfl, rfl⟩, h1.upd hg ?_ ?_, (Below.refl _ _).grown hg hB fun k hk' => (hown.lt k hk').1, NC.grown hg fun g hg' => own_cells hown hg'⟩
    · show w'.ownsRow B 3 1 v' (l ++ [y]).length ((l ++ [y]).map (Value.int .i64))
      rw [List.length_append, List.map_append]; exact r2
    · rcases r5 with e | e
      · exact .inl e
      · exact .inr ⟨_, e, by omega⟩
  · have hown : W.ownsRow B 3 1 (.slice (some ⟨g, 0, none⟩) (pre.length + l.length) (pre.length + c)) (pre ++ l).length ((pre ++ l).map (Value.int .i64)) := h1.get (o := owI _ (pre ++ l)) (by simp)
    have hgl := hown.lt g rfl
    by_cases hroom : l.length + 1 ≤ c
    · have hr1 := run_append_room_cells (P := Tryz.prog) (W.alloc (.cells #[Value.int .i64 y] e')) t ot 3 i0 ht hi0 g pre.length l.length c ⟨W.heap.size, 0, none⟩ 1 1 [.int .i64 y] (by rw [hz1]; rfl) hnews (by simp [Value.oneCell']) hroom
      rw [hz1] at hr1
      rcases hown.2 with ⟨q1, q2⟩ | ⟨g', cap', cur, q1, q2, q3, q4, q5, q6, q7⟩
      · cases q1
      injection q1 with qa qb qc
      injection qa with qa
      injection qa with qa _ _
      subst qa; subst qc
      rw [List.length_append] at q4 q7
      have h3 : (W.alloc (.cells #[Value.int .i64 y] e')).heap[g]? = some (.cells cur 3 (0, 0)) := (Below.heap_alloc W _ g hgl.2).trans q3
      have hsz2 : pre.length + l.length * 1 + 0 < cur.size := by omega
      have hr1' := hr1 (fun j hj => by
        have hj0 : j = 0 := by simpa using hj
        subst hj0
        rw [cell_of_row _ _ _ _ _ _ h3, Array.getElem?_eq_getElem hsz2]; rfl) (fun j hj => by simp [World.frozen?, h3])
      have e2 : (W.alloc (.cells #[Value.int .i64 y] e')).setCells g (pre.length + l.length * 1) [.int .i64 y] = (W.alloc (.cells #[Value.int .i64 y] e')).setCell ⟨g, pre.length + l.length, none⟩ (.int .i64 y) := by simp [World.setCells]
      rw [e2] at hr1'
      have hg : W.grownBy ((W.alloc (.cells #[Value.int .i64 y] e')).setCell ⟨g, pre.length + l.length, none⟩ (.int .i64 y)) (some g) :=
        ⟨rfl, rfl, rfl, by simp [World.setCell], fun k hk hne => (Below.heap_setCell _ ⟨g, _, none⟩ _ k (fun e => hne (by rw [e]))).trans (Below.heap_alloc W _ k hk)⟩
      refine ⟨_, .slice (some ⟨g, 0, none⟩) (pre.length + (l.length + 1)) (pre.length + c), _, pre, hr1', .inr (.inl ⟨g, c, rfl, rfl, hroom⟩), h1.upd hg ⟨?_, ?_⟩ (.inl rfl), (hal.mono hB).setCell (p := ⟨g, _, none⟩) hgl.1 _, (NC.alloc _ _).trans (NC.setCell _ _ _)⟩
      · simp [owI]
      · refine .inr ⟨g, pre.length + c, cur.setIfInBounds (pre.length + l.length) (.int .i64 y), by simp [owI], q2, ?_, by simp [owI]; omega, q5, by rw [Array.size_setIfInBounds]; exact q6, ?_⟩
        · show ((W.alloc (.cells #[Value.int .i64 y] e')).setCell ⟨g, pre.length + l.length, none⟩ (.int .i64 y)).heap[g]? = _
          simp [World.setCell, Array.getElem?_modify, h3]
          try rfl
        · show (cur.setIfInBounds (pre.length + l.length) (.int .i64 y)).toList.take ((pre ++ (l ++ [y])).length * 1) = (pre ++ (l ++ [y])).map (Value.int .i64)
          have e3 : (pre ++ (l ++ [y])).length * 1 = (pre.length + l.length) + 1 := by simp; omega
          have e4 : (pre ++ (l ++ [y])).map (Value.int .i64) = (pre ++ l).map (Value.int .i64) ++ [Value.int .i64 y] := by simp
          rw [e3, e4, ← q7, Array.toList_setIfInBounds, List.take_succ_eq_append_getElem (by simp; omega), List.take_set, Nat.mul_one]
          congr 1
          · rw [List.set_eq_of_length_le (by simp; omega)]
          · simp
    · obtain ⟨v', w', r1, r2, r3⟩ := run_append_arg_grows (P := Tryz.prog) (W.alloc (.cells #[Value.int .i64 y] e')) t ot 3 i0 _ 1 8 ht hi0 hz0 hz1 hz2 rfl (by omega) ⟨g, pre.length, none⟩ l.length c (l.map (Value.int .i64)) (by simp) (fun j u hu => by
        rw [Go.WideShapes.add_plain]
        have hcc := hown.cells (g := g) rfl (pre.length + j) u (by rw [List.map_append, List.getElem?_append_right (by simp)]; simpa using hu)
        rw [show ((⟨g, 0, none⟩ : Addr).add (pre.length + j)) = ⟨g, pre.length + j, none⟩ from by unfold Addr.add; split <;> simp_all] at hcc
        exact (hal.cell (p := ⟨g, pre.length + j, none⟩) hgl.2).trans hcc) ⟨W.heap.size, 0, none⟩ 1 1 [.int .i64 y] rfl hnews (by omega) (by unfold maxLen; omega) (by omega)
      rw [hsz] at r2
      have r2' : w'.ownsRow (W.heap.size + 1) 3 1 v' (l.length + 1) ((l ++ [y]).map (Value.int .i64)) := by rw [List.map_append]; exact r2
      exact ⟨v', v', w', [], r1, .inl ⟨rfl, rfl⟩, h1.fresh r2' (hal.grown r3 (by omega) (fun k hk => by cases hk)) hB, (hal.grown r3 (by omega) (fun k hk => by cases hk)).mono hB, (NC.alloc _ _).trans (NC.grown r3 (fun k hk => by cases hk))⟩
  · have hl0 : l = [] := List.eq_nil_of_length_eq_zero hn
    subst hl0
    obtain ⟨v', w', r1, r2, r3⟩ := run_append_arg_grows (P := Tryz.prog) (W.alloc (.cells #[Value.int .i64 y] e')) t ot 3 i0 _ 1 8 ht hi0 hz0 hz1 hz2 rfl (by omega) ad 0 0 [] (by simp) (fun j u hu => by simp at hu) ⟨W.heap.size, 0, none⟩ 1 1 [.int .i64 y] rfl hnews (by omega) (by unfold maxLen; omega) (by omega)
    rw [hsz] at r2
    exact ⟨v', v', w', [], r1, .inl ⟨rfl, rfl⟩, h1.fresh r2 (hal.grown r3 (by omega) (fun k hk => by cases hk)) hB, (hal.grown r3 (by omega) (fun k hk => by cases hk)).mono hB, (NC.alloc _ _).trans (NC.grown r3 (fun k hk => by cases hk))⟩
section
variable {ops : Array Oper} {rest : List Oper} {o : Oper} {a : Act} {Q : Exit → Act → World → Prop}
/-- append(x, y), x a row of which the front may be cut off -/
theorem hp_appT (W : World) (s x : Operand) (t : TypeId) (ht : Tryz.prog.underlying t = some (.slice 3)) (hgd : o.guard = none)
    (ho : o.op = .call { callee := .builtin .append, args := #[s, x], argTypes := #[t, t] })
    {B : Nat} {e' : TypeId} {L1 L2 : List It} {v : Value} {l : List Int} {y : Int} (h : HP W B (L1 ++ .tl v l :: L2)) (hs : a.eval s = v) (hx : a.eval x = .slice (some ⟨W.heap.size, 0, none⟩) 1 1)
    (hlen : l.length < 1000000000) (hB : B ≤ W.heap.size)
    (hk : ∀ v' w', HP w' B (L1 ++ .tl v' (l ++ [y]) :: L2) → Below B W w' → wpList Tryz.prog ops Q rest (a.put o.dst v') w') :
    wpList Tryz.prog ops Q (o :: rest) a (W.alloc (.cells #[Value.int .i64 y] e')) := by
  obtain ⟨v', w', hrun, hh, hb, _⟩ := run_appT (e' := e') (y := y) W t o.type ht h hlen hB
  refine wpList_plain hgd fun K hK => ?_
  unfold Oper.wp execOp
  simp only [ho, resolve, invoke, builtin, Sem.run_bind, Sem.run_pure, Result.andThen_ok, List.map_toArray, List.map_cons, List.map_nil, hs, hx, hrun]
  exact hK _ _ (hk v' w' hh hb)
end
theorem seg_set2 : ∀ {vs : List Value} {ls : List (List Int)}, vs.length = ls.length → ∀ {k : Nat} {v : Value} {l : List Int}, vs[k]? = some v → ls[k]? = some l → ∃ S1 S2, seg vs ls = S1 ++ owI v l :: S2 ∧ ∀ v' l', seg (vs.set k v') (ls.set k l') = S1 ++ owI v' l' :: S2
  | [], [], _, k, v, l, h, _ => by simp at h
  | v0 :: vs, l0 :: ls, hl, 0, v, l, h1, h2 => by
    simp at h1 h2; subst h1; subst h2
    exact ⟨[], seg vs ls, rfl, fun v' l' => rfl⟩
  | v0 :: vs, l0 :: ls, hl, k+1, v, l, h1, h2 => by
    obtain ⟨S1, S2, e1, e2⟩ := seg_set2 (vs := vs) (ls := ls) (by simpa using hl) (k := k) (by simpa using h1) (by simpa using h2)
    refine ⟨owI v0 l0 :: S1, S2, ?_, fun v' l' => ?_⟩
    · unfold seg at e1 ⊢; simp only [List.zipWith_cons_cons, e1, List.cons_append]
    · have := e2 v' l'; unfold seg at this ⊢; simp only [List.set_cons_succ, List.zipWith_cons_cons, this, List.cons_append]
theorem ownV_form {W : World} {B n cap : Nat} {A : Option Addr} {vs : List Value} (h : Ow.ok W B (owV (.slice A n cap) vs)) (hl : 0 < vs.length) : ∃ g, A = some ⟨g, 0, none⟩ ∧ n = vs.length ∧
    (∀ k x, vs[k]? = some x → W.cell? ⟨g, k, none⟩ = some x) ∧ ∀ k, W.frozen? ⟨g, k, none⟩ = false := by
  rcases h.2 with ⟨h1, h2⟩ | ⟨g, cap', cur, e1, h2, h3, h4, h5, h6, h7⟩
  · have : (owV (.slice A n cap) vs).n = vs.length := rfl
    omega
  · have e1' : Value.slice A n cap = .slice (some ⟨g, 0, none⟩) vs.length cap' := e1
    injection e1' with ea en ec
    subst ea; subst en; subst ec
    refine ⟨g, rfl, rfl, fun k x hx => ?_, fun k => by simp [World.frozen?, h3]⟩
    have := World.ownsRow.cells h (g := g) rfl k x hx
    rwa [show ((⟨g, 0, none⟩ : Addr).add k) = ⟨g, k, none⟩ from by unfold Addr.add; split <;> simp_all] at this
/-- a row of its own is put into a row of rows -/
theorem HP.setRow {W : World} {B n cap : Nat} {its1 its2 : List It} {A : Option Addr} {ls : List (List Int)} {vr : Value} {r : List Int} (h : HP W B (.fl (owI vr r) :: (its1 ++ .ro (.slice A n cap) ls :: its2))) {i : Int} (hi : 0 ≤ i ∧ i < (ls.length : Int)) :
    ∃ g, A = some ⟨g, 0, none⟩ ∧ W.frozen? ⟨g, i.toNat, none⟩ = false ∧ (∃ u, W.cell? ⟨g, i.toNat, none⟩ = some u) ∧
      HP (W.setCell ⟨g, i.toNat, none⟩ vr) B (its1 ++ .ro (.slice A n cap) (ls.set i.toNat r) :: its2) ∧ Below B W (W.setCell ⟨g, i.toNat, none⟩ vr) := by
  obtain ⟨L, h1, h2⟩ := h
  cases h2 with
  | fl _ h2 =>
  obtain ⟨M1, M2, rfl, f1, f2⟩ := Fl.split h2
  cases f2 with
  | @ro _ vs _ _ M3 hl f3 =>
  have h1' : OA W B ((owI vr r :: M1) ++ owV (.slice A n cap) vs :: (seg vs ls ++ M3)) := by simpa using h1
  obtain ⟨g, rfl, rfl, hc, hf⟩ := ownV_form (h1'.get (o := owV (.slice A n cap) vs) (by simp)) (by omega)
  have hil : i.toNat < vs.length := by omega
  have hv : vs[i.toNat]? = some vs[i.toNat] := List.getElem?_eq_getElem hil
  have hli : ls[i.toNat]? = some (ls[i.toNat]'(by omega)) := List.getElem?_eq_getElem (by omega)
  obtain ⟨h3, h4⟩ := OA.set h1' (k := i.toNat) (u := vr) hil rfl rfl
  obtain ⟨S1, S2, e1, e2⟩ := seg_set2 hl hv hli
  refine ⟨g, rfl, hf _, ⟨_, hc _ _ hv⟩, ⟨M1 ++ (owV (.slice (some ⟨g, 0, none⟩) vs.length cap) (vs.set i.toNat vr) :: (seg (vs.set i.toNat vr) (ls.set i.toNat r) ++ M3)), ?_, Fl.join f1 (.ro _ (by simpa using hl) f3)⟩, h4⟩
  rw [e2]
  have e : owV (.slice (some ⟨g, 0, none⟩) vs.length cap) (vs.set i.toNat vr) = ⟨62, 1, .slice (some ⟨g, 0, none⟩) vs.length cap, vs.length, vs.set i.toNat vr⟩ := by
    unfold owV; rw [List.length_set]
  rw [e]
  rw [e1] at h3
  have h5 := h3.sub (L' := owI vr r :: (M1 ++ ⟨62, 1, .slice (some ⟨g, 0, none⟩) vs.length cap, vs.length, vs.set i.toNat vr⟩ :: (S1 ++ S2 ++ M3))) (by
    refine List.Sublist.cons_cons _ (List.Sublist.append_left (List.Sublist.cons_cons _ ?_) _)
    rw [List.append_assoc, List.append_assoc]
    exact List.Sublist.append_left (List.sublist_cons_self _ _) _)
  refine h5.perm ?_
  refine (List.perm_middle (l₁ := M1) (a := owI vr r)).symm.trans (List.Perm.append_left _ ?_)
  refine (List.Perm.swap _ _ _).trans (List.Perm.cons _ ?_)
  rw [List.append_assoc, List.append_assoc]
  exact List.perm_middle.symm
/-- n rows that are empty -/
def mkR (n : Int) : Option (List (List Int)) := if 0 ≤ n ∧ n < 1000000000 then some (List.replicate n.toNat []) else none
theorem mkR_some {n : Int} {r : List (List Int)} (h : mkR n = some r) : (0 ≤ n ∧ n < 1000000000) ∧ List.replicate n.toNat [] = r := s_of h
theorem run_makeR {n : Int} (h : 0 ≤ n ∧ n < 1000000000) (W : World) : (Instr.makeSlice 93 (.int .i64 n) (.int .i64 n)).run Tryz.prog W =
    .ok (.slice (some ⟨W.heap.size, 0, none⟩) n.toNat n.toNat) (W.alloc (.cells (Array.replicate n.toNat (Value.slice none 0 0)) 62)) := by
  obtain ⟨k, rfl⟩ := Int.eq_ofNat_of_zero_le h.1
  have := run_make_row' (P := Tryz.prog) 93 62 (.slice none 0 0) 24 Tryz.underlying93 row1_info rfl .i64 .i64 k (by omega) (by omega) W
  rw [Int.toNat_natCast, this]
  congr 3
  apply Array.ext'
  simp only [madeCells, Array.toList_map, Array.toList_range, Array.toList_replicate]
  rw [List.eq_replicate_iff]
  refine ⟨by simp, fun b hb => ?_⟩
  obtain ⟨x, _, rfl⟩ := List.mem_map.1 hb
  have : x % (#[Value.slice none 0 0] : Array Value).size = 0 := Nat.mod_one x
  rw [this]; rfl
theorem seg_rep : ∀ n, seg (List.replicate n (.slice none 0 0)) (List.replicate n []) = List.replicate n (owI (.slice none 0 0) [])
  | 0 => rfl
  | n+1 => by have := seg_rep n; unfold seg at this ⊢; rw [List.replicate_succ, List.replicate_succ, List.zipWith_cons_cons, this]; rfl
theorem mkR_ok (W : World) {n : Int} (h : 0 ≤ n ∧ n < 1000000000) : HP (W.alloc (.cells (Array.replicate n.toNat (Value.slice none 0 0)) 62)) W.heap.size [.ro (.slice (some ⟨W.heap.size, 0, none⟩) n.toNat n.toNat) (List.replicate n.toNat [])] := by
  have h1 : (owV (.slice (some ⟨W.heap.size, 0, none⟩) n.toNat n.toNat) (List.replicate n.toNat (Value.slice none 0 0))).ok (W.alloc (.cells (Array.replicate n.toNat (Value.slice none 0 0)) 62)) W.heap.size := by
    have := own_lit (w := W) (base := W.heap.size) (n := n.toNat) (e := 62) (Array.replicate n.toNat (Value.slice none 0 0)) 1 (by simp) (Nat.le_refl _) (by unfold maxLen; omega)
    simpa [Ow.ok, owV] using this
  refine ⟨_, ⟨fun o ho => ?_, ?_⟩, .ro _ (vs := List.replicate n.toNat (.slice none 0 0)) (by simp) .nil⟩
  · rcases List.mem_cons.1 ho with rfl | ho
    · exact h1
    · rw [seg_rep, List.append_nil] at ho
      rw [(List.mem_replicate.1 ho).2]
      exact World.ownsRow_nil _ _ _ _
  · rw [seg_rep, List.append_nil, List.pairwise_cons]
    refine ⟨fun x hx g hg hxg => ?_, ?_⟩
    · rw [(List.mem_replicate.1 hx).2] at hxg; simp [owI, Value.ownBlock] at hxg
    · rw [List.pairwise_replicate]
      right
      intro g hg; simp [owI, Value.ownBlock] at hg
theorem HP.cap_T {W : World} {B n cap : Nat} {its : List It} {A : Option Addr} {l : List Int} (h : HP W B its) (ho : It.tl (.slice A n cap) l ∈ its) : l.length ≤ cap := by
  obtain ⟨L, h1, h2⟩ := h
  obtain ⟨vf, pre, e1, e2⟩ := h2.memT ho
  rcases e1 with ⟨rfl, e0⟩ | ⟨g, c, _, e, hc⟩ | ⟨ad, e, hn⟩
  · have : pre = [] := List.eq_nil_of_length_eq_zero e0
    subst this
    rcases (h1.get e2).2 with ⟨q1, q2⟩ | ⟨g, cap', cur, q1, q2, q3, q4, q5, q6, q7⟩
    · have : l.length = 0 := q2
      omega
    · have e : Value.slice A n cap = .slice (some ⟨g, 0, none⟩) l.length cap' := q1
      injection e with e1 e2 e3
      subst e3; exact q4
  · injection e with e1 e2 e3
    subst e3; exact hc
  · omega
theorem HP.len_I {W : World} {B n cap : Nat} {its : List It} {A : Option Addr} {l : List Int} (h : HP W B its) (ho : It.fl (owI (.slice A n cap) l) ∈ its) : n = l.length := by
  obtain ⟨_, _, e, _⟩ := h.open_I ho; injection e
theorem HP.len_T {W : World} {B n cap : Nat} {its : List It} {A : Option Addr} {l : List Int} (h : HP W B its) (ho : It.tl (.slice A n cap) l ∈ its) : n = l.length := by
  obtain ⟨_, _, e, _⟩ := h.open_T ho; injection e
theorem HP.len_R {W : World} {B n cap : Nat} {its : List It} {A : Option Addr} {l : List (List Int)} (h : HP W B its) (ho : It.ro (.slice A n cap) l ∈ its) : n = l.length := by
  obtain ⟨_, _, e, _⟩ := h.open_R ho; injection e
theorem HP.len_M {W : World} {B n cap : Nat} {its : List It} {A : Option Addr} {l : List Nat} (h : HP W B its) (ho : It.fl (owM (.slice A n cap) l) ∈ its) : n = l.length := by
  obtain ⟨_, _, e, _⟩ := h.open_M ho; injection e
theorem HP.len_L {W : World} {B n cap : Nat} {its : List It} {A : Option Addr} {l : List (Int × Int)} (h : HP W B its) (ho : It.fl (owL (.slice A n cap) l) ∈ its) : n = l.length := by
  obtain ⟨_, _, e, _⟩ := h.open_L ho; injection e
/-- x = x[k:] -/
theorem HP.sliceT {W : World} {B cap n0 : Nat} {its1 its2 : List It} {A : Option Addr} {l : List Int} {k : Int} (h : HP W B (its1 ++ .tl (.slice A n0 cap) l :: its2)) (hk : 0 ≤ k ∧ k ≤ (l.length : Int)) :
    ∃ A' n' cap', (∀ X : World, (Instr.slice 62 (.slice A n0 cap) (some (.int .i64 k)) none none).run Tryz.prog X = .ok (.slice A' n' cap') X) ∧
      HP W B (its1 ++ .tl (.slice A' n' cap') (l.drop k.toNat) :: its2) := by
  have hc := h.cap_T (l := l) (A := A) (n := n0) (cap := cap) (by simp)
  have hn := h.len_T (l := l) (A := A) (n := n0) (cap := cap) (by simp)
  subst hn
  exact ⟨sl1 A cap k.toNat, l.length - k.toNat, cap - k.toNat, fun X => run_sliceD hk hc, h.dropT (by omega)⟩
/-- l[k:], to be read -/
theorem ReadsI.sliceD {W : World} {B cap : Nat} {A : Option Addr} {l : List Int} {k : Int} (h : ReadsI W B A l) (hc : l.length ≤ cap) (hk : 0 ≤ k ∧ k ≤ (l.length : Int)) :
    ∃ A' n' cap', (∀ X : World, (Instr.slice 62 (.slice A l.length cap) (some (.int .i64 k)) none none).run Tryz.prog X = .ok (.slice A' n' cap') X) ∧ ReadsI W B A' (l.drop k.toNat) ∧ (l.drop k.toNat).length ≤ cap' ∧ n' = (l.drop k.toNat).length := by
  refine ⟨sl1 A cap k.toNat, (l.drop k.toNat).length, cap - k.toNat, fun X => ?_, ⟨by simp, fun hn => ?_⟩, by rw [List.length_drop]; omega, rfl⟩
  · rw [List.length_drop]; exact run_sliceD hk hc
  · rw [List.length_drop] at hn
    obtain ⟨b, o, ea, hb, hcell⟩ := h.2 (by omega)
    subst ea
    refine ⟨b, o + k.toNat, ?_, hb, fun j u hu => ?_⟩
    · unfold sl1
      rw [if_neg (by omega)]
      simp [Addr.add]
    · have := hcell (k.toNat + j) u (by rw [List.map_drop, List.getElem?_drop] at hu; exact hu)
      rw [Nat.add_assoc]; exact this
theorem ReadsI.sliceU {W : World} {B cap : Nat} {A : Option Addr} {l : List Int} {k : Int} (h : ReadsI W B A l) (hc : l.length ≤ cap) (hk : 0 ≤ k ∧ k ≤ (l.length : Int)) :
    ∃ A' n' cap', (∀ X : World, (Instr.slice 62 (.slice A l.length cap) none (some (.int .i64 k)) none).run Tryz.prog X = .ok (.slice A' n' cap') X) ∧ ReadsI W B A' (l.take k.toNat) ∧ (l.take k.toNat).length ≤ cap' ∧ n' = (l.take k.toNat).length := by
  obtain ⟨i0, hi0, hz0, hz1, hz2⟩ := info_parts int_info
  obtain ⟨j, rfl⟩ := Int.eq_ofNat_of_zero_le hk.1
  have h1 : j ≤ l.length := by omega
  have h2 : j ≤ cap := by omega
  refine ⟨A, (l.take (Int.toNat (j : Int))).length, cap, fun X => ?_, ⟨by simp, fun hn => ?_⟩, by rw [List.length_take]; omega, rfl⟩
  · rw [Int.toNat_natCast, List.length_take, Nat.min_eq_left h1]
    cases A <;> simp [Instr.slice, run_underlying Tryz.underlying62, Instr.sliceBounds, Instr.sliceBound, asIntOf, h2, sizeOf, typeInfo, hi0, hz1, Sem.run_bind, Sem.run_pure, Addr.add]
  · rw [List.length_take] at hn
    obtain ⟨b, o, ea, hb, hcell⟩ := h.2 (by omega)
    refine ⟨b, o, ea, hb, fun i u hu => hcell i u ?_⟩
    rw [List.map_take] at hu
    obtain ⟨q1, q2⟩ := List.getElem?_eq_some_iff.1 hu
    rw [List.getElem_take] at q2
    rw [List.length_take] at q1
    rw [List.getElem?_eq_getElem (by omega), q2]
theorem Dr.one (w : World) : Dr w w.drew := ⟨1, rfl⟩
theorem boxRL (W : World) (y : Int × Int) : (owL (.slice (some ⟨W.heap.size, 0, none⟩) 1 1) [y]).ok (W.alloc (.cells #[Value.int .i64 y.1, Value.int .i64 y.2] 89)) W.heap.size := by
  have := own_lit (w := W) (base := W.heap.size) (n := 1) (e := 89) (#[Value.int .i64 y.1, Value.int .i64 y.2]) 2 (by simp) (Nat.le_refl _) (by unfold maxLen; omega)
  simpa [Ow.ok, owL, lineCells] using this
theorem boxL {W : World} {B g : Nat} {y : Int × Int} (h : ReadsL W B (some ⟨g, 0, none⟩) [y]) : W.cell? ⟨g, 0, none⟩ = some (.int .i64 y.1) ∧ W.cell? ⟨g, 1, none⟩ = some (.int .i64 y.2) := by
  obtain ⟨b, o, e, hb, h1, h2⟩ := ReadsL.at_ h (k := 0) (by simp)
  cases e
  simpa using And.intro h1 h2
theorem litL_ok (W : World) (l : List (Int × Int)) (hl : l.length ≤ maxLen) : (owL (.slice (some ⟨W.heap.size, 0, none⟩) l.length l.length) l).ok (W.alloc (.cells (lineCells l).toArray 89)) W.heap.size := by
  have h2 : ∀ l : List (Int × Int), (lineCells l).length = l.length * 2 := by
    intro l
    induction l with
    | nil => rfl
    | cons x l ih => simp [lineCells] at ih ⊢; omega
  have := own_lit (w := W) (base := W.heap.size) (n := l.length) (e := 89) (lineCells l).toArray 2 (by simpa using h2 l) (Nat.le_refl _) hl
  simpa [Ow.ok, owL] using this
/-- a thing that the call owns is named first -/
theorem HP.mv {W : World} {B : Nat} {its1 its2 : List It} {x : It} (h : HP W B (its1 ++ x :: its2)) : HP W B (x :: (its1 ++ its2)) := by
  obtain ⟨L, h1, h2⟩ := h
  obtain ⟨M1, M2, rfl, f1, f2⟩ := Fl.split h2
  cases f2 with
  | fl o f2 => exact ⟨_, h1.perm List.perm_middle, .fl o (Fl.join f1 f2)⟩
  | tl v e f2 => exact ⟨_, h1.perm List.perm_middle, .tl v e (Fl.join f1 f2)⟩
  | @bk g p V ms t n _ M3 e f2 =>
    refine ⟨owBk g p V ms n :: owU V t :: (M1 ++ M3), h1.perm ?_, .bk g e (Fl.join f1 f2)⟩
    exact List.perm_middle.trans (List.Perm.cons _ List.perm_middle)
  | @ro V vs ls _ M3 e f2 =>
    refine ⟨owV V vs :: (seg vs ls ++ (M1 ++ M3)), h1.perm ?_, .ro V e (Fl.join f1 f2)⟩
    refine List.perm_middle.trans (List.Perm.cons _ ?_)
    rw [← List.append_assoc, ← List.append_assoc]
    exact List.perm_append_comm.append_right _
def gmin (a b : Int) : Int := if b < a then b else a
def gmax (a b : Int) : Int := if a < b then b else a
theorem Fl.rows : ∀ (rs : List (Value × List Int)) {its : List It} {L : List Ow}, Fl (rs.map (fun p => It.fl (owI p.1 p.2)) ++ its) L → ∃ L', L = seg (rs.map (·.1)) (rs.map (·.2)) ++ L' ∧ Fl its L'
  | [], _, L, h => ⟨L, rfl, h⟩
  | p :: rs, its, L, h => by
    cases h with
    | fl o h =>
      obtain ⟨L', e, h'⟩ := Fl.rows rs h
      exact ⟨L', by rw [e]; rfl, h'⟩
/-- rows that the call owns, put into a new row of rows -/
theorem HP.litR {W : World} {B : Nat} {its : List It} {rs : List (Value × List Int)} (h : HP W B (rs.map (fun p => It.fl (owI p.1 p.2)) ++ its)) (hB : B ≤ W.heap.size) (hl : rs.length ≤ maxLen) :
    HP (W.alloc (.cells (rs.map (·.1)).toArray 62)) B (.ro (.slice (some ⟨W.heap.size, 0, none⟩) rs.length rs.length) (rs.map (·.2)) :: its) := by
  obtain ⟨L, h1, h2⟩ := h
  obtain ⟨L', rfl, h3⟩ := Fl.rows rs h2
  have hd : Below W.heap.size W (W.alloc (.cells (rs.map (·.1)).toArray 62)) := (Below.refl _ _).alloc (Nat.le_refl _) _
  have ho : (owV (.slice (some ⟨W.heap.size, 0, none⟩) rs.length rs.length) (rs.map (·.1))).ok (W.alloc (.cells (rs.map (·.1)).toArray 62)) W.heap.size := by
    have := own_lit (w := W) (base := W.heap.size) (n := rs.length) (e := 62) (rs.map (·.1)).toArray 1 (by simp) (Nat.le_refl _) hl
    simpa [Ow.ok, owV] using this
  exact ⟨_, h1.call hd hB ho, .ro _ (by simp) h3⟩
theorem i64w (n : Int) : IntKind.i64.wrap n = wrap64 n := IntWalk.i64_left n
section
variable {ops : Array Oper} {rest : List Oper} {o : Oper} {a : Act} {Q : Exit → Act → World → Prop}
theorem hp_appIsn (W : World) (s x : Operand) (t : TypeId) (ht : Tryz.prog.underlying t = some (.slice 3)) (hgd : o.guard = none)
    (ho : o.op = .call { callee := .builtin .append, args := #[s, x], argTypes := #[t, t] })
    {B c n : Nat} {A : Option Addr} {L1 L2 : List It} {v : Value} {l m : List Int} (h : HP W B (L1 ++ .fl (owI v l) :: L2)) (hr : ReadsI W W.heap.size A m) (hn : n = m.length) (hs : a.eval s = v) (hx : a.eval x = .slice A n c)
    (hlen : l.length + m.length < 1000000000) (hB : B ≤ W.heap.size)
    (hk : ∀ v' w', HP w' B (L1 ++ .fl (owI v' (l ++ m)) :: L2) → Below B W w' → wpList Tryz.prog ops Q rest (a.put o.dst v') w') :
    wpList Tryz.prog ops Q (o :: rest) a W := by
  subst hn
  exact hp_appIs W s x t ht hgd ho h hr hs hx hlen hB hk
end
end Go.Proofs.YtekfgkeimlidhaaGreatDoor
