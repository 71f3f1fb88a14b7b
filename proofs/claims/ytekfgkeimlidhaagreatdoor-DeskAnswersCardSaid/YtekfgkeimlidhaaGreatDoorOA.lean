import Derived.RangeFuncOwn
import Derived.Lib.FrozenHead
import Derived.Test.YtekfgkeimlidhaaGreatDoorGen
set_option linter.all false
set_option maxRecDepth 100000
namespace Go.Proofs.YtekfgkeimlidhaaGreatDoor
open Go.RowKit
/-- an owned row -/
structure Ow where
  e : TypeId
  sz : Nat
  v : Value
  n : Nat
  xs : List Value
/-- (size 0 marks a row of bytes whose head may be frozen) -/
def Ow.ok (W : World) (B : Nat) (o : Ow) : Prop := match o.sz with
  | 0 => W.ownsRowF B o.e 1 o.v o.n o.xs
  | s + 1 => W.ownsRow B o.e (s + 1) o.v o.n o.xs
theorem Ow.ok.lt {W : World} {B : Nat} {o : Ow} (h : o.ok W B) : ∀ k, o.v.ownBlock = some k → B ≤ k ∧ k < W.heap.size := by
  obtain ⟨e, sz, v, n, xs⟩ := o
  cases sz with
  | zero => exact World.ownsRowF.lt h
  | succ s => exact World.ownsRow.lt h
theorem Ow.ok.kept {W W' : World} {B : Nat} {o : Ow} {row : Option Nat} (h : o.ok W B) (hg : W.grownBy W' row) (hne : o.v.ownBlock = none ∨ o.v.ownBlock ≠ row) : o.ok W' B := by
  obtain ⟨e, sz, v, n, xs⟩ := o
  cases sz with
  | zero => exact World.ownsRowF.kept h hg hne
  | succ s => exact World.ownsRow.kept h hg hne
theorem own_weakF {w : World} {b b' n size : Nat} {e : TypeId} {v : Value} {xs : List Value} (h : w.ownsRowF b e size v n xs) (hb : b' ≤ b) : w.ownsRowF b' e size v n xs := by
  refine ⟨h.1, ?_⟩
  rcases h.2 with h1 | ⟨g, cap, cur, fz, e1, h2, h3⟩
  · exact .inl h1
  · exact .inr ⟨g, cap, cur, fz, e1, by omega, h3⟩
theorem Ow.ok.weak {W : World} {B B' : Nat} {o : Ow} (h : o.ok W B) (hb : B' ≤ B) : o.ok W B' := by
  obtain ⟨e, sz, v, n, xs⟩ := o
  cases sz with
  | zero => exact own_weakF h hb
  | succ s => exact own_weak h hb
def apart (a b : Ow) : Prop := ∀ g, a.v.ownBlock = some g → b.v.ownBlock ≠ some g
/-- the rows that the call owns: apart from each other -/
def OA (W : World) (B : Nat) (L : List Ow) : Prop := (∀ o ∈ L, o.ok W B) ∧ L.Pairwise apart
theorem apart.symm {a b : Ow} (h : apart a b) : apart b a := fun g hb ha => h g ha hb
section
variable {W W' : World} {B : Nat} {L L' L1 L2 : List Ow} {o o' : Ow}
theorem OA.nil : OA W B [] := ⟨fun _ h => (by cases h), .nil⟩
theorem grown_of_below (hb : Below W.heap.size W W') : W.grownBy W' none := ⟨hb.os, hb.tape, hb.output, hb.size, fun k hk _ => hb.block k hk⟩
theorem OA.below (h : OA W B L) (hb : Below W.heap.size W W') : OA W' B L :=
  ⟨fun o ho => Ow.ok.kept (h.1 o ho) (grown_of_below hb) (by cases o.v.ownBlock <;> simp), h.2⟩
theorem OA.dr (h : OA W B L) (hd : Dr W W') : OA W' B L := h.below (hd.below _)
theorem OA.get (h : OA W B L) (ho : o ∈ L) : o.ok W B := h.1 o ho
theorem OA.sub (h : OA W B L) (hs : L'.Sublist L) : OA W B L' := ⟨fun o ho => h.1 o (hs.subset ho), h.2.sublist hs⟩
theorem OA.call (h : OA W B L) (hb : Below W.heap.size W W') (hB : B ≤ W.heap.size) (ho : o.ok W' W.heap.size) : OA W' B (o :: L) := by
  have h' := h.below hb
  refine ⟨fun x hx => ?_, List.pairwise_cons.2 ⟨fun x hx g hg hxg => ?_, h.2⟩⟩
  · rcases List.mem_cons.1 hx with rfl | hx
    · exact Ow.ok.weak ho hB
    · exact h'.1 x hx
  · have h1 := (Ow.ok.lt ho g hg).1
    have h2 := (Ow.ok.lt (h.1 x hx) g hxg).2
    omega
theorem OA.pushNil (h : OA W B L) (e : TypeId) (sz : Nat) : OA W B (⟨e, sz, .slice none 0 0, 0, []⟩ :: L) :=
  ⟨fun x hx => (by
    rcases List.mem_cons.1 hx with rfl | hx
    · cases sz with
      | zero => exact World.ownsRowF_nil _ _ _ _
      | succ s => exact World.ownsRow_nil _ _ _ _
    · exact h.1 x hx), List.pairwise_cons.2 ⟨fun x hx g hg => (by simp [Value.ownBlock] at hg), h.2⟩⟩
theorem OA.upd (h : OA W B (L1 ++ o :: L2)) (hg : W.grownBy W' o.v.ownBlock) (ho' : o'.ok W' B) (hblk : o'.v.ownBlock = o.v.ownBlock ∨ ∃ g, o'.v.ownBlock = some g ∧ W.heap.size ≤ g) : OA W' B (L1 ++ o' :: L2) := by
  obtain ⟨h1, h2⟩ := h
  rw [List.pairwise_append, List.pairwise_cons] at h2
  obtain ⟨p1, ⟨p2, p3⟩, p4⟩ := h2
  have key : ∀ x, x ∈ L1 ++ o :: L2 → apart o x → x.ok W' B ∧ apart o' x := by
    intro x hx hap
    refine ⟨Ow.ok.kept (h1 x hx) hg ?_, fun g hg' hxg => ?_⟩
    · cases hv : x.v.ownBlock with
      | none => exact .inl rfl
      | some g => right; intro e; exact hap g e.symm hv
    · rcases hblk with e | ⟨g', e, hge⟩
      · exact hap g (e ▸ hg') hxg
      · rw [e] at hg'; cases hg'
        have := (Ow.ok.lt (h1 x hx) _ hxg).2; omega
  refine ⟨fun x hx => ?_, ?_⟩
  · rcases List.mem_append.1 hx with hx | hx
    · exact (key x (by simp [hx]) (p4 x hx o (by simp)).symm).1
    · rcases List.mem_cons.1 hx with rfl | hx
      · exact ho'
      · exact (key x (by simp [hx]) (p2 x hx)).1
  · rw [List.pairwise_append, List.pairwise_cons]
    refine ⟨p1, ⟨fun x hx => (key x (by simp [hx]) (p2 x hx)).2, p3⟩, fun a ha b hb => ?_⟩
    rcases List.mem_cons.1 hb with rfl | hb
    · exact (key a (by simp [ha]) (p4 a ha o (by simp)).symm).2.symm
    · exact p4 a ha b (by simp [hb])
end
/-! ### rows of ints, of bools, of lines -/
def owI (v : Value) (l : List Int) : Ow := ⟨3, 1, v, l.length, l.map (Value.int .i64)⟩
theorem OA.open_I {W : World} {B : Nat} {L : List Ow} {v : Value} {l : List Int} (h : OA W B L) (ho : owI v l ∈ L) : ∃ A cap, v = .slice A l.length cap ∧ ReadsI W W.heap.size A l := own_readsI (h.get ho)
theorem OA.rd_I {W : World} {B cap n : Nat} {L : List Ow} {A : Option Addr} {l : List Int} (h : OA W B L) (ho : owI (.slice A n cap) l ∈ L) : ReadsI W W.heap.size A l := by
  obtain ⟨A', cap', e, hr⟩ := h.open_I ho
  cases e; exact hr
/-- one result (or one of several) is a row of the callee's own -/
def PostG (mk : Value → Value) (o : Value → Ow) (B : Nat) (w : World) : Ending → World → Prop := fun e w' => ∃ v, e = .returned (mk v) ∧ Ow.ok w' B (o v) ∧ Below B w w'
def appL {α : Type} (l m : List α) : Option (List α) := if l.length + m.length < 1000000000 then some (l ++ m) else none
theorem appL_some {α : Type} {l m r : List α} (h : appL l m = some r) : l.length + m.length < 1000000000 ∧ l ++ m = r := by
  unfold appL at h; split at h
  · exact ⟨by assumption, Option.some.inj h⟩
  · cases h
theorem int_info : (Tryz.prog.info? 3).map (fun i => (i.zero, i.size, i.bytes)) = some (some (.int .i64 0), 1, 8) := by kernel_rfl
section
variable {ops : Array Oper} {rest : List Oper} {o : Oper} {a : Act} {Q : Exit → Act → World → Prop}
/-- append(out, x), out a row of ints that the call owns -/
theorem wp_appI (W : World) (s x : Operand) (t : TypeId) (ht : Tryz.prog.underlying t = some (.slice 3)) (hgd : o.guard = none)
    (ho : o.op = .call { callee := .builtin .append, args := #[s, x], argTypes := #[t, t] })
    {B : Nat} {e' : TypeId} {L1 L2 : List Ow} {v : Value} {l : List Int} {y : Int} (h : OA W B (L1 ++ owI v l :: L2)) (hs : a.eval s = v) (hx : a.eval x = .slice (some ⟨W.heap.size, 0, none⟩) 1 1)
    (hlen : l.length < 1000000000) (hB : B ≤ W.heap.size)
    (hk : ∀ v' w', OA w' B (L1 ++ owI v' (l ++ [y]) :: L2) → Below B W w' → wpList Tryz.prog ops Q rest (a.put o.dst v') w') :
    wpList Tryz.prog ops Q (o :: rest) a (W.alloc (.cells #[Value.int .i64 y] e')) := by
  obtain ⟨i0, hi0, hz0, hz1, hz2⟩ := info_parts int_info
  refine wp_app1 W s x t hgd ho B 3 e' i0 _ 1 8 ht hi0 hz0 hz1 hz2 rfl (by omega) v l.length (l.map (Value.int .i64)) hs (h.get (o := owI v l) (by simp)) [.int .i64 y] hx rfl (by simp [Value.oneCell']) (by omega) (by omega) hB ?_
  intro v' w' hown hg hblk hb
  refine hk v' w' (h.upd hg ?_ ?_) hb
  · show w'.ownsRow B 3 1 v' (l ++ [y]).length ((l ++ [y]).map (Value.int .i64))
    rw [List.length_append, List.map_append]; exact hown
  · rcases hblk with e | e
    · exact .inl e
    · exact .inr ⟨_, e, by omega⟩
end
section
variable {ops : Array Oper} {rest : List Oper} {o : Oper} {a : Act} {Q : Exit → Act → World → Prop}
theorem append_nil_run (w : World) {P : Program} {base t ty e : Nat} {i : TypeInfo} {size : Nat} (ht : P.underlying t = some (.slice e)) (hi : P.info? e = some i)
    {v : Value} {n : Nat} {xs : List Value} (hown : w.ownsRow base e size v n xs) (c : Nat) : (Builtin.append_ #[t, t] ty #[v, .slice none 0 c]).run P w = .ok v w := by
  rcases hown.2 with ⟨rfl, rfl⟩ | ⟨g, cap, cur, rfl, hb, hg, hn, hm⟩
  · simp [Builtin.append_, run_underlying ht, sizeOf, typeInfo, hi, Builtin.lenOf, Builtin.firstCells]
  · simp [Builtin.append_, run_underlying ht, sizeOf, typeInfo, hi, Builtin.lenOf, Builtin.firstCells, hn, storeCells]
/-- append(out, xs...), both rows of ints -/
theorem wp_appIs (W : World) (s x : Operand) (t : TypeId) (ht : Tryz.prog.underlying t = some (.slice 3)) (hgd : o.guard = none)
    (ho : o.op = .call { callee := .builtin .append, args := #[s, x], argTypes := #[t, t] })
    {B c : Nat} {A : Option Addr} {L1 L2 : List Ow} {v : Value} {l m : List Int} (h : OA W B (L1 ++ owI v l :: L2)) (hr : ReadsI W W.heap.size A m) (hs : a.eval s = v) (hx : a.eval x = .slice A m.length c)
    (hlen : l.length + m.length < 1000000000) (hB : B ≤ W.heap.size)
    (hk : ∀ v' w', OA w' B (L1 ++ owI v' (l ++ m) :: L2) → Below B W w' → wpList Tryz.prog ops Q rest (a.put o.dst v') w') :
    wpList Tryz.prog ops Q (o :: rest) a W := by
  obtain ⟨i0, hi0, hz0, hz1, hz2⟩ := info_parts int_info
  have hown : W.ownsRow B 3 1 v l.length (l.map (Value.int .i64)) := h.get (o := owI v l) (by simp)
  rcases A with _ | ad
  · have hm : m = [] := by
      rcases Nat.eq_zero_or_pos m.length with h0 | h0
      · exact List.eq_nil_of_length_eq_zero h0
      · obtain ⟨b, oo, e, _⟩ := hr.2 h0; cases e
    subst hm
    refine wpList_plain hgd fun K hK => ?_
    have hrun := append_nil_run W (ty := o.type) ht hi0 hown c
    unfold Oper.wp execOp
    simp only [ho, resolve, invoke, builtin, Sem.run_bind, Sem.run_pure, Result.andThen_ok, List.map_toArray, List.map_cons, List.map_nil, hs, hx, List.length_nil, hrun]
    refine hK _ _ (hk v W ?_ (Below.refl _ _))
    rw [List.append_nil]; exact h
  · refine wpList_append_own_at W hgd s x t ho B 3 i0 _ 1 8 ht hi0 hz0 hz1 hz2 rfl (by omega) v l.length (l.map (Value.int .i64)) hs hown ad m.length c (m.map (Value.int .i64)) hx (by simp) ?_ ?_ (by unfold maxLen; omega) (by omega) hB ?_
    · intro j u hu
      have hj : j < m.length := by have := (List.getElem?_eq_some_iff.1 hu).1; simpa using this
      obtain ⟨b, oo, e, _, hc⟩ := hr.2 (by omega)
      cases e
      rw [Go.WideShapes.add_plain]; exact hc j u hu
    · intro u hu
      obtain ⟨y, _, rfl⟩ := List.mem_map.1 hu; rfl
    · intro v' w' hown' hg _ hblk
      refine hk v' w' (h.upd hg ?_ ?_) ((Below.refl _ _).grown hg hB fun k hk' => (hown.lt k hk').1)
      · show w'.ownsRow B 3 1 v' (l ++ m).length ((l ++ m).map (Value.int .i64))
        rw [List.length_append, List.map_append]; exact hown'
      · rcases hblk with e | e
        · exact .inl e
        · exact .inr ⟨_, e, Nat.le_refl _⟩
end
/-- what is no cells lies as it lay -/
structure NC (W W' : World) : Prop where
  size : W.heap.size ≤ W'.heap.size
  same : ∀ (k : Nat) (o : Obj), W.heap[k]? = some o → o.isCells = false → W'.heap[k]? = some o
theorem NC.refl (W : World) : NC W W := ⟨Nat.le_refl _, fun _ _ h _ => h⟩
theorem NC.trans {X Y Z : World} (h : NC X Y) (k : NC Y Z) : NC X Z := ⟨Nat.le_trans h.size k.size, fun i o hi ho => k.same i o (h.same i o hi ho) ho⟩
theorem NC.of_below {W W' : World} (h : Below W.heap.size W W') : NC W W' := ⟨h.size, fun k o hk _ => (h.block k (Array.getElem?_eq_some_iff.1 hk).1).trans hk⟩
theorem NC.setCell (W : World) (p : Addr) (u : Value) : NC W (W.setCell p u) := by
  refine ⟨by simp [World.setCell], fun k o hk ho => ?_⟩
  by_cases e : k = p.block
  · subst e
    simp only [World.setCell, Array.getElem?_modify, if_true]
    rw [hk]; cases o <;> first | rfl | cases ho
  · exact (Below.heap_setCell W p u k e).trans hk
theorem NC.grown {W W' : World} {row : Option Nat} (h : W.grownBy W' row) (hr : ∀ g, row = some g → ∃ cs t f, W.heap[g]? = some (.cells cs t f)) : NC W W' := by
  refine ⟨h.size, fun k o hk ho => ?_⟩
  rw [h.block k (Array.getElem?_eq_some_iff.1 hk).1 (fun e => ?_)]
  · exact hk
  · obtain ⟨cs, t, f, hh⟩ := hr k e.symm
    rw [hk] at hh; cases hh; cases ho
theorem NC.alloc (W : World) (o : Obj) : NC W (W.alloc o) := NC.of_below ((Below.refl _ _).alloc (Nat.le_refl _) _)
theorem NC.drew (W : World) : NC W W.drew := ⟨Nat.le_refl _, fun _ _ h _ => h⟩
theorem own_cells {W : World} {B sz n g : Nat} {e : TypeId} {v : Value} {xs : List Value} (h : W.ownsRow B e sz v n xs) (hg : v.ownBlock = some g) : ∃ cs t f, W.heap[g]? = some (.cells cs t f) := by
  rcases h.2 with ⟨rfl, _⟩ | ⟨g2, cap2, cur, rfl, _, hh, _⟩
  · simp [Value.ownBlock] at hg
  · simp [Value.ownBlock] at hg; subst hg; exact ⟨_, _, _, hh⟩
end Go.Proofs.YtekfgkeimlidhaaGreatDoor
