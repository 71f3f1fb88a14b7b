import Derived.Test.YtekfgkeimlidhaaGreatDoorEach2
/- boxes that a call owns; appends that tell what is no cells; loops with marks -/
set_option linter.all false
set_option maxRecDepth 100000
namespace Go.Proofs.YtekfgkeimlidhaaGreatDoor
open Go.RowKit Go.Shelf Pl
attribute [local go_sem] Oper.semAt_some
/-- the points of a set, as they are gone through -/
def sEach (m : Nat) : Option (List Nat) := if m < 65536 then some (memb m) else none
/-- the box of a variable -/
def owX (t : TypeId) (A : Option Addr) (u : Value) : Ow := ⟨t, 1, .slice A 1 1, 1, [u]⟩
theorem owX_ok (W : World) (t : TypeId) (u : Value) : (owX t (some ⟨W.heap.size, 0, none⟩) u).ok (W.alloc (.cells #[u] t)) W.heap.size := by
  have := own_lit (w := W) (base := W.heap.size) (n := 1) (e := t) #[u] 1 (by simp) (Nat.le_refl _) (by unfold maxLen; omega)
  simpa [Ow.ok, owX] using this
section
variable {W W' : World} {B g : Nat} {its its1 its2 : List It} {t : TypeId} {u u' : Value}
theorem HP.bxAll (h : HP W B its) (hm : It.fl (owX t (some ⟨g, 0, none⟩) u) ∈ its) : B ≤ g ∧ W.cell? ⟨g, 0, none⟩ = some u ∧ W.frozen? ⟨g, 0, none⟩ = false := by
  have hok : W.ownsRow B t 1 (.slice (some ⟨g, 0, none⟩) 1 1) 1 [u] := h.get hm
  have hl := hok.lt g rfl
  have hc := hok.cells (g := g) rfl 0 u rfl
  rw [show ((⟨g, 0, none⟩ : Addr).add 0) = ⟨g, 0, none⟩ from by unfold Addr.add; split <;> simp_all] at hc
  obtain ⟨cs, t', f, hh⟩ := own_cells hok rfl
  refine ⟨hl.1, hc, ?_⟩
  rcases hok.2 with ⟨q1, q2⟩ | ⟨g', cap', cur, q1, q2, q3, q4⟩
  · cases q1
  · injection q1 with qa qb qc
    injection qa with qa
    injection qa with qa _ _
    subst qa
    simp [World.frozen?, q3]
theorem HP.bx (h : HP W B its) (hm : It.fl (owX t (some ⟨g, 0, none⟩) u) ∈ its) : W.cell? ⟨g, 0, none⟩ = some u := (h.bxAll hm).2.1
theorem HP.setBx (h : HP W B (its1 ++ .fl (owX t (some ⟨g, 0, none⟩) u) :: its2)) (u' : Value) : W.frozen? ⟨g, 0, none⟩ = false ∧ W.cell? ⟨g, 0, none⟩ = some u ∧
    HP (W.setCell ⟨g, 0, none⟩ u') B (its1 ++ .fl (owX t (some ⟨g, 0, none⟩) u') :: its2) ∧ Below B W (W.setCell ⟨g, 0, none⟩ u') := by
  obtain ⟨_, h1, h2⟩ := h.bxAll (t := t) (g := g) (u := u) (by simp)
  obtain ⟨M1, M2, h3, h4⟩ := h.getAt
  obtain ⟨h5, h6⟩ := OA.set h3 (k := 0) (u := u') (by show 0 < 1; omega) rfl (g := g) (cap := 1) rfl
  exact ⟨h2, h1, h4 _ _ h5, h6⟩
/-- two things owned lie apart -/
theorem HP.ne {its3 : List It} {v : Value} {e : TypeId} {sz n g2 : Nat} {xs : List Value} (h : HP W B (its1 ++ .fl (owX t (some ⟨g, 0, none⟩) u) :: its2)) (hm : It.fl ⟨e, sz, v, n, xs⟩ ∈ its1 ++ its2) (hv : v.ownBlock = some g2) : g2 ≠ g := by
  have h' := h.mv
  obtain ⟨L, h1, h2⟩ := h'
  cases h2 with
  | fl _ h2 =>
    have := (List.pairwise_cons.1 h1.2).1 _ (h2.mem hm) g rfl
    intro e; subst e; exact this hv
theorem KeepC.okw {B' : Nat} {o : Ow} (hk : KeepC B' W W') (ho : o.ok W B) : o.ok W' B := by
  obtain ⟨e, sz, v, n, xs⟩ := o
  cases sz with
  | zero =>
    have ho : W.ownsRowF B e 1 v n xs := ho
    refine ⟨ho.1, ?_⟩
    rcases ho.2 with h0 | ⟨g, cap, cur, fz, e1, h2, h3, h4⟩
    · exact .inl h0
    · exact .inr ⟨g, cap, cur, fz, e1, h2, hk.cells _ _ _ _ h3, h4⟩
  | succ s => exact hk.own ho
theorem HP.keepC {B' : Nat} (h : HP W B its) (hk : KeepC B' W W') : HP W' B its := by
  obtain ⟨L, h1, h2⟩ := h
  exact ⟨L, ⟨fun o ho => hk.okw (h1.1 o ho), h1.2⟩, h2⟩
theorem NC.keepC {W0 : World} {B' : Nat} (h : NC W0 W) (hk : KeepC B' W W') (hB : W0.heap.size ≤ B') : NC W0 W' :=
  ⟨Nat.le_trans h.size hk.size, fun k o hk0 ho => (hk.low k (by have := (Array.getElem?_eq_some_iff.1 hk0).1; omega) (by have := (Array.getElem?_eq_some_iff.1 hk0).1; have := h.size; omega)).trans (h.same k o hk0 ho)⟩
end
theorem ncOf {W : World} {p : Addr} {u : Value} {B : Nat} {its : List It} (_ : HP (W.setCell p u) B its) : NC W (W.setCell p u) := NC.setCell W p u
/-! ### marks -/
theorem Marks.nc {B : Nat} {ds : List Deferred} {W W' : World} (h : Marks B ds W) (hn : NC W W') : Marks B ds W' := by
  obtain ⟨Ds, rfl, hnd, hD⟩ := h
  exact ⟨Ds, rfl, hnd, fun D hd => ⟨(hD D hd).1, hn.same _ _ (hD D hd).2 rfl⟩⟩
theorem Marks.push {B D : Nat} {ds : List Deferred} {W0 W : World} (h : Marks B ds W0) (hn : NC W0 W) (hD : W0.heap.size ≤ D) (hB : B ≤ W0.heap.size) (hK : W.heap[D]? = some (.deferred (some []))) :
    Marks B ({ target := .collected D, args := #[] } :: ds) W := by
  have h' := h.nc hn
  obtain ⟨Ds, rfl, hnd, hDs⟩ := h
  refine h'.cons (by omega) hK ?_
  intro d hd e
  obtain ⟨D', hD', rfl⟩ := List.mem_map.1 hd
  injection e with e
  have := (Array.getElem?_eq_some_iff.1 (hDs D' hD').2).1
  omega
/-- the slots that are marked hold f's values -/
def setB (f : Nat → Value) : List Bool → Nat → List Value → List Value
  | true :: bs, i, _ :: xs => f i :: setB f bs (i + 1) xs
  | false :: bs, i, x :: xs => x :: setB f bs (i + 1) xs
  | _, _, xs => xs
def agreeB : List Bool → List Value → List Value → Prop
  | true :: bs, _ :: xs, _ :: ys => agreeB bs xs ys
  | false :: bs, x :: xs, y :: ys => y = x ∧ agreeB bs xs ys
  | _, xs, ys => ys = xs
theorem setB_of {f : Nat → Value} : ∀ (bs : List Bool) (k : Nat) (xs ys : List Value), (∀ j, f (k + j) = ys.getD j undef) → agreeB bs xs ys → setB f bs k xs = ys
  | true :: bs, k, x :: xs, y :: ys, hf, h => by
    have h0 := hf 0
    simp at h0
    rw [setB, h0, setB_of bs (k + 1) xs ys (fun j => by rw [Nat.add_assoc, Nat.add_comm 1 j, hf (j + 1)]; simp) h]
  | false :: bs, k, x :: xs, y :: ys, hf, h => by
    obtain ⟨rfl, h⟩ := h
    rw [setB, setB_of bs (k + 1) xs ys (fun j => by rw [Nat.add_assoc, Nat.add_comm 1 j, hf (j + 1)]; simp) h]
  | [], _, xs, ys, _, h => by
    have : ys = xs := by cases xs <;> cases ys <;> exact h
    subst this; cases ys <;> rfl
  | true :: bs, _, [], ys, _, h => by
    have : ys = [] := by cases ys <;> exact h
    subst this; rfl
  | false :: bs, _, [], ys, _, h => by
    have : ys = [] := by cases ys <;> exact h
    subst this; rfl
  | true :: bs, _, x :: xs, [], _, h => by cases (h : [] = x :: xs)
  | false :: bs, _, x :: xs, [], _, h => by cases (h : [] = x :: xs)
/-- a frame's value in a slot -/
def slotV (a : Act) (i : Nat) : Value := a.tmps.toList.getD i undef
/-- a loop that leaves marks -/
theorem wp_loop_marks {P : Program} {Q : Exit → Act → World → Prop} {w : World} {c : Code} (tm : List Value) (bs : List Bool) (I : Nat → (Nat → Value) → List Deferred → World → Prop) (n₀ : Nat) (ds0 : List Deferred) (h00 : agreeB bs tm tm) (h₀ : I n₀ (slotV ⟨tm.toArray, ds0⟩) ds0 w)
    (round : ∀ n f ds w, I n f ds w → ∀ (J : Nat → Act → World → Prop) (K : Act → World → Prop), (∀ k a' w', agreeB bs tm a'.tmps.toList ∧ I k (slotV a') a'.defers w' → J k a' w') → (∀ a' w', Handed J n a' w' → K a' w') → c.wp P (Exit.then K Q) ⟨(setB f bs 0 tm).toArray, ds⟩ w) :
    (Code.loop c).wp P Q ⟨tm.toArray, ds0⟩ w := by
  refine wp_loop_ghost_k (fun k a' w' => agreeB bs tm a'.tmps.toList ∧ I k (slotV a') a'.defers w') n₀ ⟨h00, h₀⟩ ?_
  rintro n ⟨tms, ds⟩ w ⟨h1, h2⟩ J K hJ hK
  have h3 : setB (slotV ⟨tms, ds⟩) bs 0 tm = tms.toList := setB_of bs 0 tm tms.toList (fun j => by simp [slotV]) h1
  have h4 := round n _ ds w h2 J K hJ hK
  rw [h3, Array.toArray_toList] at h4
  exact h4
/-! ### appends -/
theorem run_app1 (W : World) (t ot : TypeId) (base : Nat) (e e' : TypeId) (i : TypeInfo) (z : Value) (size bytes : Nat) (ht : Tryz.prog.underlying t = some (.slice e)) (hi : Tryz.prog.info? e = some i) (hz : i.zero = some z)
    (hsize : i.size = size) (hby : i.bytes = bytes) (hzs : z.cells.size = size) (hsz : 0 < size)
    (v : Value) (n : Nat) (xs : List Value) (hown : W.ownsRow base e size v n xs)
    (news : List Value) (hl : news.length = size) (h1 : ∀ u ∈ news, u.oneCell' = true) (hbytes : (n + 1) * bytes ≤ 140737488355328) (hb0 : 0 < bytes) (hbase : base ≤ W.heap.size) :
    ∃ v' w', (Builtin.append_ #[t, t] ot #[v, .slice (some ⟨W.heap.size, 0, none⟩) 1 1]).run Tryz.prog (W.alloc (.cells news.toArray e')) = .ok v' w' ∧ w'.ownsRow base e size v' (n + 1) (xs ++ news) ∧ W.grownBy w' v.ownBlock ∧
      (v'.ownBlock = v.ownBlock ∨ v'.ownBlock = some (W.heap.size + 1)) ∧ Below base W w' ∧ NC W w' := by
  have hnews : ∀ j u, news[j]? = some u → (W.alloc (.cells news.toArray e')).cell? ((⟨W.heap.size, 0, none⟩ : Addr).add j) = some u := by
    intro j u hu
    have e1 : ((⟨W.heap.size, 0, none⟩ : Addr).add j) = ⟨W.heap.size, j, none⟩ := by unfold Addr.add; split <;> simp_all
    rw [e1, cell_of_row _ _ _ _ _ _ (heap_alloc_new W _)]
    simpa using hu
  have hn63 : n + 1 ≤ maxLen := by
    have : (n + 1) * 1 ≤ (n + 1) * bytes := Nat.mul_le_mul_left _ hb0
    unfold maxLen; omega
  obtain ⟨v', w', hrun, h2, h3, h4, h5⟩ := run_append_own_at (P := Tryz.prog) (W.alloc (.cells news.toArray e')) base t ot e i z size bytes ht hi hz hsize hby hzs hsz v n xs (hown.alloc _) ⟨W.heap.size, 0, none⟩ 1 1 news (by simpa using hl) hnews h1 hn63 hbytes (by simp; omega)
  have hg : W.grownBy w' v.ownBlock :=
    ⟨h3.os, h3.tape, h3.output, Nat.le_trans (by simp) h3.size, fun k hk hne => (h3.block k (by simp; omega) hne).trans (Below.heap_alloc W _ k hk)⟩
  exact ⟨v', w', hrun, h2, hg, by simpa using h5, (Below.refl _ _).grown hg hbase (fun k hk => (hown.lt k hk).1), NC.grown hg fun g hg' => own_cells hown hg'⟩
theorem run_appI (W : World) (t ot : TypeId) (ht : Tryz.prog.underlying t = some (.slice 3))
    {B : Nat} {e' : TypeId} {L1 L2 : List It} {v : Value} {l : List Int} {y : Int} (h : HP W B (L1 ++ .fl (owI v l) :: L2)) (hlen : l.length < 1000000000) (hB : B ≤ W.heap.size) :
    ∃ v' w', (Builtin.append_ #[t, t] ot #[v, .slice (some ⟨W.heap.size, 0, none⟩) 1 1]).run Tryz.prog (W.alloc (.cells #[Value.int .i64 y] e')) = .ok v' w' ∧
      HP w' B (L1 ++ .fl (owI v' (l ++ [y])) :: L2) ∧ Below B W w' ∧ NC W w' := by
  obtain ⟨i0, hi0, hz0, hz1, hz2⟩ := info_parts int_info
  obtain ⟨M1, M2, h1, h2⟩ := h.getAt
  obtain ⟨v', w', hrun, hown, hg, hblk, hb, hn⟩ := run_app1 (e' := e') W t ot B 3 i0 _ 1 8 ht hi0 hz0 hz1 hz2 rfl (by omega) v l.length (l.map (Value.int .i64)) (h1.get (o := owI v l) (by simp)) [.int .i64 y] rfl (by simp [Value.oneCell']) (by omega) (by omega) hB
  refine ⟨v', w', hrun, h2 _ _ (h1.upd hg ?_ ?_), hb, hn⟩
  · show w'.ownsRow B 3 1 v' (l ++ [y]).length ((l ++ [y]).map (Value.int .i64))
    rw [List.length_append, List.map_append]; exact hown
  · rcases hblk with e | e
    · exact .inl e
    · exact .inr ⟨_, e, by omega⟩
theorem run_appIs (W : World) (t ot : TypeId) (ht : Tryz.prog.underlying t = some (.slice 3))
    {B c : Nat} {A : Option Addr} {L1 L2 : List It} {v : Value} {l m : List Int} (h : HP W B (L1 ++ .fl (owI v l) :: L2)) (hr : ReadsI W W.heap.size A m) (hlen : l.length + m.length < 1000000000) (hB : B ≤ W.heap.size) :
    ∃ v' w', (Builtin.append_ #[t, t] ot #[v, .slice A m.length c]).run Tryz.prog W = .ok v' w' ∧ HP w' B (L1 ++ .fl (owI v' (l ++ m)) :: L2) ∧ Below B W w' ∧ NC W w' := by
  obtain ⟨i0, hi0, hz0, hz1, hz2⟩ := info_parts int_info
  obtain ⟨M1, M2, h1, h2⟩ := h.getAt
  have hown : W.ownsRow B 3 1 v l.length (l.map (Value.int .i64)) := h1.get (o := owI v l) (by simp)
  rcases A with _ | ad
  · have hm : m = [] := by
      rcases Nat.eq_zero_or_pos m.length with h0 | h0
      · exact List.eq_nil_of_length_eq_zero h0
      · obtain ⟨b, oo, e, _⟩ := hr.2 h0; cases e
    subst hm
    refine ⟨v, W, append_nil_run W (ty := ot) ht hi0 hown c, ?_, Below.refl _ _, NC.refl _⟩
    rw [List.append_nil]; exact h
  · obtain ⟨v', w', hrun, hown', hg, hlow, hblk⟩ := run_append_own_at (P := Tryz.prog) W B t ot 3 i0 _ 1 8 ht hi0 hz0 hz1 hz2 rfl (by omega) v l.length (l.map (Value.int .i64)) hown ad m.length c (m.map (Value.int .i64)) (by simp) (by
      intro j u hu
      have hj : j < m.length := by have := (List.getElem?_eq_some_iff.1 hu).1; simpa using this
      obtain ⟨b, oo, e, _, hc⟩ := hr.2 (by omega)
      cases e
      rw [Go.WideShapes.add_plain]; exact hc j u hu) (by
      intro u hu
      obtain ⟨y, _, rfl⟩ := List.mem_map.1 hu; rfl) (by unfold maxLen; omega) (by omega) hB
    refine ⟨v', w', hrun, h2 _ _ (h1.upd hg ?_ ?_), (Below.refl _ _).grown hg hB (fun k hk => (hown.lt k hk).1), NC.grown hg fun g hg' => own_cells hown hg'⟩
    · show w'.ownsRow B 3 1 v' (l ++ m).length ((l ++ m).map (Value.int .i64))
      rw [List.length_append, List.map_append]; exact hown'
    · rcases hblk with e | e
      · exact .inl e
      · exact .inr ⟨_, e, by omega⟩
/-- a step over an append of one, in a function -/
theorem wp_appRun {ops : Array Oper} {rest : List Oper} {o : Oper} {a : Act} {Q : Exit → Act → World → Prop} {W W' : World} {s x : Operand} {t : TypeId} {v u v' : Value} (hrun : (Builtin.append_ #[t, t] o.type #[v, u]).run Tryz.prog W = .ok v' W') (hgd : o.guard = none)
    (ho : o.op = .call { callee := .builtin .append, args := #[s, x], argTypes := #[t, t] }) (hs : a.eval s = v) (hx : a.eval x = u)
    (hk : wpList Tryz.prog ops Q rest (a.put o.dst v') W') : wpList Tryz.prog ops Q (o :: rest) a W := by
  refine wpList_plain hgd fun K hK => ?_
  unfold Oper.wp execOp
  simp only [ho, resolve, invoke, builtin, Sem.run_bind, Sem.run_pure, Result.andThen_ok, List.map_toArray, List.map_cons, List.map_nil, hs, hx, hrun]
  exact hK _ _ hk
/-- a step over an append of one, in a round -/
theorem wpIn_appRun {F : Fence} {n' : Nat} {ops : Array Oper} {rest : List Oper} {o : Oper} {a : Act} {Q : Exit → Act → World → Prop} {W W' : World} {s x : Operand} {t : TypeId} {v u v' : Value} (hrun : (Builtin.append_ #[t, t] o.type #[v, u]).run Tryz.prog W = .ok v' W') (hgd : o.guard = none)
    (ho : o.op = .call { callee := .builtin .append, args := #[s, x], argTypes := #[t, t] }) (hs : a.eval s = v) (hx : a.eval x = u)
    (hk : wpListIn F n' Tryz.prog ops Q rest (a.put o.dst v') W') : wpListIn F n' Tryz.prog ops Q (o :: rest) a W := by
  refine wpListIn_plain hgd fun K hK => ?_
  unfold Oper.wpIn
  refine ⟨?_, ?_⟩
  · simp [Oper.about, ho, resolve, Target.leads, Sem.run_pure]
  · rw [Oper.semAt_plain F _ _ (by rw [ho]; intro c hc'; cases hc')]
    simp [execOp, ho, resolve, invoke, builtin, hs, hx, hrun, Result.andThen]
    exact hK _ _ hk
end Go.Proofs.YtekfgkeimlidhaaGreatDoor
