import Derived.Test.YtekfgkeimlidhaaGreatDoorHP
import Derived.ArgAppend
/- appends and stores to what the call owns -/
set_option linter.all false
set_option maxRecDepth 100000
namespace Go.Proofs.YtekfgkeimlidhaaGreatDoor
open Go.RowKit
section
variable {ops : Array Oper} {rest : List Oper} {o : Oper} {a : Act} {Q : Exit → Act → World → Prop}
theorem hp_appI (W : World) (s x : Operand) (t : TypeId) (ht : Tryz.prog.underlying t = some (.slice 3)) (hgd : o.guard = none)
    (ho : o.op = .call { callee := .builtin .append, args := #[s, x], argTypes := #[t, t] })
    {B : Nat} {e' : TypeId} {L1 L2 : List It} {v : Value} {l : List Int} {y : Int} (h : HP W B (L1 ++ .fl (owI v l) :: L2)) (hs : a.eval s = v) (hx : a.eval x = .slice (some ⟨W.heap.size, 0, none⟩) 1 1)
    (hlen : l.length < 1000000000) (hB : B ≤ W.heap.size)
    (hk : ∀ v' w', HP w' B (L1 ++ .fl (owI v' (l ++ [y])) :: L2) → Below B W w' → wpList Tryz.prog ops Q rest (a.put o.dst v') w') :
    wpList Tryz.prog ops Q (o :: rest) a (W.alloc (.cells #[Value.int .i64 y] e')) := by
  obtain ⟨M1, M2, h1, h2⟩ := h.getAt
  exact wp_appI W s x t ht hgd ho h1 hs hx hlen hB fun v' w' hoa hb => hk v' w' (h2 w' _ hoa) hb
theorem hp_appIs (W : World) (s x : Operand) (t : TypeId) (ht : Tryz.prog.underlying t = some (.slice 3)) (hgd : o.guard = none)
    (ho : o.op = .call { callee := .builtin .append, args := #[s, x], argTypes := #[t, t] })
    {B c : Nat} {A : Option Addr} {L1 L2 : List It} {v : Value} {l m : List Int} (h : HP W B (L1 ++ .fl (owI v l) :: L2)) (hr : ReadsI W W.heap.size A m) (hs : a.eval s = v) (hx : a.eval x = .slice A m.length c)
    (hlen : l.length + m.length < 1000000000) (hB : B ≤ W.heap.size)
    (hk : ∀ v' w', HP w' B (L1 ++ .fl (owI v' (l ++ m)) :: L2) → Below B W w' → wpList Tryz.prog ops Q rest (a.put o.dst v') w') :
    wpList Tryz.prog ops Q (o :: rest) a W := by
  obtain ⟨M1, M2, h1, h2⟩ := h.getAt
  exact wp_appIs W s x t ht hgd ho h1 hr hs hx hlen hB fun v' w' hoa hb => hk v' w' (h2 w' _ hoa) hb
theorem hp_appL (W : World) (s x : Operand) (t : TypeId) (ht : Tryz.prog.underlying t = some (.slice 89)) (hgd : o.guard = none)
    (ho : o.op = .call { callee := .builtin .append, args := #[s, x], argTypes := #[t, t] })
    {B : Nat} {e' : TypeId} {L1 L2 : List It} {v : Value} {l : List (Int × Int)} {y z : Int} (h : HP W B (L1 ++ .fl (owL v l) :: L2)) (hs : a.eval s = v) (hx : a.eval x = .slice (some ⟨W.heap.size, 0, none⟩) 1 1)
    (hlen : l.length < 1000000000) (hB : B ≤ W.heap.size)
    (hk : ∀ v' w', HP w' B (L1 ++ .fl (owL v' (l ++ [(y, z)])) :: L2) → Below B W w' → wpList Tryz.prog ops Q rest (a.put o.dst v') w') :
    wpList Tryz.prog ops Q (o :: rest) a (W.alloc (.cells #[Value.int .i64 y, Value.int .i64 z] e')) := by
  obtain ⟨M1, M2, h1, h2⟩ := h.getAt
  exact wp_appL W s x t ht hgd ho h1 hs hx hlen hB fun v' w' hoa hb => hk v' w' (h2 w' _ hoa) hb
end
/-! ### a store to a row -/
theorem OA.set {W : World} {B : Nat} {L1 L2 : List Ow} {o : Ow} (h : OA W B (L1 ++ o :: L2)) {k : Nat} {u : Value} (hk : k < o.n) (hsz : o.sz = 1) {g cap : Nat} (hv : o.v = .slice (some ⟨g, 0, none⟩) o.n cap) :
    OA (W.setCell ⟨g, k, none⟩ u) B (L1 ++ ⟨o.e, o.sz, o.v, o.n, o.xs.set k u⟩ :: L2) ∧ Below B W (W.setCell ⟨g, k, none⟩ u) := by
  have hok0 := h.get (o := o) (by simp)
  have hok : W.ownsRow B o.e o.sz o.v o.n o.xs := by
    obtain ⟨e, sz, v, n, xs⟩ := o
    have : sz = 1 := hsz
    subst this; exact hok0
  have hg := World.ownsRow.lt hok g (by rw [hv]; rfl)
  have hgb : W.grownBy (W.setCell ⟨g, k, none⟩ u) o.v.ownBlock := by
    refine ⟨rfl, rfl, rfl, by simp [World.setCell], fun j hj hne => Below.heap_setCell W ⟨g, k, none⟩ u j ?_⟩
    intro e; subst e; exact hne (by rw [hv]; rfl)
  refine ⟨h.upd hgb ?_ (.inl rfl), (Below.refl _ _).setCell (p := ⟨g, k, none⟩) hg.1 _⟩
  suffices hs : (W.setCell ⟨g, k, none⟩ u).ownsRow B o.e o.sz o.v o.n (o.xs.set k u) by
    obtain ⟨e, sz, v, n, xs⟩ := o
    have : sz = 1 := hsz
    subst this; exact hs
  refine ⟨by simpa using hok.1, ?_⟩
  rcases hok.2 with ⟨h1, h2⟩ | ⟨g', cap', cur, e1, h2, h3, h4, h5, h6, h7⟩
  · omega
  · rw [hv] at e1
    obtain rfl : g = g' := by injection e1 with e; injection e with e; injection e
    obtain rfl : cap = cap' := by injection e1
    refine .inr ⟨g, cap, cur.setIfInBounds k u, by rw [hv], h2, ?_, h4, h5, by simpa using h6, ?_⟩
    · simp [World.setCell, Array.getElem?_modify, h3]
    · show (cur.setIfInBounds k u).toList.take (o.n * o.sz) = o.xs.set k u
      rw [Array.toList_setIfInBounds, ← h7, List.take_set]
theorem ownI_form {W : World} {B n cap : Nat} {A : Option Addr} {l : List Int} (h : Ow.ok W B (owI (.slice A n cap) l)) (hl : 0 < l.length) : ∃ g, A = some ⟨g, 0, none⟩ ∧ n = l.length ∧ B ≤ g ∧ g < W.heap.size ∧
    (∀ k x, l[k]? = some x → W.cell? ⟨g, k, none⟩ = some (.int .i64 x)) ∧ ∀ k, W.frozen? ⟨g, k, none⟩ = false := by
  rcases h.2 with ⟨h1, h2⟩ | ⟨g, cap', cur, e1, h2, h3, h4, h5, h6, h7⟩
  · have : (owI (.slice A n cap) l).n = l.length := rfl
    omega
  · have e1' : Value.slice A n cap = .slice (some ⟨g, 0, none⟩) l.length cap' := e1
    injection e1' with ea en ec
    subst ea; subst en; subst ec
    refine ⟨g, rfl, rfl, h2, (Array.getElem?_eq_some_iff.1 h3).1, fun k x hx => ?_, fun k => by simp [World.frozen?, h3]⟩
    have := World.ownsRow.cells h (g := g) rfl k (.int .i64 x) (by show (l.map _)[k]? = _; simp [hx])
    rwa [show ((⟨g, 0, none⟩ : Addr).add k) = ⟨g, k, none⟩ from by unfold Addr.add; split <;> simp_all] at this
/-- the i-th set to x -/
def st {α : Type} (l : List α) (i : Int) (x : α) : Option (List α) := if 0 ≤ i ∧ i < (l.length : Int) then some (l.set i.toNat x) else none
theorem st_some {α : Type} {l r : List α} {i : Int} {x : α} (h : st l i x = some r) : (0 ≤ i ∧ i < (l.length : Int)) ∧ l.set i.toNat x = r := s_of h
theorem HP.setI {W : World} {B n cap : Nat} {its1 its2 : List It} {A : Option Addr} {l : List Int} (h : HP W B (its1 ++ .fl (owI (.slice A n cap) l) :: its2)) {i x : Int} (hi : 0 ≤ i ∧ i < (l.length : Int)) :
    ∃ g, A = some ⟨g, 0, none⟩ ∧ W.frozen? ⟨g, i.toNat, none⟩ = false ∧ (∃ u, W.cell? ⟨g, i.toNat, none⟩ = some u) ∧
      HP (W.setCell ⟨g, i.toNat, none⟩ (.int .i64 x)) B (its1 ++ .fl (owI (.slice A n cap) (l.set i.toNat x)) :: its2) ∧ Below B W (W.setCell ⟨g, i.toNat, none⟩ (.int .i64 x)) := by
  obtain ⟨g, rfl, rfl, hB, hg, hc, hf⟩ := ownI_form (l := l) (A := A) (n := n) (cap := cap) (h.get (o := owI (.slice A n cap) l) (by simp)) (by omega)
  obtain ⟨M1, M2, h1, h2⟩ := h.getAt
  obtain ⟨h3, h4⟩ := OA.set h1 (k := i.toNat) (u := .int .i64 x) (show i.toNat < l.length by omega) rfl rfl
  refine ⟨g, rfl, hf _, ⟨_, hc i.toNat l[i.toNat] (List.getElem?_eq_getElem (by omega))⟩, h2 _ _ ?_, h4⟩
  have e : owI (.slice (some ⟨g, 0, none⟩) l.length cap) (l.set i.toNat x) = ⟨3, 1, .slice (some ⟨g, 0, none⟩) l.length cap, l.length, (l.map (Value.int .i64)).set i.toNat (.int .i64 x)⟩ := by
    unfold owI; rw [List.length_set, List.map_set]
  rw [e]; exact h3
theorem OA.perm {W : World} {B : Nat} {L L' : List Ow} (h : OA W B L) (hp : L.Perm L') : OA W B L' :=
  ⟨fun o ho => h.1 o (hp.mem_iff.2 ho), (hp.pairwise_iff (fun h => apart.symm h)).1 h.2⟩
theorem HP.front {W : World} {B : Nat} {its1 its2 : List It} {o : Ow} (h : HP W B (its1 ++ .fl o :: its2)) : HP W B (.fl o :: (its1 ++ its2)) := by
  obtain ⟨L, h1, h2⟩ := h
  obtain ⟨M1, M2, rfl, f1, f2⟩ := Fl.split h2
  cases f2 with
  | fl _ f2 => exact ⟨_, h1.perm List.perm_middle, .fl o (Fl.join f1 f2)⟩
theorem seg_snoc : ∀ {vs : List Value} {ls : List (List Int)}, vs.length = ls.length → ∀ (v : Value) (l : List Int), seg (vs ++ [v]) (ls ++ [l]) = seg vs ls ++ [owI v l]
  | [], [], _, v, l => rfl
  | v0 :: vs, l0 :: ls, hl, v, l => by
    have := seg_snoc (vs := vs) (ls := ls) (by simpa using hl) v l
    unfold seg at this ⊢
    simp only [List.cons_append, List.zipWith_cons_cons, this]
theorem seg_set : ∀ {vs : List Value} {ls : List (List Int)}, vs.length = ls.length → ∀ {k : Nat} {v : Value} {l : List Int}, vs[k]? = some v → ls[k]? = some l → ∃ S1 S2, seg vs ls = S1 ++ owI v l :: S2 ∧ ∀ l', seg vs (ls.set k l') = S1 ++ owI v l' :: S2
  | [], [], _, k, v, l, h, _ => by simp at h
  | v0 :: vs, l0 :: ls, hl, 0, v, l, h1, h2 => by
    simp at h1 h2; subst h1; subst h2
    exact ⟨[], seg vs ls, rfl, fun l' => rfl⟩
  | v0 :: vs, l0 :: ls, hl, k+1, v, l, h1, h2 => by
    obtain ⟨S1, S2, e1, e2⟩ := seg_set (vs := vs) (ls := ls) (by simpa using hl) (k := k) (by simpa using h1) (by simpa using h2)
    refine ⟨owI v0 l0 :: S1, S2, ?_, fun l' => ?_⟩
    · unfold seg at e1 ⊢; simp only [List.zipWith_cons_cons, e1, List.cons_append]
    · have := e2 l'; unfold seg at this ⊢; simp only [List.set_cons_succ, List.zipWith_cons_cons, this, List.cons_append]
theorem row1_info : (Tryz.prog.info? 62).map (fun i => (i.zero, i.size, i.bytes)) = some (some (.slice none 0 0), 1, 24) := by kernel_rfl
section
variable {ops : Array Oper} {rest : List Oper} {o : Oper} {a : Act} {Q : Exit → Act → World → Prop}
/-- append(out, row), out a row of rows -/
theorem hp_appR (W : World) (s x : Operand) (t : TypeId) (ht : Tryz.prog.underlying t = some (.slice 62)) (hgd : o.guard = none)
    (ho : o.op = .call { callee := .builtin .append, args := #[s, x], argTypes := #[t, t] })
    {B : Nat} {e' : TypeId} {its1 its2 : List It} {V vr : Value} {ls : List (List Int)} {r : List Int} (h : HP W B (.fl (owI vr r) :: (its1 ++ .ro V ls :: its2))) (hs : a.eval s = V) (hx : a.eval x = .slice (some ⟨W.heap.size, 0, none⟩) 1 1)
    (hlen : ls.length < 1000000000) (hB : B ≤ W.heap.size)
    (hk : ∀ v' w', HP w' B (its1 ++ .ro v' (ls ++ [r]) :: its2) → Below B W w' → wpList Tryz.prog ops Q rest (a.put o.dst v') w') :
    wpList Tryz.prog ops Q (o :: rest) a (W.alloc (.cells #[vr] e')) := by
  obtain ⟨i0, hi0, hz0, hz1, hz2⟩ := info_parts row1_info
  obtain ⟨L, h1, h2⟩ := h
  cases h2 with
  | fl _ h2 =>
  obtain ⟨M1, M2, rfl, f1, f2⟩ := Fl.split h2
  cases f2 with
  | @ro _ vs _ _ M3 hl f3 =>
  have hrow : W.ownsRow B 62 1 V vs.length vs := h1.get (o := owV V vs) (by simp)
  have hone : vr.oneCell' = true := by
    rcases (h1.get (o := owI vr r) (by simp)).2 with ⟨e, _⟩ | ⟨g, cap, cur, e, _⟩
    · have : vr = .slice none 0 0 := e
      rw [this]; rfl
    · have : vr = _ := e
      rw [this]; rfl
  refine wp_app1 W s x t hgd ho B 62 e' i0 _ 1 24 ht hi0 hz0 hz1 hz2 rfl (by omega) V vs.length vs hs hrow [vr] hx rfl (by simpa using hone) (by omega) (by omega) hB ?_
  intro v' w' hown hg hblk hb
  refine hk v' w' ?_ hb
  have h3 : OA w' B (([owI vr r] ++ M1) ++ owV v' (vs ++ [vr]) :: (seg vs ls ++ M3)) := by
    refine OA.upd (W := W) (o := owV V vs) (by simpa using h1) hg ?_ ?_
    · show w'.ownsRow B 62 1 v' (vs ++ [vr]).length (vs ++ [vr])
      rw [List.length_append]; exact hown
    · rcases hblk with e | e
      · exact .inl e
      · exact .inr ⟨_, e, by omega⟩
  refine ⟨M1 ++ (owV v' (vs ++ [vr]) :: (seg (vs ++ [vr]) (ls ++ [r]) ++ M3)), h3.perm ?_, Fl.join f1 (.ro v' (by simp [hl]) f3)⟩
  rw [seg_snoc hl]
  have p1 : ([owI vr r] ++ M1 ++ owV v' (vs ++ [vr]) :: (seg vs ls ++ M3)).Perm (M1 ++ ([owI vr r] ++ owV v' (vs ++ [vr]) :: (seg vs ls ++ M3))) := by
    rw [← List.append_assoc]
    exact List.perm_append_comm.append_right _
  refine p1.trans (List.Perm.append_left _ ?_)
  refine (List.Perm.swap _ _ _).trans (List.Perm.cons _ ?_)
  rw [List.append_assoc, List.singleton_append]
  exact List.perm_middle.symm
end
theorem HP.setR {W : World} {B n cap : Nat} {its1 its2 : List It} {A : Option Addr} {ls : List (List Int)} (h : HP W B (its1 ++ .ro (.slice A n cap) ls :: its2)) {i j x : Int} {row : List Int} (hi : ix ls i = some row) (hj : 0 ≤ j ∧ j < (row.length : Int)) :
    ∃ b o g cap', A = some ⟨b, o, none⟩ ∧ 0 ≤ i ∧ i < (ls.length : Int) ∧ W.cell? ⟨b, o + i.toNat, none⟩ = some (.slice (some ⟨g, 0, none⟩) row.length cap') ∧ W.frozen? ⟨g, j.toNat, none⟩ = false ∧ (∃ u, W.cell? ⟨g, j.toNat, none⟩ = some u) ∧
      HP (W.setCell ⟨g, j.toNat, none⟩ (.int .i64 x)) B (its1 ++ .ro (.slice A n cap) (ls.set i.toNat (row.set j.toNat x)) :: its2) ∧ Below B W (W.setCell ⟨g, j.toNat, none⟩ (.int .i64 x)) := by
  obtain ⟨hi0, hi1, hi2⟩ := ix_some hi
  obtain ⟨L, h1, h2⟩ := h
  obtain ⟨M1, M2, rfl, f1, f2⟩ := Fl.split h2
  cases f2 with
  | @ro _ vs _ _ M3 hl f3 =>
  obtain ⟨v, hv, _⟩ := seg_at hl hi2
  obtain ⟨S1, S2, e1, e2⟩ := seg_set hl hv hi2
  rw [e1] at h1
  have h1' : OA W B ((M1 ++ owV (.slice A n cap) vs :: S1) ++ owI v row :: (S2 ++ M3)) := by simpa using h1
  have hokv := h1'.get (o := owI v row) (by simp)
  obtain ⟨A2, c2, rfl, _⟩ := own_readsI hokv
  obtain ⟨g, rfl, _, hB, hg, hc, hf⟩ := ownI_form (l := row) hokv (by omega)
  obtain ⟨h3, h4⟩ := OA.set h1' (k := j.toNat) (u := .int .i64 x) (show j.toNat < row.length by omega) rfl rfl
  have hrow := h1'.get (o := owV (.slice A n cap) vs) (by simp)
  obtain ⟨A3, c3, e3, hrd⟩ := own_reads hrow
  have e3' : Value.slice A n cap = .slice A3 vs.length c3 := e3
  injection e3' with ea en ec
  subst ea; subst en; subst ec
  obtain ⟨b, oo, eA, hb, hcell⟩ := hrd.2 (show 0 < vs.length by omega)
  refine ⟨b, oo, g, c2, eA, hi0, hi1, hcell i.toNat _ hv, hf _, ⟨_, hc j.toNat row[j.toNat] (List.getElem?_eq_getElem (by omega))⟩, ?_, h4⟩
  refine ⟨M1 ++ (owV (.slice A vs.length cap) vs :: (seg vs (ls.set i.toNat (row.set j.toNat x)) ++ M3)), ?_, Fl.join f1 (.ro _ (by simpa using hl) f3)⟩
  rw [e2]
  have e : owI (.slice (some ⟨g, 0, none⟩) row.length c2) (row.set j.toNat x) = ⟨3, 1, .slice (some ⟨g, 0, none⟩) row.length c2, row.length, (row.map (Value.int .i64)).set j.toNat (.int .i64 x)⟩ := by
    unfold owI; rw [List.length_set, List.map_set]
  rw [e]
  simp only [List.append_assoc, List.cons_append] at h3 ⊢
  exact h3
/-- a row of n noughts -/
def mkI (n : Int) : Option (List Int) := if 0 ≤ n ∧ n < 1000000000 then some (List.replicate n.toNat 0) else none
theorem mkI_some {n : Int} {r : List Int} (h : mkI n = some r) : (0 ≤ n ∧ n < 1000000000) ∧ List.replicate n.toNat 0 = r := s_of h
theorem run_makeI {n : Int} (h : 0 ≤ n ∧ n < 1000000000) (W : World) : (Instr.makeSlice 62 (.int .i64 n) (.int .i64 n)).run Tryz.prog W =
    .ok (.slice (some ⟨W.heap.size, 0, none⟩) n.toNat n.toNat) (W.alloc (.cells (Array.replicate n.toNat (Value.int .i64 0)) 3)) := by
  obtain ⟨k, rfl⟩ := Int.eq_ofNat_of_zero_le h.1
  have := run_make_row' (P := Tryz.prog) 62 3 (.int .i64 0) 8 Tryz.underlying62 int_info rfl .i64 .i64 k (by omega) (by omega) W
  rw [Int.toNat_natCast, this]
  congr 3
  apply Array.ext'
  simp only [madeCells, Array.toList_map, Array.toList_range, Array.toList_replicate]
  rw [List.eq_replicate_iff]
  refine ⟨by simp, fun b hb => ?_⟩
  obtain ⟨x, _, rfl⟩ := List.mem_map.1 hb
  have : x % (#[Value.int IntKind.i64 0] : Array Value).size = 0 := Nat.mod_one x
  rw [this]; rfl
theorem litI_ok (W : World) (l : List Int) (hl : l.length ≤ maxLen) : (owI (.slice (some ⟨W.heap.size, 0, none⟩) l.length l.length) l).ok (W.alloc (.cells (l.map (Value.int .i64)).toArray 3)) W.heap.size := by
  have := own_lit (w := W) (base := W.heap.size) (n := l.length) (e := 3) (l.map (Value.int .i64)).toArray 1 (by simp) (Nat.le_refl _) hl
  simpa [Ow.ok, owI] using this
theorem mkI_ok (W : World) {n : Int} (h : 0 ≤ n ∧ n < 1000000000) : (owI (.slice (some ⟨W.heap.size, 0, none⟩) n.toNat n.toNat) (List.replicate n.toNat 0)).ok (W.alloc (.cells (Array.replicate n.toNat (Value.int .i64 0)) 3)) W.heap.size := by
  have := litI_ok W (List.replicate n.toNat 0) (by rw [List.length_replicate]; unfold maxLen; omega)
  rw [List.length_replicate, List.map_replicate] at this
  rwa [← List.toArray_replicate]
/-- the callee's own rows of rows -/
def PostR (mk : Value → Value) (r : List (List Int)) (B : Nat) (w : World) : Ending → World → Prop := fun e w' => ∃ v, e = .returned (mk v) ∧ HP w' B [.ro v r] ∧ Below B w w'
theorem HP.callR {W W' : World} {B : Nat} {its : List It} {V : Value} {r : List (List Int)} (h : HP W B its) (hb : Below W.heap.size W W') (hB : B ≤ W.heap.size) (ho : HP W' W.heap.size [.ro V r]) : HP W' B (.ro V r :: its) := by
  obtain ⟨L, h1, h2⟩ := h
  obtain ⟨L', h3, h4⟩ := ho
  cases h4 with
  | @ro _ vs _ _ M hl f =>
  cases f
  have h1' := h1.below hb
  refine ⟨_, ⟨fun x hx => ?_, ?_⟩, .ro V hl h2⟩
  · rcases List.mem_cons.1 hx with rfl | hx
    · exact Ow.ok.weak (h3.1 _ List.mem_cons_self) hB
    · rcases List.mem_append.1 hx with hx | hx
      · exact Ow.ok.weak (h3.1 _ (List.mem_cons_of_mem _ (by simpa using hx))) hB
      · exact h1'.1 x hx
  · have e : owV V vs :: (seg vs r ++ L) = (owV V vs :: (seg vs r ++ [])) ++ L := by simp
    rw [e, List.pairwise_append]
    refine ⟨h3.2, h1.2, fun x hx y hy g hg hyg => ?_⟩
    have a1 := (Ow.ok.lt (h3.1 x hx) g hg).1
    have a2 := (Ow.ok.lt (h1.1 y hy) g hyg).2
    omega
theorem readsI_nil {w : World} {B : Nat} {A : Option Addr} : ReadsI w B A [] := ⟨rfl, fun h => by simp at h⟩
theorem readsL_nil {w : World} {B : Nat} {A : Option Addr} : ReadsL w B A [] := ⟨rfl, fun h => by simp at h⟩
theorem HP.cap_I {W : World} {B n cap : Nat} {its : List It} {A : Option Addr} {l : List Int} (h : HP W B its) (ho : It.fl (owI (.slice A n cap) l) ∈ its) : l.length ≤ cap := by
  rcases (h.get ho).2 with ⟨h1, h2⟩ | ⟨g, cap', cur, e1, h2, h3, h4, h5, h6, h7⟩
  · have : l.length = 0 := h2
    omega
  · have e : Value.slice A n cap = .slice (some ⟨g, 0, none⟩) l.length cap' := e1
    injection e with e1 e2 e3
    subst e3; exact h4
/-- append(x[:len(x):len(x)], y): a new row -/
def apF {α : Type} (l : List α) (i : Int) (x : α) : Option (List α) := if (i = (l.length : Int)) ∧ l.length < 1000000000 then some (l ++ [x]) else none
theorem apF_some {α : Type} {l r : List α} {i : Int} {x : α} (h : apF l i x = some r) : (i = (l.length : Int) ∧ l.length < 1000000000) ∧ l ++ [x] = r := s_of h
theorem run_sliceF {W W0 : World} {B cap : Nat} {A : Option Addr} {l : List Int} (hr : ReadsI W0 B A l) (hc : l.length ≤ cap) :
    (Instr.slice 62 (.slice A l.length cap) none (some (.int .i64 (l.length : Int))) (some (.int .i64 (l.length : Int)))).run Tryz.prog W = .ok (.slice A l.length l.length) W := by
  obtain ⟨i0, hi0, hz0, hz1, hz2⟩ := info_parts int_info
  have e : (A.map fun a : Addr => a.add (0 * 1)) = A := by cases A <;> simp [Addr.add]
  simp [Instr.slice, run_underlying Tryz.underlying62, Instr.sliceBounds, Instr.sliceBound, asIntOf, hc, sizeOf, typeInfo, hi0, hz1, Sem.run_bind, Sem.run_pure]
  try (intro _; cases A <;> simp [Addr.add])
section
variable {ops : Array Oper} {rest : List Oper} {o : Oper} {a : Act} {Q : Exit → Act → World → Prop}
theorem hp_apF (W : World) (s x : Operand) (t : TypeId) (ht : Tryz.prog.underlying t = some (.slice 3)) (hgd : Region.wanted o (yielded ops a.tmps) = true)
    (ho : o.op = .call { callee := .builtin .append, args := #[s, x], argTypes := #[t, t] })
    {B B' : Nat} {e' : TypeId} {its : List It} {A : Option Addr} {l : List Int} {y : Int} (h : HP W B its) (hr : ReadsI W B' A l) (hs : a.eval s = .slice A l.length l.length) (hx : a.eval x = .slice (some ⟨W.heap.size, 0, none⟩) 1 1)
    (hlen : l.length < 1000000000) (hB : B ≤ W.heap.size)
    (hk : ∀ v' w', HP w' B (.fl (owI v' (l ++ [y])) :: its) → Below W.heap.size W w' → wpList Tryz.prog ops Q rest (a.put o.dst v') w') :
    wpList Tryz.prog ops Q (o :: rest) a (W.alloc (.cells #[Value.int .i64 y] e')) := by
  obtain ⟨i0, hi0, hz0, hz1, hz2⟩ := info_parts int_info
  have hnews : ∀ j u, [Value.int .i64 y][j]? = some u → (W.alloc (.cells #[Value.int .i64 y] e')).cell? ((⟨W.heap.size, 0, none⟩ : Addr).add j) = some u := by
    intro j u hu
    have e1 : ((⟨W.heap.size, 0, none⟩ : Addr).add j) = ⟨W.heap.size, j, none⟩ := by unfold Addr.add; split <;> simp_all
    rw [e1, cell_of_row _ _ _ _ _ _ (heap_alloc_new W _)]
    simpa using hu
  have hal : Below W.heap.size W (W.alloc (.cells #[Value.int .i64 y] e')) := (Below.refl _ _).alloc (Nat.le_refl _) _
  have hsz : (W.alloc (.cells #[Value.int .i64 y] e')).heap.size = W.heap.size + 1 := by simp
  have key : ∃ v' w', (Builtin.append_ #[t, t] o.type #[.slice A l.length l.length, .slice (some ⟨W.heap.size, 0, none⟩) 1 1]).run Tryz.prog (W.alloc (.cells #[Value.int .i64 y] e')) = .ok v' w' ∧
      w'.ownsRow W.heap.size 3 1 v' (l.length + 1) (l.map (Value.int .i64) ++ [.int .i64 y]) ∧ Below W.heap.size W w' := by
    rcases A with _ | ad
    · have hm : l = [] := by
        rcases Nat.eq_zero_or_pos l.length with h0 | h0
        · exact List.eq_nil_of_length_eq_zero h0
        · obtain ⟨b, oo, e, _⟩ := hr.2 h0; cases e
      subst hm
      obtain ⟨v', w', h1, h2, h3, _, _⟩ := run_append_own_at (P := Tryz.prog) (W.alloc (.cells #[Value.int .i64 y] e')) (W.heap.size + 1) t o.type 3 i0 _ 1 8 ht hi0 hz0 hz1 hz2 rfl (by omega) (.slice none 0 0) 0 [] (World.ownsRow_nil _ _ _ _) ⟨W.heap.size, 0, none⟩ 1 1 [.int .i64 y] rfl hnews (by simp [Value.oneCell']) (by unfold maxLen; omega) (by omega) (by omega)
      exact ⟨v', w', h1, own_weak h2 (by omega), hal.grown h3 (by omega) (fun k hk => by simp [Value.ownBlock] at hk)⟩
    · obtain ⟨v', w', h1, h2, h3⟩ := run_append_arg_grows (P := Tryz.prog) (W.alloc (.cells #[Value.int .i64 y] e')) t o.type 3 i0 _ 1 8 ht hi0 hz0 hz1 hz2 rfl (by omega) ad l.length l.length (l.map (Value.int .i64)) (by simp) (fun j u hu => by
        have hj : j < l.length := by have := (List.getElem?_eq_some_iff.1 hu).1; simpa using this
        obtain ⟨b, oo, e, hb, hc⟩ := hr.2 (by omega)
        cases e
        rw [Go.WideShapes.add_plain]
        have hcc := hc j u hu
        exact (hal.cell (p := ⟨b, oo + j, none⟩) (World.block_lt_of_cell? _ _ hcc)).trans hcc) ⟨W.heap.size, 0, none⟩ 1 1 [.int .i64 y] rfl hnews (by omega) (by unfold maxLen; omega) (by omega)
      exact ⟨v', w', h1, own_weak h2 (by omega), hal.grown h3 (by omega) (fun k hk => by cases hk)⟩
  obtain ⟨v', w', hrun, hown, hb⟩ := key
  refine wpList_step fun K hK => ?_
  rw [if_pos hgd]
  unfold Oper.wp execOp
  simp only [ho, resolve, invoke, builtin, Sem.run_bind, Sem.run_pure, Result.andThen_ok, List.map_toArray, List.map_cons, List.map_nil, hs, hx, hrun]
  refine hK _ _ (hk v' w' (h.call hb hB ?_) hb)
  show w'.ownsRow W.heap.size 3 1 v' (l ++ [y]).length ((l ++ [y]).map (Value.int .i64))
  rw [List.length_append, List.map_append]; exact hown
end
end Go.Proofs.YtekfgkeimlidhaaGreatDoor
