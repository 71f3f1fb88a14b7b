import Derived.Test.YtabkmceajgpdjaaDoorSlM
import Derived.Test.YtabkmceajgpdjaaDoorTl
import Derived.Shelf.Spec.SlicesInsertGrow
/- slices.Insert of one number -/
set_option linter.all false
set_option maxRecDepth 100000
namespace Go.Proofs.YtabkmceajgpdjaaDoor
open Go.RowKit Go.Shelf Go.Lib
def insRen : Ren := ⟨fun x => if x = 21 then 23 else if x = 27 then 35 else if x = 28 then 36 else if x = 35 then 46 else if x = 39 then 53 else 0,
  fun x => if x = 3 then 3 else if x = 4 then 4 else if x = 22 then 23 else 0, fun x => x⟩
theorem insLays : Lays2.n21 Tryd.prog insRen :=
  { mixed := by kernel_rfl
    f21 := Tryd.func23.trans (congrArg some (by kernel_rfl))
    f27 := Tryd.func35.trans (congrArg some (by kernel_rfl))
    f28 := Tryd.func36.trans (congrArg some (by kernel_rfl))
    f35 := Tryd.func46.trans (congrArg some (by kernel_rfl))
    f39 := Tryd.func53.trans (congrArg some (by kernel_rfl))
    t0 := Tryd.underlying0
    a0 := Tryd.isAgg0
    z0 := Tryd.sizeOf0
    v0 := Tryd.zeroValue0
    t3 := Tryd.underlying3
    a3 := Tryd.isAgg3
    z3 := Tryd.sizeOf3
    v3 := Tryd.zeroValue3
    t4 := Tryd.underlying4
    a4 := Tryd.isAgg4
    z4 := Tryd.sizeOf4
    v4 := Tryd.zeroValue4
    t22 := Tryd.underlying23
    a22 := Tryd.isAgg23
    z22 := Tryd.sizeOf23
    v22 := Tryd.zeroValue23
    i3 := by kernel_rfl }
/-- one after the other -/
def setL : List Value → Nat → List Value → List Value
  | xs, _, [] => xs
  | xs, k, u :: us => setL (xs.set k u) (k + 1) us
theorem setL_eq : ∀ (vs : List Value) (xs : List Value) (k : Nat), k + vs.length ≤ xs.length → setL xs k vs = xs.take k ++ vs ++ xs.drop (k + vs.length)
  | [], xs, k, _ => by rw [setL, List.append_nil, List.length_nil, Nat.add_zero, List.take_append_drop]
  | u :: us, xs, k, h => by
    rw [List.length_cons] at h
    have hk : k < xs.length := by omega
    rw [setL, setL_eq us _ _ (by rw [List.length_set]; omega), List.length_cons, List.drop_set_of_lt (by omega), show k + (us.length + 1) = k + 1 + us.length from by omega]
    congr 1
    rw [List.take_set, List.take_add_one, List.getElem?_eq_getElem hk, Option.toList_some, List.set_append_right _ _ (by rw [List.length_take]; omega)]
    simp [List.length_take, Nat.min_eq_left (Nat.le_of_lt hk)]
theorem OA.setCells {B : Nat} {L1 L2 : List Ow} {e : TypeId} {v : Value} {n g cap : Nat} (hv : v = .slice (some ⟨g, 0, none⟩) n cap) : ∀ (vs : List Value) (k : Nat) (xs : List Value) (W : World), OA W B (L1 ++ ⟨e, 1, v, n, xs⟩ :: L2) → k + vs.length ≤ n →
    OA (W.setCells g k vs) B (L1 ++ ⟨e, 1, v, n, setL xs k vs⟩ :: L2) ∧ Below B W (W.setCells g k vs)
  | [], k, xs, W, h, _ => ⟨h, Below.refl _ _⟩
  | u :: us, k, xs, W, h, hk => by
    rw [List.length_cons] at hk
    obtain ⟨h1, h2⟩ := OA.set h (k := k) (u := u) (by show k < n; omega) rfl hv
    obtain ⟨h3, h4⟩ := OA.setCells hv us (k + 1) (xs.set k u) _ h1 (by omega)
    exact ⟨h3, h2.trans h4⟩
theorem own_new {W : World} {B n cap : Nat} {e : TypeId} {xs : List Value} {zs : Array Value} (hB : B ≤ W.heap.size) (hx : xs.length = n) (hz : n + zs.size = cap) (hm : cap ≤ maxLen) :
    Ow.ok (W.alloc (.cells (xs.toArray ++ zs) e)) B ⟨e, 1, .slice (some ⟨W.heap.size, 0, none⟩) n cap, n, xs⟩ := by
  refine ⟨by show xs.length = n * 1; omega, .inr ⟨W.heap.size, cap, xs.toArray ++ zs, rfl, hB, heap_alloc_new W _, (by show n ≤ cap; omega), hm, (by show (xs.toArray ++ zs).size = cap * 1; simp; omega), ?_⟩⟩
  show (xs.toArray ++ zs).toList.take (n * 1) = xs
  rw [Array.toList_append, Nat.mul_one, ← hx, List.take_left']
  rfl
def insAt (l : List Int) (i x : Int) : List Int := l.take i.toNat ++ x :: l.drop i.toNat
def slIns (l : List Int) (i x : Int) : Option (List Int) := if (0 ≤ i ∧ i ≤ (l.length : Int)) ∧ l.length < 1000000 then some (insAt l i x) else none
theorem slIns_some {l r : List Int} {i x : Int} (h : slIns l i x = some r) : ((0 ≤ i ∧ i ≤ (l.length : Int)) ∧ l.length < 1000000) ∧ insAt l i x = r := s_of h
theorem one_ints (l : List Int) : ∀ v ∈ l.map (Value.int .i64), v.oneCell' = true := fun v hv => by
  obtain ⟨y, _, rfl⟩ := List.mem_map.1 hv; rfl
theorem slIns_ok {B : Nat} {L1 L2 : List It} {v : Value} {l : List Int} {i x : Int} (W : World) (h : HP W B (L1 ++ .fl (owI v l) :: L2)) (hB : B ≤ W.heap.size) (hi : (0 ≤ i ∧ i ≤ (l.length : Int)) ∧ l.length < 1000000) :
    Calls Tryd.prog 23 #[v, .int .i64 i, .slice (some ⟨W.heap.size, 0, none⟩) 1 1] (W.alloc (.cells #[.int .i64 x] 3)) fun e w' =>
      ∃ V', e = .returned V' ∧ HP w' B (L1 ++ .fl (owI V' (insAt l i x)) :: L2) ∧ Below B W w' := by
  obtain ⟨⟨hi0, hi1⟩, hlen⟩ := hi
  obtain ⟨k, rfl⟩ := Int.eq_ofNat_of_zero_le hi0
  replace hi1 : k ≤ l.length := by omega
  obtain ⟨M1, M2, h1, hback⟩ := h.getAt
  have hown : W.ownsRow B 3 1 v l.length (l.map (Value.int .i64)) := h1.get (o := owI v l) (by simp)
  have hcs : (l.map (Value.int .i64)).length = l.length := by simp
  have hd0 : Below W.heap.size W (W.alloc (.cells #[Value.int .i64 x] 3)) := (Below.refl _ _).alloc (Nat.le_refl _) _
  have h1' := h1.below hd0
  have hw0 : (W.alloc (.cells #[Value.int .i64 x] 3)).heap.size = W.heap.size + 1 := by simp
  have hblk : (W.alloc (.cells #[Value.int .i64 x] 3)).heap[W.heap.size]? = some (.cells #[Value.int .i64 x] 3 (0, 0)) := heap_alloc_new W _
  have hvs : ∀ (j : Nat) (u : Value), ([Value.int .i64 x] : List Value)[j]? = some u → (W.alloc (.cells #[Value.int .i64 x] 3)).cell? ⟨W.heap.size, 0 + j, none⟩ = some u := fun j u hu => by
    rw [cell_of_row _ _ _ _ _ _ hblk, Nat.zero_add, ← hu]; simp
  have h1v : ∀ u ∈ ([Value.int .i64 x] : List Value), u.oneCell' = true := fun u hu => by rw [List.mem_singleton.1 hu]; rfl
  have hsz1 : ([Value.int .i64 x] : List Value).length = 1 := rfl
  have hval : ∀ (j : Nat), j = k → l.map (Value.int .i64) = (l.map (Value.int .i64)).take k ++ (l.map (Value.int .i64)).drop k := fun j _ => (List.take_append_drop k _).symm
  have hfin : (insAt l (k : Int) x).map (Value.int .i64) = (l.map (Value.int .i64)).take k ++ (Value.int .i64 x :: (l.map (Value.int .i64)).drop k) := by
    unfold insAt; rw [Int.toNat_natCast, List.map_append, List.map_cons, List.map_take, List.map_drop]
  have hfl : (insAt l (k : Int) x).length = l.length + 1 := by
    unfold insAt; rw [Int.toNat_natCast, List.length_append, List.length_cons, List.length_take, List.length_drop]; omega
  have done : ∀ (V' : Value) (w' : World), OA w' B (M1 ++ ⟨3, 1, V', l.length + 1, (l.map (Value.int .i64)).take k ++ (Value.int .i64 x :: (l.map (Value.int .i64)).drop k)⟩ :: M2) → HP w' B (L1 ++ .fl (owI V' (insAt l (k : Int) x)) :: L2) := by
    intro V' w' hoa
    refine hback w' _ ?_
    have e : owI V' (insAt l (k : Int) x) = ⟨3, 1, V', l.length + 1, (l.map (Value.int .i64)).take k ++ (Value.int .i64 x :: (l.map (Value.int .i64)).drop k)⟩ := by
      unfold owI; rw [hfin, hfl]
    rw [e]; exact hoa
  -- a new row
  have newrow : ∀ (Wb : World) (o : Ow), Below W.heap.size W Wb → o.ok Wb B → (∃ g, o.v.ownBlock = some g ∧ W.heap.size ≤ g) → OA Wb B (M1 ++ o :: M2) := by
    intro Wb o hb ho hg
    exact h1.upd (o := owI v l) ⟨hb.os, hb.tape, hb.output, hb.size, fun k hk _ => hb.block k hk⟩ ho (.inr hg)
  have endgrow : ∀ (base : Option Addr) (c : Nat), v = .slice base l.length c → k = l.length → l.length ≤ c → c < l.length + 1 → (base = none → l.length = 0) → (∀ a, base = some a → ∀ (j : Nat) (u : Value), (l.map (Value.int .i64))[j]? = some u → (W.alloc (.cells #[Value.int .i64 x] 3)).cell? (a.add j) = some u) →
      Calls Tryd.prog 23 #[v, .int .i64 (k : Int), .slice (some ⟨W.heap.size, 0, none⟩) 1 1] (W.alloc (.cells #[.int .i64 x] 3)) fun e w' =>
      ∃ V', e = .returned V' ∧ HP w' B (L1 ++ .fl (owI V' (insAt l (k : Int) x)) :: L2) ∧ Below B W w' := by
    intro base c hv hk hc1 hc2 hnil hcells
    subst hk; subst hv
    have hC := Any2.slices_Insert_int_end_grow insLays base l.length c W.heap.size 0 1 1 (l.map (Value.int .i64)) [Value.int .i64 x] (W.alloc (.cells #[Value.int .i64 x] 3)) (by omega) hc1 hc2 (by omega) hcs hsz1 hnil hcells hvs h1v
    refine Calls.mono hC ?_
    rintro e w' ⟨rfl, rfl⟩
    have hb1 : Below W.heap.size W ((W.alloc (.cells #[Value.int .i64 x] 3)).drew) := hd0.trans ((Dr.one _).below _)
    refine ⟨_, rfl, done _ _ (newrow _ _ (hb1.trans ((Below.refl _ _).alloc (by show W.heap.size ≤ _; exact hb1.size) _)) ?_ ⟨_, rfl, hd0.size⟩), (hb1.trans ((Below.refl _ _).alloc (by exact hb1.size) _)).mono hB⟩
    have := own_new (W := (W.alloc (.cells #[Value.int .i64 x] 3)).drew) (B := B) (n := l.length + 1) (cap := grownCap (W.alloc (.cells #[Value.int .i64 x] 3)) (l.length + 1) c 3) (e := 3)
      (xs := l.map (Value.int .i64) ++ [Value.int .i64 x]) (zs := Builtin.zeroCells (Value.int .i64 0).cells (grownCap (W.alloc (.cells #[Value.int .i64 x] 3)) (l.length + 1) c 3 - (l.length + 1)))
      (Nat.le_trans hB hb1.size) (by simp) (by rw [size_zeroCells]; have := grownCap_ge (W.alloc (.cells #[Value.int .i64 x] 3)) (l.length + 1) c 3; simp [Value.cells]; omega) (grownCap_le_maxLen _ _ _ _ (by unfold maxLen; omega))
    have e : (l.map (Value.int .i64)).take l.length ++ (Value.int .i64 x :: (l.map (Value.int .i64)).drop l.length) = l.map (Value.int .i64) ++ [Value.int .i64 x] := by
      rw [List.take_of_length_le (by simp), List.drop_of_length_le (by simp)]
    rw [e]; exact this
  rcases hown.2 with ⟨hv, hn⟩ | ⟨g, cap, cur, hv, hg1, hg2, hg3, hg4, hg5, hg6⟩
  · refine endgrow none 0 (by rw [hv, hn]) (by omega) (by omega) (by omega) (fun _ => hn) (fun a ha => by cases ha)
  · rw [Nat.mul_one] at hg5 hg6
    have hgW : g < W.heap.size := (Array.getElem?_eq_some_iff.1 hg2).1
    have hg2' : (W.alloc (.cells #[Value.int .i64 x] 3)).heap[g]? = some (.cells cur 3 (0, 0)) := by rw [hd0.block g hgW]; exact hg2
    have hcell : ∀ (j : Nat) (u : Value), (l.map (Value.int .i64))[j]? = some u → (W.alloc (.cells #[Value.int .i64 x] 3)).cell? ⟨g, 0 + j, none⟩ = some u := fun j u hu => by
      rw [cell_of_row _ _ _ _ _ _ hg2', Nat.zero_add]
      rw [← hg6, List.getElem?_take] at hu
      split at hu
      · simpa using hu
      · cases hu
    by_cases hroom : l.length + 1 ≤ cap
    · -- there is room
      have hsome : ∀ j, j < cap → ((W.alloc (.cells #[Value.int .i64 x] 3)).cell? ⟨g, j, none⟩).isSome = true := fun j hj => by
        rw [cell_of_row _ _ _ _ _ _ hg2', Array.getElem?_eq_getElem (by omega)]; rfl
      have hfz : ∀ (b j : Nat) (cs : Array Value) (t : TypeId), (W.alloc (.cells #[Value.int .i64 x] 3)).heap[b]? = some (.cells cs t (0, 0)) → (W.alloc (.cells #[Value.int .i64 x] 3)).frozen? ⟨b, j, none⟩ = false := fun b j cs t hb => by simp [World.frozen?, hb]
      have hX : (cur.toList.take (l.length + 1)).length = l.length + 1 := by rw [List.length_take]; simp; omega
      have hbig : OA (W.alloc (.cells #[Value.int .i64 x] 3)) B (M1 ++ ⟨3, 1, .slice (some ⟨g, 0, none⟩) (l.length + 1) cap, l.length + 1, cur.toList.take (l.length + 1)⟩ :: M2) := by
        refine h1'.upd (o := owI v l) ⟨rfl, rfl, rfl, Nat.le_refl _, fun _ _ _ => rfl⟩ ⟨(by show (cur.toList.take (l.length + 1)).length = (l.length + 1) * 1; omega), .inr ⟨g, cap, cur, rfl, hg1, hg2', hroom, hg4, (by show cur.size = cap * 1; omega), by show cur.toList.take ((l.length + 1) * 1) = _; rw [Nat.mul_one]⟩⟩ (.inl ?_)
        show some g = v.ownBlock
        rw [hv]; rfl
      have htk : (cur.toList.take (l.length + 1)).take l.length = l.map (Value.int .i64) := by rw [List.take_take, Nat.min_eq_left (by omega)]; exact hg6
      by_cases hk : k = l.length
      · subst hk; subst hv
        have hC := Any2.slices_Insert_int_end_room insLays g 0 l.length cap W.heap.size 0 1 1 [Value.int .i64 x] (W.alloc (.cells #[Value.int .i64 x] 3)) (by omega) hroom (by unfold maxLen at hg4; omega) hsz1
          (fun j hj => by rw [Nat.zero_add]; exact hsome _ (by omega)) (fun j hj => hfz g _ _ _ hg2') hvs h1v
        refine Calls.mono hC ?_
        rintro e w' ⟨rfl, rfl⟩
        rw [Nat.zero_add]
        obtain ⟨q1, q2⟩ := OA.setCells rfl [Value.int .i64 x] l.length _ _ hbig (by simp)
        rw [setL_eq _ _ _ (by rw [hX]; simp), htk, List.drop_of_length_le (by rw [hX]; simp), List.append_nil] at q1
        refine ⟨_, rfl, done _ _ ?_, (hd0.mono hB).trans q2⟩
        rw [List.take_of_length_le (by simp), List.drop_of_length_le (by simp)]; exact q1
      · have hkl : k < l.length := by omega
        subst hv
        have hC := Any2.slices_Insert_int_shift insLays g 0 l.length cap k W.heap.size 0 1 1 (l.map (Value.int .i64)) [Value.int .i64 x] (W.alloc (.cells #[Value.int .i64 x] 3)) hkl (by omega) hroom (by unfold maxLen at hg4; omega) (by omega) hcs hsz1
          hcell (fun j hj => by rw [Nat.zero_add]; exact hsome _ (by omega)) (fun j hj => hfz g _ _ _ hg2') hvs (one_ints l) h1v 3 3 1 cap (by unfold World.shape?; rw [hblk]; rfl) (by unfold World.shape?; rw [hg2']; show some (_, cur.size) = _; rw [hg5]) (by omega) (hfz _ _ _ _ hblk) (hfz _ _ _ _ hblk)
        refine Calls.mono hC ?_
        rintro e w' ⟨rfl, rfl⟩
        rw [Nat.zero_add, Nat.zero_add]
        have hdl : ((l.map (Value.int .i64)).drop k).length = l.length - k := by rw [List.length_drop, hcs]
        obtain ⟨q1, q2⟩ := OA.setCells rfl ((l.map (Value.int .i64)).drop k) (k + 1) _ _ (hbig.dr (Dr.one _)) (by rw [hdl]; omega)
        obtain ⟨q3, q4⟩ := OA.setCells rfl [Value.int .i64 x] k _ _ q1 (by simp; omega)
        have e0 : setL (cur.toList.take (l.length + 1)) (k + 1) ((l.map (Value.int .i64)).drop k) = (cur.toList.take (l.length + 1)).take (k + 1) ++ (l.map (Value.int .i64)).drop k := by
          rw [setL_eq _ _ _ (by rw [hX, hdl]; omega), show List.drop (k + 1 + ((l.map (Value.int .i64)).drop k).length) (cur.toList.take (l.length + 1)) = [] from List.drop_of_length_le (by rw [hX, hdl]; omega), List.append_nil]
        rw [e0, setL_eq _ _ _ (by rw [List.length_append, List.length_take, hX, hdl]; simp; omega)] at q3
        refine ⟨_, rfl, done _ _ ?_, (hd0.mono hB).trans (((Dr.one _).below _).trans (q2.trans q4))⟩
        have e1 : (List.take (k+1) (List.take (l.length+1) cur.toList) ++ (l.map (Value.int .i64)).drop k).take k = (l.map (Value.int .i64)).take k := by
          rw [List.take_append_of_le_length (by rw [List.length_take, hX]; omega), List.take_take, ← htk, List.take_take, List.take_take, List.take_take]
          congr 1; omega
        have e2 : (List.take (k+1) (List.take (l.length+1) cur.toList) ++ (l.map (Value.int .i64)).drop k).drop (k + 1) = (l.map (Value.int .i64)).drop k := by
          rw [List.drop_append_of_le_length (by rw [List.length_take, hX]; omega), List.drop_of_length_le (by rw [List.length_take]; omega), List.nil_append]
        rw [hsz1, e1, e2, List.append_assoc] at q3
        exact q3
    · by_cases hk : k = l.length
      · exact endgrow _ cap hv hk hg3 (by omega) (fun h => by cases h) (fun a ha j u hu => by
          cases ha
          rw [Go.WideShapes.add_plain]; exact hcell j u hu)
      · have hkl : k < l.length := by omega
        subst hv
        have hC := Any2.slices_Insert_int_grow insLays g 0 l.length cap k W.heap.size 0 1 1 (l.map (Value.int .i64)) [Value.int .i64 x] (W.alloc (.cells #[Value.int .i64 x] 3)) hkl (by omega) hg3 (by omega) (by omega) hcs hsz1 hcell hvs (one_ints l) h1v
        refine Calls.mono hC ?_
        rintro e w' ⟨rfl, rfl⟩
        have hgc := grownCap_ge (W.alloc (.cells #[Value.int .i64 x] 3)) (l.length + 1) cap 3
        have hgm := grownCap_le_maxLen (W.alloc (.cells #[Value.int .i64 x] 3)) (l.length + 1) cap 3 (by unfold maxLen; omega)
        have hz1 : (Builtin.zeroCells (Value.int .i64 0).cells (l.length + 1 - k)).size = l.length + 1 - k := by rw [size_zeroCells]; simp [Value.cells]
        have hz2 : (Builtin.zeroCells (Value.int .i64 0).cells (l.length + 1 - k)).toList.length = l.length + 1 - k := by rw [Array.length_toList]; exact hz1
        have hon := own_new (W := W.alloc (.cells #[Value.int .i64 x] 3)) (B := B) (n := l.length + 1) (cap := grownCap (W.alloc (.cells #[Value.int .i64 x] 3)) (l.length + 1) cap 3) (e := 3)
          (xs := (l.map (Value.int .i64)).take k ++ (Builtin.zeroCells (Value.int .i64 0).cells (l.length + 1 - k)).toList) (zs := Builtin.zeroCells (Value.int .i64 0).cells (grownCap (W.alloc (.cells #[Value.int .i64 x] 3)) (l.length + 1) cap 3 - (l.length + 1)))
          (Nat.le_trans hB hd0.size) (by rw [List.length_append, List.length_take, hcs, hz2]; omega) (by rw [size_zeroCells]; simp [Value.cells]; omega) hgm
        have hX : ((l.map (Value.int .i64)).take k ++ (Builtin.zeroCells (Value.int .i64 0).cells (l.length + 1 - k)).toList).length = l.length + 1 := by rw [List.length_append, List.length_take, hcs, hz2]; omega
        have htl : (List.take k (l.map (Value.int .i64))).length = k := by rw [List.length_take, hcs]; omega
        have hdl : ((l.map (Value.int .i64)).drop k).length = l.length - k := by rw [List.length_drop, hcs]
        have earr : ((l.map (Value.int .i64)).take k ++ (Builtin.zeroCells (Value.int .i64 0).cells (l.length + 1 - k)).toList).toArray = ((l.map (Value.int .i64)).take k).toArray ++ Builtin.zeroCells (Value.int .i64 0).cells (l.length + 1 - k) := by
          apply Array.ext'; simp
        rw [earr] at hon
        have hbB : Below W.heap.size W ((W.alloc (.cells #[Value.int .i64 x] 3)).alloc (.cells (((l.map (Value.int .i64)).take k).toArray ++ Builtin.zeroCells (Value.int .i64 0).cells (l.length + 1 - k) ++ Builtin.zeroCells (Value.int .i64 0).cells (grownCap (W.alloc (.cells #[Value.int .i64 x] 3)) (l.length + 1) cap 3 - (l.length + 1))) 3)) := hd0.trans ((Below.refl _ _).alloc hd0.size _)
        have hoa := newrow _ _ hbB hon ⟨_, rfl, hd0.size⟩
        obtain ⟨q1, q2⟩ := OA.setCells rfl [Value.int .i64 x] k _ _ (hoa.dr (Dr.one _)) (by simp; omega)
        obtain ⟨q3, q4⟩ := OA.setCells rfl ((l.map (Value.int .i64)).drop k) (k + 1) _ _ (q1.dr (Dr.one _)) (by rw [hdl]; omega)
        refine ⟨_, rfl, done _ _ ?_, (hbB.mono hB).trans (((Dr.one _).below _).trans (q2.trans (((Dr.one _).below _).trans q4)))⟩
        have e1 : setL (setL ((l.map (Value.int .i64)).take k ++ (Builtin.zeroCells (Value.int .i64 0).cells (l.length + 1 - k)).toList) k [Value.int .i64 x]) (k + 1) ((l.map (Value.int .i64)).drop k) = (l.map (Value.int .i64)).take k ++ (Value.int .i64 x :: (l.map (Value.int .i64)).drop k) := by
          have g1 : setL ((l.map (Value.int .i64)).take k ++ (Builtin.zeroCells (Value.int .i64 0).cells (l.length + 1 - k)).toList) k [Value.int .i64 x] = ((l.map (Value.int .i64)).take k ++ [Value.int .i64 x]) ++ ((l.map (Value.int .i64)).take k ++ (Builtin.zeroCells (Value.int .i64 0).cells (l.length + 1 - k)).toList).drop (k + 1) := by
            rw [setL_eq _ _ k (by rw [hX, hsz1]; omega), List.take_append_of_le_length (by rw [htl]; omega), show ((l.map (Value.int .i64)).take k).take k = (l.map (Value.int .i64)).take k from List.take_of_length_le (by rw [htl]; omega)]; rfl
          have g2 : (((l.map (Value.int .i64)).take k ++ (Builtin.zeroCells (Value.int .i64 0).cells (l.length + 1 - k)).toList).drop (k + 1)).length = l.length - k := by rw [List.length_drop, hX]; omega
          have g3 : ((l.map (Value.int .i64)).take k ++ [Value.int .i64 x]).length = k + 1 := by rw [List.length_append, htl]; rfl
          generalize ((l.map (Value.int .i64)).take k ++ (Builtin.zeroCells (Value.int .i64 0).cells (l.length + 1 - k)).toList).drop (k + 1) = Z at g1 g2
          rw [g1, setL_eq _ _ (k+1) (by rw [List.length_append, g2, g3, hdl]; omega), show (((l.map (Value.int .i64)).take k ++ [Value.int .i64 x]) ++ Z).drop (k + 1 + ((l.map (Value.int .i64)).drop k).length) = [] from List.drop_of_length_le (by rw [List.length_append, g2, g3, hdl]; omega), List.append_nil,
            show (((l.map (Value.int .i64)).take k ++ [Value.int .i64 x]) ++ Z).take (k + 1) = (l.map (Value.int .i64)).take k ++ [Value.int .i64 x] from by rw [List.take_append_of_le_length (by rw [g3]; omega)]; exact List.take_of_length_le (by rw [g3]; omega), List.append_assoc]
          rfl
        rw [← e1]; exact q3
end Go.Proofs.YtabkmceajgpdjaaDoor
