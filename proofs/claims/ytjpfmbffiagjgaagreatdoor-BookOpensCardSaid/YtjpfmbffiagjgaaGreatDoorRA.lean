import Derived.Test.YtjpfmbffiagjgaaGreatDoorRK
import Derived.Test.YtjpfmbffiagjgaaGreatDoorBB2
/- the book and the document's book: what they have in common -/
set_option linter.all false
set_option maxRecDepth 100000
namespace Go.Proofs.YtjpfmbffiagjgaaGreatDoor
open Go.RowKit Pl
structure RRel (x : RbT) (b : BkT) : Prop where
  inv : BInv b
  txt : x.2.1 = b.2.1
  many : x.2.2 = b.2.2
  inl : InL 8 x.1
  bes : ∀ i j : Nat, i < 8 → j < 8 → (mk b i).testBit j = besL x.1 i j
  len : (x.1.length : Int) ≤ x.2.2
theorem rrel_new : RRel ([], (⟨#[]⟩ : ByteArray), 0) newB := by
  refine ⟨new_inv, rfl, rfl, fun p hp => (by cases hp), fun i j hi hj => ?_, by decide⟩
  have e : ∀ k, k < 8 → mk newB k = 0 := by decide
  rw [e i hi]; simp [besL, goes]
theorem besL_snoc (l : List (Int × Int)) (i j x y : Int) : besL (l ++ [(i, j)]) x y = (besL l x y || ((i == x && j == y) || (i == y && j == x))) := by
  unfold besL goes
  rw [List.any_append, List.any_append]
  simp only [List.any_cons, List.any_nil, Bool.or_false]
  cases List.any l fun p => p.1 == x && p.2 == y <;> cases List.any l fun p => p.1 == y && p.2 == x <;> simp
theorem goes_cut (l : List (Int × Int)) (i j x y : Int) : goes (cutL l i j) x y = (goes l x y && !((x == i && y == j) || (x == j && y == i))) := by
  unfold goes cutL
  rw [Bool.eq_iff_iff, Bool.and_eq_true, List.any_eq_true, List.any_eq_true]
  constructor
  · rintro ⟨p, hp, hh⟩
    obtain ⟨h1, h2⟩ := List.mem_filter.1 hp
    rw [Bool.and_eq_true, beq_iff_eq, beq_iff_eq] at hh
    refine ⟨⟨p, h1, by rw [Bool.and_eq_true, beq_iff_eq, beq_iff_eq]; exact hh⟩, ?_⟩
    rw [hh.1, hh.2] at h2; exact h2
  · rintro ⟨⟨p, h1, hh⟩, h2⟩
    refine ⟨p, List.mem_filter.2 ⟨h1, ?_⟩, hh⟩
    rw [Bool.and_eq_true, beq_iff_eq, beq_iff_eq] at hh
    rw [hh.1, hh.2]; exact h2
theorem besL_cut (l : List (Int × Int)) (i j x y : Int) : besL (cutL l i j) x y = (besL l x y && !((x == i && y == j) || (x == j && y == i))) := by
  unfold besL
  rw [goes_cut, goes_cut]
  cases goes l x y <;> cases goes l y x <;> cases x == i <;> cases y == j <;> cases x == j <;> cases y == i <;> rfl
theorem natInt_beq (a b : Nat) : ((a : Int) == (b : Int)) = decide (a = b) := by
  by_cases h : a = b
  · subst h; simp
  · rw [decide_eq_false h]; simp; omega
theorem RRel.size {x : RbT} {b : BkT} (h : RRel x b) : x.1.length < 290 ∧ x.2.1.size < 1000000 ∧ 0 ≤ x.2.2 := by
  have h1 := h.len; have h2 := h.many; have h3 := h.inv.many1; have h4 := h.inv.many0; have h5 := h.inv.txt; have h6 := h.txt
  rw [h6]; omega
theorem RRel.has {x : RbT} {b : BkT} (h : RRel x b) {i j : Nat} (hi : i < 8) (hj : j < 8) : hasB b.1 i j = besL x.1 i j := h.bes i j hi hj
theorem join_rel {x : RbT} {b : BkT} (h : RRel x b) (i j : Int) : ∃ e x' b', mJoin b i j = some (e, b') ∧ mJ4 x i j = some (x', e) ∧ RRel x' b' ∧ (e = 0 → b'.2.2 = b.2.2 + 1) ∧ (e ≠ 0 → b' = b ∧ x' = x) := by
  unfold mJoin mJ4
  rw [if_pos h.inv.ok, if_pos h.size]
  unfold r4E
  have hm := h.many; have h60 := h.inv.many1
  by_cases c1 : bkE i j = 0
  · rw [if_pos c1, if_pos c1]
    obtain ⟨p, q, rfl, rfl, hp, hq, hne⟩ := bkE_zero c1
    rw [h.has hp hq]
    by_cases c2 : besL x.1 p q = true
    · rw [if_pos c2, if_pos c2, if_neg (by decide)]
      exact ⟨6, x, b, rfl, rfl, h, fun q => (by cases q), fun _ => ⟨rfl, rfl⟩⟩
    · rw [if_neg c2, if_neg c2]
      by_cases c3 : b.2.2 = 60
      · rw [if_pos c3, if_pos (show 60 ≤ x.2.2 by omega), if_neg (by decide)]
        exact ⟨4, x, b, rfl, rfl, h, fun q => (by cases q), fun _ => ⟨rfl, rfl⟩⟩
      · rw [if_neg c3, if_neg (show ¬ 60 ≤ x.2.2 by omega), if_pos rfl]
        refine ⟨0, _, _, rfl, rfl, ⟨join_inv h.inv hp hq hne c3, ?_, ?_, fun r hr => ?_, fun a c ha hc => ?_, ?_⟩, fun _ => rfl, fun q => absurd rfl q⟩
        · show x.2.1 ++ _ = b.2.1 ++ _; rw [h.txt]
        · show x.2.2 + 1 = b.2.2 + 1; rw [h.many]
        · rcases List.mem_append.1 hr with hr | hr
          · exact h.inl r hr
          · rw [List.mem_singleton.1 hr]; omega
        · rw [join_bit h.inv hp hq hne a c ha, besL_snoc, h.bes a c ha hc]
          congr 1
          rw [natInt_beq, natInt_beq, natInt_beq, natInt_beq]
          by_cases e1 : p = a <;> by_cases e2 : q = c <;> by_cases e3 : p = c <;> by_cases e4 : q = a <;> simp [e1, e2, e3, e4] <;> omega
        · show ((x.1 ++ [_]).length : Int) ≤ x.2.2 + 1
          have := h.len
          rw [List.length_append]; simp; omega
  · rw [if_neg c1, if_neg c1, if_neg c1]
    exact ⟨_, x, b, rfl, rfl, h, fun q => absurd q c1, fun _ => ⟨rfl, rfl⟩⟩
theorem cut_rel {x : RbT} {b : BkT} (h : RRel x b) (i j : Int) : ∃ e x' b', mCut b i j = some (e, b') ∧ mC4 x i j = some (x', e) ∧ RRel x' b' ∧ (e = 0 → b'.2.2 = b.2.2 + 1) ∧ (e ≠ 0 → b' = b ∧ x' = x) := by
  unfold mCut mC4
  rw [if_pos h.inv.ok, if_pos h.size]
  unfold r4C
  have hm := h.many; have h60 := h.inv.many1
  by_cases c1 : bkE i j = 0
  · rw [if_pos c1, if_pos c1]
    obtain ⟨p, q, rfl, rfl, hp, hq, hne⟩ := bkE_zero c1
    rw [h.has hp hq]
    by_cases c2 : besL x.1 p q = true
    · rw [if_pos c2, if_pos c2]
      by_cases c3 : b.2.2 = 60
      · rw [if_pos c3, if_pos (show 60 ≤ x.2.2 by omega), if_neg (by decide)]
        exact ⟨4, x, b, rfl, rfl, h, fun q => (by cases q), fun _ => ⟨rfl, rfl⟩⟩
      · rw [if_neg c3, if_neg (show ¬ 60 ≤ x.2.2 by omega), if_pos rfl]
        refine ⟨0, _, _, rfl, rfl, ⟨cut_inv h.inv hp hq hne c3, ?_, ?_, fun r hr => ?_, fun a c ha hc => ?_, ?_⟩, fun _ => rfl, fun q => absurd rfl q⟩
        · show x.2.1 ++ _ = b.2.1 ++ _; rw [h.txt]
        · show x.2.2 + 1 = b.2.2 + 1; rw [h.many]
        · exact h.inl r (List.mem_filter.1 hr).1
        · rw [cut_bit h.inv hp hq hne a c ha, besL_cut, h.bes a c ha hc]
          congr 2
          rw [natInt_beq, natInt_beq, natInt_beq, natInt_beq]
          by_cases e1 : a = p <;> by_cases e2 : c = q <;> by_cases e3 : a = q <;> by_cases e4 : c = p <;> simp [e1, e2, e3, e4] <;> omega
        · show ((cutL x.1 _ _).length : Int) ≤ x.2.2 + 1
          have := h.len
          have := List.length_filter_le (fun r : Int × Int => !((r.1 == (p : Int) && r.2 == (q : Int)) || (r.1 == (q : Int) && r.2 == (p : Int)))) x.1
          unfold cutL; omega
    · rw [if_neg c2, if_neg c2, if_neg (by decide)]
      exact ⟨5, x, b, rfl, rfl, h, fun q => (by cases q), fun _ => ⟨rfl, rfl⟩⟩
  · rw [if_neg c1, if_neg c1, if_neg c1]
    exact ⟨_, x, b, rfl, rfl, h, fun q => absurd q c1, fun _ => ⟨rfl, rfl⟩⟩
/-! ### all lines -/
def allR (l : List (Int × Int)) (i : Nat) : List (Int × Int) := ((List.range' (i + 1) (8 - (i + 1))).filter fun j : Nat => besL l (i : Int) (j : Int)).map fun j : Nat => ((i : Int), (j : Int))
def allL (l : List (Int × Int)) : List (Int × Int) := (List.range 8).flatMap (allR l)
theorem all_eq {x : RbT} {b : BkT} (h : RRel x b) : linesOf b.1 = allL x.1 := by
  unfold linesOf allL
  have hrow : ∀ i ∈ List.range 8, rowB b.1 i = allR x.1 i := fun i hi => by
    have hi := List.mem_range.1 hi
    unfold rowB allR
    congr 1
    have hm : ∀ j, (upM (b.1.getD i 0) i).testBit j = ((mk b i).testBit j && decide (i ≤ j)) := fun j => upM_bit _ _ _
    have hlt := h.inv.lt i hi
    show (List.range 16).filter (fun j => (upM (b.1.getD i 0) i).testBit j) = _
    have e16 : List.range 16 = List.range' 0 (i + 1) ++ (List.range' (i + 1) (8 - (i + 1)) ++ List.range' 8 8) := by
      rw [List.range_eq_range']
      have : ∀ i, i < 8 → List.range' 0 16 = List.range' 0 (i + 1) ++ (List.range' (i + 1) (8 - (i + 1)) ++ List.range' 8 8) := by decide
      exact this i hi
    rw [e16, List.filter_append, List.filter_append]
    have z1 : (List.range' 0 (i + 1)).filter (fun j => (upM (b.1.getD i 0) i).testBit j) = [] := by
      rw [List.filter_eq_nil_iff]
      intro j hj
      rw [List.mem_range'_1] at hj
      rw [hm]
      by_cases e : j = i
      · subst e; rw [h.inv.irr j hi]; simp
      · rw [decide_eq_false (by omega)]; simp
    have z2 : (List.range' 8 8).filter (fun j => (upM (b.1.getD i 0) i).testBit j) = [] := by
      rw [List.filter_eq_nil_iff]
      intro j hj
      rw [List.mem_range'_1] at hj
      rw [hm, bit256 hlt (by omega)]; simp
    rw [z1, z2, List.nil_append, List.append_nil]
    refine List.filter_congr fun j hj => ?_
    rw [List.mem_range'_1] at hj
    rw [hm, h.bes i j hi (by omega), decide_eq_true (show i ≤ j by omega), Bool.and_true]
  rw [List.flatMap_def, List.flatMap_def, List.map_congr_left hrow]
end Go.Proofs.YtjpfmbffiagjgaaGreatDoor
/- the document's book: all lines -/
set_option linter.all false
set_option maxRecDepth 100000
namespace Go.Proofs.YtjpfmbffiagjgaaGreatDoor
open Go.RowKit Go.Shelf Pl
def preR (l : List (Int × Int)) (i j : Nat) : List (Int × Int) := ((List.range' (i + 1) (j - (i + 1))).filter fun j : Nat => besL l (i : Int) (j : Int)).map fun j : Nat => ((i : Int), (j : Int))
def preA (l : List (Int × Int)) (i : Nat) : List (Int × Int) := (List.range i).flatMap (allR l)
theorem preR_step (l : List (Int × Int)) {i j : Nat} (h : i + 1 ≤ j) : preR l i (j + 1) = preR l i j ++ (if besL l (i : Int) (j : Int) = true then [((i : Int), (j : Int))] else []) := by
  unfold preR
  have e : List.range' (i + 1) (j + 1 - (i + 1)) = List.range' (i + 1) (j - (i + 1)) ++ [j] := by
    rw [show j + 1 - (i + 1) = (j - (i + 1)) + 1 by omega, List.range'_concat, Nat.one_mul, show i + 1 + (j - (i + 1)) = j by omega]
  rw [e, List.filter_append, List.map_append]
  congr 1
  by_cases c : besL l (i : Int) (j : Int) = true
  · rw [if_pos c, List.filter_cons_of_pos (by simpa using c)]; rfl
  · rw [if_neg c, List.filter_cons_of_neg (by simpa using c)]; rfl
theorem preA_step (l : List (Int × Int)) (i : Nat) : preA l (i + 1) = preA l i ++ preR l i 8 := by
  unfold preA
  rw [List.range_succ, List.flatMap_append]
  simp only [List.flatMap_cons, List.flatMap_nil, List.append_nil]; rfl
theorem preR_zero (l : List (Int × Int)) (i : Nat) : preR l i (i + 1) = [] := by unfold preR; rw [Nat.sub_self]; rfl
theorem preR_len (l : List (Int × Int)) {i j : Nat} (hj : j ≤ 8) : (preR l i j).length ≤ 8 := by
  unfold preR
  rw [List.length_map]
  have := List.length_filter_le (fun j : Nat => besL l (i : Int) (j : Int)) (List.range' (i + 1) (j - (i + 1)))
  rw [List.length_range'] at this; omega
theorem preA_len (l : List (Int × Int)) : ∀ i, (preA l i).length ≤ 8 * i
  | 0 => by simp [preA]
  | i+1 => by
    rw [preA_step, List.length_append]
    have := preA_len l i
    have := preR_len l (i := i) (j := 8) (by omega)
    omega
set_option maxHeartbeats 4000000 in
theorem all4_ok {A : Option Addr} {cap : Nat} {l : List (Int × Int)} {t : ByteArray} {n : Int} (w : World) (hr : ReadsL w w.heap.size A l) (hl : l.length < 290) :
    Calls Tryz.prog 11 #[.agg #[.slice A l.length cap, .string t, .int .i64 n]] w (PostG (fun v => v) (fun v => owL v (allL l)) w.heap.size w) := by
  have HR := Lib.hid hr; clear hr
  have HBV := Lib.hid (fun (i j : Int) => (R1_Beside_ev i j (by omega) (by omega) : R1_Beside 300 l i j = some (besL l i j)))
  have e1 : (w.alloc (.cells #[Value.slice A l.length cap, .string t, .int .i64 n] 24)).heap[w.heap.size]? = some (.cells #[Value.slice A l.length cap, .string t, .int .i64 n] 24 (0, 0)) := heap_alloc_new w _
  have hb2 : Below w.heap.size w (w.alloc (.cells #[Value.slice A l.length cap, .string t, .int .i64 n] 24)) := (Below.refl _ _).alloc (Nat.le_refl _) _
  go_enter Tryz.func11, Tryz.ntmps11
  go_wp2_with fail
  generalize hW : World.alloc w _ = W2 at *
  clear hW
  have l1 : w.heap.size < W2.heap.size := (Array.getElem?_eq_some_iff.1 e1).1
  have k0 : W2.cell? ⟨w.heap.size, 0, none⟩ = some (Value.slice A l.length cap) := by rw [Lib.cell_of_heap e1]; rfl
  have K0 := Lib.hid k0; have HB2 := Lib.hid hb2; have L1 := Lib.hid l1
  clear k0 e1 hb2 l1
  go_loopg [3, 4] 300 (fun gg uv ui wr => ∃ (V : Value) (i : Nat), V = uv ∧ ui = .int .i64 i ∧ i ≤ 8 ∧ gg = 300 - i ∧ Hid (Below W2.heap.size W2 wr) ∧ Hid (HP wr W2.heap.size [.fl (owL V (preA l i))]))
  case atStart => exact ⟨_, 0, rfl, rfl, by omega, rfl, Lib.hid (Below.refl _ _), Lib.hid (HP.nil.pushNil 64 2)⟩
  case round =>
    obtain ⟨V, i, rfl, rfl, hi, rfl, HD, HP_⟩ := hrel
    rename World => W3
    by_cases hi8 : ((i : Nat) : Int) < 8
    · go_wp2_with fail
      have hii : i + 1 ≤ 8 := by omega
      clear hi8
      go_loopg [3, 5] (300 - (i + 1)) (fun gg uv uj wr => ∃ (V : Value) (j : Nat), V = uv ∧ uj = .int .i64 j ∧ i + 1 ≤ j ∧ j ≤ 8 ∧ gg = 300 - j ∧ Hid (Below W2.heap.size W2 wr) ∧ Hid (HP wr W2.heap.size [.fl (owL V (preA l i ++ preR l i j))]))
      case atStart => exact ⟨_, i + 1, rfl, by go_num, Nat.le_refl _, hii, rfl, HD, Lib.hid (by rw [preR_zero, List.append_nil]; exact HP_.out)⟩
      case round =>
        clear HD HP_ hii
        obtain ⟨V, j, rfl, rfl, hij, hj, rfl, HD, HP_⟩ := hrel
        rename World => W4
        by_cases hj8 : ((j : Nat) : Int) < 8
        · have c0 := (HD.out.cell (p := ⟨w.heap.size, 0, none⟩) L1.out).trans K0.out
          have HC := Lib.hid (R1_Beside_ok W4 cap (rdL (HB2.out.trans (HD.out.mono HB2.out.size)) HR.out) (HBV.out (i : Int) (j : Int)))
          have HT := Lib.hid (preR_step l hij)
          have HIJ := Lib.hid hij; clear hij
          cases hb : besL l (i : Int) (j : Int) with
          | false =>
            rw [hb] at HC HT
            rw [if_neg (by decide), List.append_nil] at HT
            clear hb
            go_wp2_with fail
            refine HC.out.mono ?_; rintro e w' ⟨rfl, rfl⟩
            go_wp2_with fail
            clear c0
            go_roundg (300 - (j + 1))
            case measure => omega
            case rel => exact ⟨_, j + 1, rfl, by go_num, by have := HIJ.out; omega, by omega, rfl, HD, Lib.hid (by rw [HT.out]; exact HP_.out)⟩
          | true =>
            rw [hb] at HC HT
            rw [if_pos rfl] at HT
            clear hb
            have hlen : (preA l i ++ preR l i j).length < 1000000000 := by
              rw [List.length_append]
              have := preA_len l i; have := preR_len l (i := i) hj; omega
            obtain ⟨V', W5, q1, q2, q3, _⟩ := run_appL W4 22 22 Tryz.underlying22 (e' := 64) (L1 := []) (L2 := []) (y := (i : Int)) (z := (j : Int)) HP_.out hlen HD.out.size
            have Q1 := Lib.hid q1; have Q2 := Lib.hid q2; have Q3 := Lib.hid q3
            clear q1 q2 q3 hlen
            go_wp2_with fail
            refine HC.out.mono ?_; rintro e w' ⟨rfl, rfl⟩
            go_wp2_with (at_builtin; refine wp_appRun Q1.out rfl rfl rfl rfl ?_)
            clear c0
            go_roundg (300 - (j + 1))
            case measure => omega
            case rel => exact ⟨_, j + 1, rfl, by go_num, by have := HIJ.out; omega, by omega, rfl, Lib.hid (HD.out.trans Q3.out), Lib.hid (by rw [HT.out, ← List.append_assoc]; exact Q2.out)⟩
        · have : j = 8 := by omega
          subst this
          have HS := Lib.hid (preA_step l i)
          have HIJ := Lib.hid hij; clear hij
          go_wp2_with fail
          go_roundg (300 - (i + 1))
          case measure => omega
          case rel => exact ⟨_, i + 1, rfl, by go_num, by have := HIJ.out; omega, rfl, HD, Lib.hid (by rw [HS.out]; exact HP_.out)⟩
    · have : i = 8 := by omega
      subst this
      go_wp2_with fail
      go_ret
      exact ⟨_, rfl, Ow.ok.weak (HP_.out.get (List.Mem.head _)) (Nat.le_of_lt L1.out), HB2.out.trans (HD.out.mono HB2.out.size)⟩
end Go.Proofs.YtjpfmbffiagjgaaGreatDoor
