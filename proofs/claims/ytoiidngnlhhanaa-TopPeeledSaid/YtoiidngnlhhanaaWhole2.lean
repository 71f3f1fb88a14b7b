import Derived.Test.YtoiidngnlhhanaaWhole
set_option linter.all false
set_option maxRecDepth 100000
namespace Go.Proofs.Ytoiidngnlhhanaa
open Go.RowKit Go.Shelf Pl
attribute [local go_sem] Oper.semAt_some
set_option maxRecDepth 100000 in
set_option maxHeartbeats 4000000 in
theorem whole_nil (n₀ fe p : Nat) (J : List Nat → World → Prop) (hC : Client n₀ fe p J) (b cap : Nat) (bes : List Nat) (d : Nat) (has not : Nat) (pre : List Nat) (w : World) (hn0 : n₀ ≤ w.heap.size) (hpl : pre.length ≤ 1000000000000) (h1 : has < 65536) (hJ : J pre w) :
    Calls Try.prog 34 #[.slice (some ⟨b, 0, none⟩) bes.length cap, .int .u64 (has : Int), .int .u64 ((0 : Nat) : Int), .int .u64 (not : Int), .func (.func fe) #[] #[.pointer (some ⟨p, 0, none⟩)]] w fun e w' =>
      (∃ v, e = .returned v) ∧ J (pre ++ wholeM bes d has 0 not) w' ∧ FrS w w' := by
  rw [wholeM_nil]
  have HBel := boxed5_below w fe p b cap bes.length has 0 not
  have hJ5 := hC.keep _ _ _ hJ (KeepT.of_below HBel hn0 (Nat.le_refl _))
  have hF5 : FrS w _ := FrS.of_below HBel
  by_cases hn : not = 0
  · subst hn
    have HCall := hC.call pre has _ h1 hpl hJ5
    have HH := Lib.hid HCall; have HF := Lib.hid hF5
    clear HCall hF5 hJ5 HBel
    refine (callsIn_wide (n := 9)).1 ?_
    refine callsIn_of_wp_marks Try.func34 rfl trivial ?_ rfl
    simp only [Try.ntmps34, List.size_toArray, List.length_cons, List.length_nil, Nat.reduceAdd, Nat.reduceSub, Array.replicate_succ, Array.replicate_zero, List.push_toArray, List.append_toArray, List.nil_append, List.cons_append]
    gi_wp2_with (refine ⟨trivial, ?_⟩; rw [hC.enters]; refine ⟨fun hd => (by cases hd), ?_⟩; refine (callsIn_wide.2 HH.out).mono ?_; rintro e w' ⟨⟨v, rfl⟩, hJ', hF'⟩)
    refine leave_marks (B := w'.heap.size) [] _ (Marks.nil _ _) (fun W' => results_none rfl _ _ _) (fun W' hk => ⟨⟨_, rfl⟩, ?_, (HF.out.trans hF').keepC hk (HF.out.trans hF').size⟩)
    simpa using hC.keep _ _ _ hJ' (hk.toT (by have := (HF.out.trans hF').size; omega))
  · have hnb : ((not : Int) == 0) = false := by simp; omega
    have HF := Lib.hid hF5; have HJ := Lib.hid hJ5
    clear hF5 hJ5 HBel
    refine (callsIn_wide (n := 9)).1 ?_
    refine callsIn_of_wp_marks Try.func34 rfl trivial ?_ rfl
    simp only [Try.ntmps34, List.size_toArray, List.length_cons, List.length_nil, Nat.reduceAdd, Nat.reduceSub, Array.replicate_succ, Array.replicate_zero, List.push_toArray, List.append_toArray, List.nil_append, List.cons_append]
    gi_wp2
    refine leave_marks (B := (boxed5 w fe p b cap bes.length has 0 not).heap.size) [] _ (Marks.nil _ _) (fun W' => results_none rfl _ _ _) (fun W' hk => ⟨⟨_, rfl⟩, ?_, HF.out.keepC hk HF.out.size⟩)
    simpa using hC.keep _ _ _ HJ.out (hk.toT (by have := HF.out.size; omega))
set_option maxRecDepth 100000 in
set_option maxHeartbeats 4000000 in
theorem whole_ok (n₀ fe p : Nat) (J : List Nat → World → Prop) (hC : Client n₀ fe p J) (b cap : Nat) (bes : List Nat) (hb : NoLoop bes) (hbl : ∀ m ∈ bes, m < 65536) (hbn : bes.length ≤ maxLen) : ∀ d, WholeOk n₀ fe p J b cap bes d := by
  intro d
  induction d with
  | zero =>
    intro has may not pre w hn0 hpl hd h1 h2 h3 hin hJ hrow
    obtain rfl := memb_zero h2 (List.length_eq_zero_iff.1 (by omega))
    exact whole_nil n₀ fe p J hC b cap bes _ has not pre w hn0 (Nat.le_trans (Nat.le_add_right _ _) hpl) h1 hJ
  | succ d ih =>
    intro has may not pre w hn0 hpl hd h1 h2 h3 hin hJ hrow
    by_cases hm : may = 0
    · subst hm
      exact whole_nil n₀ fe p J hC b cap bes _ has not pre w hn0 (Nat.le_trans (Nat.le_add_right _ _) hpl) h1 hJ
    · have hmb : ((may : Int) == 0) = false := by simp; omega
      have HW := Lib.hid hmb
      refine (callsIn_wide (n := 9)).1 ?_
      refine callsIn_of_wp_marks Try.func34 rfl trivial ?_ rfl
      simp only [Try.ntmps34, List.size_toArray, List.length_cons, List.length_nil, Nat.reduceAdd, Nat.reduceSub, Array.replicate_succ, Array.replicate_zero, List.push_toArray, List.append_toArray, List.nil_append, List.cons_append]
      gi_wp2_with (first | (refine ⟨trivial, ?_⟩; gi_at_call 21; refine (callsIn_wide.2 (each_any may _)).mono ?_; rintro e w' ⟨rfl, rfl⟩) | (gi_at_call 21; refine (callsIn_wide.2 (each_any may _)).mono ?_; rintro e w' ⟨rfl, rfl⟩))
      have HB := boxed5_boxes w fe p b cap bes.length has may not
      have HBel := boxed5_below w fe p b cap bes.length has may not
      have HSz := boxed5_size w fe p b cap bes.length has may not
      change Code.wpIn Fence.wide 9 _ _ _ _ ((boxed5 w fe p b cap bes.length has may not).alloc (.cells #[.int .u64 (may : Int)] 39))
      generalize hW5 : boxed5 w fe p b cap bes.length has may not = W5 at *
      have bS := Boxed.new W5 39 (.int .u64 (may : Int))
      have hBel1 : Below w.heap.size w (W5.alloc (.cells #[.int .u64 (may : Int)] 39)) := HBel.alloc (by omega) _
      have HB1 : Boxes w fe p b cap bes.length has may not (W5.alloc (.cells #[.int .u64 (may : Int)] 39)) := HB.frS (FrS.of_below ((Below.refl _ _).alloc (Nat.le_refl _) _))
      clear hW5
      generalize hW6 : W5.alloc (.cells #[.int .u64 (may : Int)] 39) = W6 at *
      rw [HSz] at bS
      have hS6 : W6.heap.size = w.heap.size + 6 := by rw [← hW6]; simp [HSz]
      clear hW6 HB HBel HSz
      have hJ6 : J pre W6 := hC.keep _ _ _ hJ (KeepT.of_below hBel1 hn0 (Nat.le_refl _))
      have hF6 : FrS w W6 := FrS.of_below hBel1
      have hR6 : RowAt W6 b bes := hF6.cells _ _ _ _ tb2 hrow
      have HBEL := Lib.hid hBel1
      clear hBel1
      refine wp_each (m := may) (Bs := w.heap.size + 5) (by omega) h2 rfl bS.cell rfl
        (fun pts W => Boxes w fe p b cap bes.length has (wfold (wholeM bes d) bes has may not (pts.map (·.1))).2.1 (wfold (wholeM bes d) bes has may not (pts.map (·.1))).2.2 W ∧ Boxed W (w.heap.size + 5) 39 (setV may) ∧ RowAt W b bes ∧ J (pre ++ (wfold (wholeM bes d) bes has may not (pts.map (·.1))).1) W ∧ FrS w W)
        (fun _ _ _ => False)
        (fun s W W' ⟨g1, g2, g3, g4, g5⟩ hk => ⟨g1.keepC hk, hk.cells _ _ _ _ g2, hk.cells _ _ _ _ g3, hC.keep _ _ _ g4 (hk.toT (by omega)), g5.keepC hk (by omega)⟩) (fun _ _ _ _ hs _ => hs)
        ⟨HB1, bS, hR6, by simpa [wfold] using hJ6, hF6⟩
        (fun x => { tmps := #[.slice (some ⟨b, 0, none⟩) bes.length cap, .int .u64 (has : Int), .int .u64 (may : Int), .int .u64 (not : Int), .func (.func fe) #[] #[.pointer (some ⟨p, 0, none⟩)], .pointer (some ⟨w.heap.size, 0, none⟩), .pointer (some ⟨w.heap.size+1, 0, none⟩), .pointer (some ⟨w.heap.size+1+1, 0, none⟩), .pointer (some ⟨w.heap.size+1+1+1, 0, none⟩), .pointer (some ⟨w.heap.size+1+1+1+1, 0, none⟩), .int .i64 (x.1 : Int), .int .u64 (may : Int), .bool false, undef, undef, undef, undef, undef, .int .u64 (may : Int), .func (.func 33) #[] #[.pointer (some ⟨w.heap.size+1+1+1+1+1, 0, none⟩)], .int .i64 (x.1 : Int), undef, undef, undef, undef, undef, undef, undef, undef, undef, undef, undef, undef, undef, undef, undef, undef, undef, undef, undef, undef, undef, undef, undef, undef], defers := [] }) ?assign ?body ?done ?stop
      case assign =>
        intro l x W K hK
        gi_wp2
        simpa using hK
      case body =>
        rintro l pts x W ⟨g1, g2, g3, g4, g5⟩ hlt
        have hpts : ∀ i ∈ pts.map (·.1), i < 16 := by
          intro i hi
          obtain ⟨y, _, rfl⟩ := List.mem_map.1 hi
          exact memb_lt y.2
        obtain ⟨k1, k2, k3⟩ := wfold_inv (wholeM bes d) bes has may not h2 h3 _ hpts
        have hless := whole_less (f := wholeM bes d) (has := has) (not := not) hb h2 h3 hpts x.2
        have hst : wfold (wholeM bes d) bes has may not ((pts ++ [x]).map (·.1)) = wstep (wholeM bes d) bes has (wfold (wholeM bes d) bes has may not (pts.map (·.1))) x.1 := by
          rw [List.map_append, List.map_cons, List.map_nil, wfold_snoc]
        have HST := Lib.hid hst; clear hst
        generalize hgst : wfold (wholeM bes d) bes has may not (pts.map (·.1)) = st at *
        have HGST := Lib.hid hgst; clear hgst
        have hlen2 : (pre ++ st.1).length + 16 ^ d ≤ 1000000000000 := by
          have h1 := wfold_len (wholeM bes d) bes has may not (16 ^ d) (wholeM_len bes d) (pts.map (·.1))
          rw [HGST.out, List.length_map] at h1
          have h2 : pts.length * 16 ^ d ≤ 15 * 16 ^ d := Nat.mul_le_mul_right _ (by omega)
          have h3 : 16 ^ (d + 1) = 15 * 16 ^ d + 16 ^ d := by rw [Nat.pow_succ]; omega
          rw [List.length_append]; omega
        obtain ⟨x, hx⟩ := x
        dsimp only at hless
        have hx16 : x < 16 := memb_lt hx
        have hxl : x < bes.length := hin x hx
        obtain ⟨bx, hbx⟩ : ∃ bx, bes[x]? = some bx := ⟨_, List.getElem?_eq_getElem hxl⟩
        have hbd : bes.getD x 0 = bx := by simp [List.getD, hbx]
        have hb16 : bx < 65536 := hbl bx (List.mem_of_getElem? hbx)
        rw [hbd] at hless
        have hcx : W.cell? ⟨b, x, none⟩ = some (.int .u64 (bx : Int)) := maskCells_at g3 hbx
        have c5 := g1.b5.cell; have c6 := g1.b6.cell; have c7 := g1.b7.cell; have c8 := g1.b8.cell; have c9 := g1.b9.cell
        have a1 : bits .and .u64 (st.2.1 : Int) (bx : Int) = ((st.2.1 &&& bx : Nat) : Int) := bits_and _ _ (by omega) (by omega)
        have a2 : bits .and .u64 (st.2.2 : Int) (bx : Int) = ((st.2.2 &&& bx : Nat) : Int) := bits_and _ _ (by omega) (by omega)
        have i1 : (0 : Int) ≤ (x : Int) := by omega
        have i2 : (x : Int) < (bes.length : Int) := by omega
        have G1 := Lib.hid g1; have G3 := Lib.hid g3; have HIN := Lib.hid hin
        clear g1 g3 hin
        gi_wp2
        refine wpIn_region_still_tail (open_round l) 17 rfl (by kernel_rfl) (by kernel_rfl) ?_
        simp only [List.take_succ_cons, List.take_zero, List.drop_succ_cons, List.drop_zero]
        change wpStill _ _ W.drew _ _ _
        still_step
        still_step
        still_step
        still_call ((with_any has x W.drew h1 (by omega)).mono (by rintro e w' ⟨rfl, rfl⟩; exact ⟨rfl, rfl⟩))
        repeat still_step
        try refine wpStill_nil ?_
        have hF0 : FrS W W.drew := ⟨Nat.le_refl _, fun _ _ h _ => h, fun _ _ _ _ _ h => h⟩
        have hrec := ih (has ||| 2 ^ x) (st.2.1 &&& bx) (st.2.2 &&& bx) (pre ++ st.1) W.drew (Nat.le_trans hn0 g5.size) hlen2 (by omega) (or_lt h1 hx16) (and_lt k1) (and_lt k2)
          (fun i hi => HIN.out i ((mem_memb h2).2 (k3 i (by have := memb_bit hi; rw [Nat.testBit_and, Bool.and_eq_true] at this; exact this.1)))) (hC.keep _ _ _ g4 (KeepT.drew _ _)) G3.out
        have HREC := Lib.hid hrec; clear hrec c5 c6 c7 c8 c9 hcx
        gi_wp2_with (refine ⟨trivial, ?_⟩; gi_at_call 34; refine ((open_round l).calls HREC.out).mono ?_; rintro e W2 ⟨⟨v, rfl⟩, hJ2, hF2⟩; have q1 := G1.out.frS (hF0.trans hF2); have c7 := q1.b7.cell; have c8 := q1.b8.cell; have f7 := q1.b7.frozen; have f8 := q1.b8.frozen)
        refine wpIn_region_still_tail (open_round l) 6 rfl (by kernel_rfl) (by kernel_rfl) ?_
        simp only [List.take_succ_cons, List.take_zero, List.drop_succ_cons, List.drop_zero]
        change wpStill _ _ W2.drew _ _ _
        still_step
        still_step
        still_call ((without_any st.2.1 x W2.drew (by omega) (by omega)).mono (by rintro e w' ⟨rfl, rfl⟩; exact ⟨rfl, rfl⟩))
        still_step
        still_step
        still_call ((with_any st.2.2 x W2.drew (by omega) (by omega)).mono (by rintro e w' ⟨rfl, rfl⟩; exact ⟨rfl, rfl⟩))
        refine wpStill_nil ?_
        change wpListIn _ _ _ _ _ _ _ W2.drew
        gi_wp2
        have g2' := hF2.boxed tb2 ((hF0.boxed tb2) g2)
        have hn0' : n₀ ≤ w.heap.size := hn0
        refine ⟨(((Step.trans (b := w.heap.size + 5) ⟨(hF0.trans hF2).size, (hF0.trans hF2).same, fun v hv => by rw [g2.cell] at hv; cases hv; exact g2'.cell⟩ (Step.setCell W2 (p := ⟨w.heap.size + 1 + 1, 0, none⟩) (by simp) _)).trans (Step.setCell _ (p := ⟨w.heap.size + 1 + 1 + 1, 0, none⟩) (by simp) _))).trans (Step.drew _ _), ?_⟩
        dsimp only
        rw [HST.out]
        simp only [wstep, hbd]
        refine ⟨(q1.step _ _).drew, (g2'.other (by omega) _).other (by omega) _, ?_, ?_, ?_⟩
        · have hf3 : FrS w W2 := g5.trans (hF0.trans hF2)
          exact ((hf3.setCell (b := w.heap.size + 1 + 1) (by omega) (.int .u64 ((ndiff st.2.1 (2 ^ x) : Nat) : Int))).setCell (b := w.heap.size + 1 + 1 + 1) (by omega) (.int .u64 ((st.2.2 ||| 2 ^ x : Nat) : Int))).cells _ _ _ _ tb2 hrow
        · rw [← List.append_assoc]
          refine hC.keep _ _ _ (hC.keep _ _ _ (hC.keep _ _ _ hJ2 (KeepT.set q1.b7 (by omega) tb2 _)) (KeepT.set (q1.b8.other (by omega) _) (by omega) tb2 _)) (KeepT.drew _ _)
        · have hf3 : FrS w W2 := g5.trans (hF0.trans hF2)
          have hh := (hf3.setCell (b := w.heap.size + 1 + 1) (by omega) (.int .u64 ((ndiff st.2.1 (2 ^ x) : Nat) : Int))).setCell (b := w.heap.size + 1 + 1 + 1) (by omega) (.int .u64 ((st.2.2 ||| 2 ^ x : Nat) : Int))
          exact ⟨hh.size, hh.same, hh.cells⟩
      case done =>
        rintro D ys W hD hys ⟨g1, g2, g3, g4, g5⟩ hK
        rw [hys] at g4
        have G := Lib.hid g4; have HYS := Lib.hid hys
        clear g1 g4 hys
        gi_wp2
        refine leave_marks (B := w.heap.size) _ W (Marks.one (by omega) hK) (fun W' => results_none rfl _ _ _) (fun W' hk => ⟨⟨_, rfl⟩, ?_, g5.keepC hk (Nat.le_refl _)⟩)
        rw [wholeM_more _ _ _ _ _ hm]
        exact hC.keep _ _ _ G.out (hk.toT hn0)
      case stop =>
        rintro D c pre W _ _ h _
        exact h.elim
end Go.Proofs.Ytoiidngnlhhanaa
