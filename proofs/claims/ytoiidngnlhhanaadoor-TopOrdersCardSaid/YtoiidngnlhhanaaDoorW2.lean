import Derived.Test.YtoiidngnlhhanaaDoorA
import Derived.Test.YtoiidngnlhhanaaDoorB
import Derived.Test.YtoiidngnlhhanaaDoorErr
import Derived.Test.YtoiidngnlhhanaaDoorBox
set_option linter.all false
set_option maxRecDepth 100000
namespace Go.Proofs.YtoiidngnlhhanaaDoor
open Go.RowKit
attribute [local go_sem] Oper.semAt_some
def topo_Order_L2 (F : Nat) (v5 : List Nat) : List Nat → (Nat) → Option (Nat)
  | [], v8 => some (v8)
  | x :: xs, v8 => (ix v5 (x : Int)).bind fun y4 => (sOr v8 y4).bind fun y5 => topo_Order_L2 F v5 xs (y5)
theorem topo_Order_L2_n (F : Nat) (v5 : List Nat) (v8 : Nat) : topo_Order_L2 F v5 [] v8 = some (v8) := by rw [topo_Order_L2]
theorem topo_Order_L2_c (F : Nat) (v5 : List Nat) (v8 : Nat) (x : Nat) (xs : List Nat) : topo_Order_L2 F v5 (x :: xs) v8 = ((ix v5 (x : Int)).bind fun y4 => (sOr v8 y4).bind fun y5 => topo_Order_L2 F v5 xs (y5)) := by rw [topo_Order_L2]
def topo_Order_L1 (F : Nat) (v5 : List Nat) : Nat → (Nat) → (List Int) → Option ((Nat × List Int) ⊕ (List Int × Int))
  | 0, _, _ => none
  | g+1, v6, v7 => if (v6 != 0) = true then (sEach v6).bind fun y7 => (topo_Order_L2 F (v5) y7 (0)).bind fun o6 => (sNot v6 o6).bind fun y8 => (sList (y8)).bind fun y9 => (if (((y9).length : Int) == 0) = true then some (.inr (([], 5))) else (ix y9 0).bind fun y11 => (app v7 y11).bind fun y10 => (ix y9 0).bind fun y12 => (sWithout (v6) (y12)).bind fun y13 => topo_Order_L1 F v5 g (y13) (y10)) else some (.inl (v6, v7))
theorem topo_Order_L1_0 (F : Nat) (v5 : List Nat) (v6 : Nat) (v7 : List Int) : topo_Order_L1 F v5 0 v6 v7 = none := by rw [topo_Order_L1]
theorem topo_Order_L1_s (F g : Nat) (v5 : List Nat) (v6 : Nat) (v7 : List Int) : topo_Order_L1 F v5 (g+1) v6 v7 = (if (v6 != 0) = true then (sEach v6).bind fun y7 => (topo_Order_L2 F (v5) y7 (0)).bind fun o6 => (sNot v6 o6).bind fun y8 => (sList (y8)).bind fun y9 => (if (((y9).length : Int) == 0) = true then some (.inr (([], 5))) else (ix y9 0).bind fun y11 => (app v7 y11).bind fun y10 => (ix y9 0).bind fun y12 => (sWithout (v6) (y12)).bind fun y13 => topo_Order_L1 F v5 g (y13) (y10)) else some (.inl (v6, v7))) := by rw [topo_Order_L1]
def topo_Order (F : Nat) (v0 : Int) (v1 : List (Int × Int)) : Option (List Int × Int) := (mCheck (v0) (v1)).bind fun y1 => (if (y1 != 0) = true then some (([], y1)) else (mOut (v0) (v1)).bind fun y2 => (sBelow (v0)).bind fun y3 => (topo_Order_L1 F (y2) F (y3) ([])).bind fun o14 => match o14 with | .inr r => some (r) | .inl o14 => some ((o14.2, 0)))
set_option maxRecDepth 100000 in
set_option maxHeartbeats 4000000 in
theorem topo_Order_ok {F : Nat} {v0 : Int} {v1 : List (Int × Int)} {A1 : Option Addr} {r : List Int × Int} (w : World) (cap1 : Nat) (hr1 : ReadsL w w.heap.size A1 v1) (h : topo_Order F v0 v1 = some r) :
    Calls Tryd.prog 6 #[.int .i64 v0, .slice A1 v1.length cap1] w (PostG (fun v => (.tuple #[v, (errV 55 r.2)])) (fun v => owI v r.1) w.heap.size w) := by
  have HR1 := Lib.hid hr1; clear hr1
  have HD := Lib.hid (Below.refl w.heap.size w)
  have HOA := Lib.hid (HP.nil (W := w) (B := w.heap.size))
  unfold topo_Order at h
  have HM := Lib.hid h; clear h
  have HMK := Lib.hid (Marks.nil w.heap.size w)
  refine (callsIn_wide (n := 5)).1 ?_
  refine callsIn_of_wp_marks Tryd.func6 rfl trivial ?_ rfl
  simp only [Tryd.ntmps6, List.size_toArray, List.length_cons, List.length_nil, Nat.reduceAdd, Nat.reduceSub, Array.replicate_succ, Array.replicate_zero, List.push_toArray, List.append_toArray, List.nil_append, List.cons_append]
  refine wpIn_wide.2 ?_
  obtain ⟨y3, hy1, hm⟩ := obind HM.out
  replace HM := Lib.hid hm; clear hm
  have HC2 := mCheck_ok w cap1 (rdL HD.out HR1.out) hy1
  clear hy1
  by_cases hz4 : y3 = 0
  · subst hz4
    rw [errV_zero] at HC2; replace HC2 := Lib.hid HC2
    go_wp2_with fail
    refine HC2.out.mono ?_; rintro e W5 ⟨rfl, hd⟩
    replace HOA := Lib.hid (HOA.out.below hd)
    replace HD := Lib.hid (HD.out.trans (hd.mono HD.out.size))
    replace HMK := Lib.hid (HMK.out.nc (NC.of_below hd))
    clear hd
    replace HM := Lib.hid (ifF (by decide) HM.out)
    obtain ⟨y10, hy8, hm⟩ := obind HM.out
    replace HM := Lib.hid hm; clear hm
    have HC9 := mOut_ok W5 cap1 (rdL HD.out HR1.out) hy8
    clear hy8
    replace HC9 := Lib.hid HC9
    go_wp2_with fail
    refine HC9.out.mono ?_; rintro e W11 ⟨V12, rfl, ho, hd⟩
    replace HOA := Lib.hid (HOA.out.call hd HD.out.size ho); clear ho
    replace HD := Lib.hid (HD.out.trans (hd.mono HD.out.size))
    replace HMK := Lib.hid (HMK.out.nc (NC.of_below hd))
    clear hd
    obtain ⟨A14, cap15, he, _⟩ := HP.open_M HOA.out (List.Mem.head _)
    subst he
    go_upto_region 5 with (fail)
    have hd : Below W11.heap.size W11 (W11.alloc (.cells #[(.slice A14 (y10).length cap15)] 46)) := (Below.refl _ _).alloc (Nat.le_refl _) _
    have ho := owX_ok W11 46 ((.slice A14 (y10).length cap15))
    generalize hW : World.alloc W11 _ = W16 at *
    clear hW
    replace HOA := Lib.hid (HOA.out.call hd HD.out.size ho); clear ho
    replace HD := Lib.hid (HD.out.trans (hd.mono HD.out.size))
    replace HMK := Lib.hid (HMK.out.nc (NC.of_below hd))
    clear hd
    obtain ⟨y20, hy18, hm⟩ := obind HM.out
    replace HM := Lib.hid hm; clear hm
    have HC19 := sBelow_ok W16  hy18
    clear hy18
    replace HC19 := Lib.hid HC19
    replace HOA := Lib.hid (show HP _ _ (.fl (owI (.slice none 0 0) ([])) :: _) from HOA.out.pushNil _ _)
    go_wp2_with fail
    refine HC19.out.mono ?_; rintro e w' ⟨rfl, rfl⟩
    go_wp2_with fail
    obtain ⟨o22, ho, hm⟩ := obind HM.out
    replace HM := Lib.hid hm; have HL1 := Lib.hid ho; clear hm ho
    refine wp_loop_marks _ [false, false, false, false, true, true, false, false, true, true, true, true, true, false, false, false, false, false, false, false, false, false, false, false, true, true, true, true, false, true, true, true, true, true, true, true, true, true, true, true, true, true, true, true, true, true, true, true, true, true, true, true, true, true, false] (fun gg fk1 dsk1 wr => ∃ (x23 : Nat) (x24 : List Int) (V25 : Value), (fk1 8) = .int .u64 ((x23 : Nat) : Int) ∧ (fk1 9) = V25 ∧ Hid (Below w.heap.size w wr) ∧ Hid (HP wr w.heap.size [.fl (owI V25 (x24)), .fl (owX 46 (some ⟨W11.heap.size, 0, none⟩) ((.slice A14 (y10).length cap15))), .fl (owM (.slice A14 (y10).length cap15) (y10))]) ∧ Hid (Marks w.heap.size dsk1 wr) ∧ Hid (topo_Order_L1 F (y10) gg x23 x24 = some o22)) F _ (by simp only [agreeB, and_self, true_and]) ⟨y20, [], (.slice none 0 0), rfl, rfl, HD, HOA, HMK, HL1⟩ ?round
    case round =>
      intro gk fk1 dsk1 wr hrel _ _ hJ1 _
      obtain ⟨x23, x24, V25, hf26, hf27, HD, HOA, HMK, HL1⟩ := hrel
      simp only [setB, Nat.reduceAdd, hf26, hf27]
      clear hf26 hf27
      rename World => W28
      cases gk with
      | zero => exact absurd ((topo_Order_L1_0 ..).symm.trans HL1.out) (by intro h; cases h)
      | succ g1 =>
        replace HL1 := Lib.hid ((topo_Order_L1_s ..).symm.trans HL1.out)
        rcases Bool.eq_false_or_eq_true (x23 != 0) with hc29 | hc29
        · replace HL1 := Lib.hid (ifT hc29 HL1.out)
          have HK30 := Lib.hid hc29
          go_upto_region 9 with (fail)
          have hd : Below W28.heap.size W28 (W28.alloc (.cells #[.int .u64 (((0) : Nat) : Int)] 49)) := (Below.refl _ _).alloc (Nat.le_refl _) _
          have ho := owX_ok W28 49 (.int .u64 (((0) : Nat) : Int))
          generalize hW : World.alloc W28 _ = W31 at *
          clear hW
          try clear hc29
          replace HOA := Lib.hid (HOA.out.call hd HD.out.size ho); clear ho
          replace HD := Lib.hid (HD.out.trans (hd.mono HD.out.size))
          replace HMK := Lib.hid (HMK.out.nc (NC.of_below hd))
          clear hd
          obtain ⟨y33, hy34, hm⟩ := obind HL1.out
          replace HL1 := Lib.hid hm; clear hm
          obtain ⟨hlt, hml⟩ := s_of hy34
          have HLT36 := Lib.hid hlt; have HML37 := Lib.hid hml; clear hlt hml hy34
          obtain ⟨o35, ho, hm⟩ := obind HL1.out
          replace HL1 := Lib.hid hm; have HL2 := Lib.hid ho; clear hm ho
          go_wp2_with fail
          refine (each_any _ _).mono ?_; rintro e w' ⟨rfl, rfl⟩
          go_wp2_with fail
          have hd : Below W31.heap.size W31 (W31.alloc (.cells #[.int .u64 (((x23) : Nat) : Int)] 49)) := (Below.refl _ _).alloc (Nat.le_refl _) _
          have ho := owX_ok W31 49 (.int .u64 (((x23) : Nat) : Int))
          generalize hW : World.alloc W31 _ = W38 at *
          clear hW
          replace HOA := Lib.hid (HOA.out.call hd HD.out.size ho); clear ho
          replace HD := Lib.hid (HD.out.trans (hd.mono HD.out.size))
          replace HMK := Lib.hid (HMK.out.nc (NC.of_below hd))
          clear hd
          have HDk41 := HD
          refine (wpIn_wide (n := 5)).1 (wp_each2 (m := x23) (Bs := W31.heap.size) (by omega) HLT36.out rfl (HP.bx HOA.out (List.Mem.head _)) rfl (fun rest W => ∃ (x40 : Nat), Hid (Below w.heap.size w W) ∧ Hid (NC W38 W) ∧ Hid (HP W w.heap.size [.fl (owX 49 (some ⟨W31.heap.size, 0, none⟩) (.int .u64 (((x23) : Nat) : Int))), .fl (owX 49 (some ⟨W28.heap.size, 0, none⟩) (.int .u64 (((x40) : Nat) : Int))), .fl (owI V25 (x24)), .fl (owX 46 (some ⟨W11.heap.size, 0, none⟩) ((.slice A14 (y10).length cap15))), .fl (owM (.slice A14 (y10).length cap15) (y10))]) ∧ Hid (topo_Order_L2 F (y10) rest x40 = some o35)) (fun _ _ => False) ?hI_q108 ?hIx_q108 ⟨0, HD, Lib.hid (NC.refl _), HOA, by rw [HML37.out]; exact HL2⟩ ?a1_q108 ?assign_q108 ?body_q108 ?done_q108 ?stop_q108)
          case hI_q108 =>
            rintro rest W W' ⟨x40, hd, hn, hh, hl⟩ hk
            exact ⟨x40, Lib.hid (hk.below hd.out HDk41.out.size (Nat.le_refl _)), Lib.hid (hn.out.keepC hk (Nat.le_refl _)), Lib.hid (hh.out.keepC hk), hl⟩
          case hIx_q108 => exact fun _ _ _ h _ => h
          case assign_q108 =>
            intro l x W K hK
            gi_wp2
            exact hK
          case body_q108 =>
            rintro l42 xn43 rest W44 hx ⟨x40, HD, HN, HOA, HL2⟩ _ _ _ hJ46 hJx47 _ hQ45
            replace HL2 := Lib.hid ((topo_Order_L2_c ..).symm.trans HL2.out)
            have HNB := Lib.hid (NC.refl W44)
            try gi_wp2_with fail
            have fb48 := HP.bx HOA.out (List.Mem.tail _ (List.Mem.head _))
            have fb49 := HP.bx HOA.out (List.Mem.tail _ (List.Mem.tail _ (List.Mem.tail _ (List.Mem.head _))))
            obtain ⟨y50, hy51, hm⟩ := obind HL2.out
            replace HL2 := Lib.hid hm; clear hm
            obtain ⟨b52, o53, ea54, _, f55, f56, f57⟩ := ReadsM.ix (HP.rd_M HOA.out (List.Mem.tail _ (List.Mem.tail _ (List.Mem.tail _ (List.Mem.tail _ (List.Mem.head _)))))) hy51
            cases ea54
            try simp only [Nat.zero_add, Nat.add_zero, Int.toNat_natCast, Int.toNat_zero, Int.toNat_one] at f57
            try rw [← HP.len_M HOA.out (List.Mem.tail _ (List.Mem.tail _ (List.Mem.tail _ (List.Mem.tail _ (List.Mem.head _)))))] at f56
            have HY59 := Lib.hid hy51; clear hy51
            obtain ⟨y60, hy61, hm⟩ := obind HL2.out
            replace HL2 := Lib.hid hm; clear hm
            obtain ⟨f62, hy61⟩ := sOr_some hy61; subst hy61
            obtain ⟨q0, q1, hp, hb⟩ := HP.setBx (its1 := [_]) HOA.out (.int .u64 ((((x40 ||| y50)) : Nat) : Int))
            have HP_ := Lib.hid hp; have HB_ := Lib.hid hb; clear hp hb
            refine wpIn_region_still_tail (open_round l42) 6 (by kernel_rfl) (by kernel_rfl) (by kernel_rfl) ?_; simp only [List.take_succ_cons, List.take_zero, List.drop_succ_cons, List.drop_zero]; repeat still_step; try refine wpStill_nil ?_
            change wpListIn _ _ _ _ _ _ _ (World.drew W44)
            gi_wp2_with fail
            have hp := HP_.out.dr (Dr.one _); have hb := HB_.out.trans ((Dr.one _).below _); clear HP_ HB_
            replace HNB := Lib.hid (HNB.out.trans ((NC.setCell W44 ⟨W28.heap.size, 0, none⟩ (.int .u64 ((((x40 ||| y50)) : Nat) : Int))).trans (NC.drew _)))
            generalize hW : World.drew (World.setCell W44 _ _) = W63 at *
            clear hW
            try clear q0 q1 fb48 fb49 f55 f56 f57 f62
            replace HOA := Lib.hid (show HP W63 w.heap.size [.fl (owX 49 (some ⟨W31.heap.size, 0, none⟩) (.int .u64 (((x23) : Nat) : Int))), .fl (owX 49 (some ⟨W28.heap.size, 0, none⟩) (.int .u64 ((((x40 ||| y50)) : Nat) : Int))), .fl (owI V25 (x24)), .fl (owX 46 (some ⟨W11.heap.size, 0, none⟩) ((.slice (some ⟨b52, o53, none⟩) (y10).length cap15))), .fl (owM (.slice (some ⟨b52, o53, none⟩) (y10).length cap15) (y10))] from hp); clear hp
            replace HD := Lib.hid (HD.out.trans hb); clear hb
            gi_wp2_with fail
            exact ⟨HNB.out, HP.bx HOA.out (List.Mem.head _), hJ46 _ ⟨(x40 ||| y50), HD, Lib.hid (HN.out.trans HNB.out), HOA, HL2⟩⟩
          case done_q108 =>
            rintro D64 W65 hD ⟨x40, HD, HN, HOA, HL2⟩ hK
            have hov := Option.some.inj ((topo_Order_L2_n ..).symm.trans HL2.out)
            replace HMK := Lib.hid (HMK.out.push HN.out hD HDk41.out.size hK); clear hK hD HN
            subst hov
            have hm := HL1.out; try dsimp only at hm
            replace HL1 := Lib.hid hm; clear hm
            have fb66 := HP.bx HOA.out (List.Mem.tail _ (List.Mem.head _))
            obtain ⟨y67, hy68, hm⟩ := obind HL1.out
            replace HL1 := Lib.hid hm; clear hm
            obtain ⟨f69, hy68⟩ := sNot_some hy68; subst hy68
            obtain ⟨y72, hy70, hm⟩ := obind HL1.out
            replace HL1 := Lib.hid hm; clear hm
            have HC71 := sList_ok W65  hy70
            clear hy70
            replace HC71 := Lib.hid HC71
            go_wp2_with fail
            refine HC71.out.mono ?_; rintro e W73 ⟨V74, rfl, ho, hd⟩
            try clear fb66 f69
            replace HOA := Lib.hid (HOA.out.call hd HD.out.size ho); clear ho
            replace HD := Lib.hid (HD.out.trans (hd.mono HD.out.size))
            replace HMK := Lib.hid (HMK.out.nc (NC.of_below hd))
            clear hd
            obtain ⟨A76, cap77, he, _⟩ := HP.open_I HOA.out (List.Mem.head _)
            subst he
            rcases Bool.eq_false_or_eq_true (((y72).length : Int) == 0) with hc78 | hc78
            · replace HL1 := Lib.hid (ifT hc78 HL1.out)
              have HK79 := Lib.hid hc78
              obtain rfl := Option.some.inj HL1.out
              have hm := HM.out; try dsimp only at hm
              replace HM := Lib.hid hm; clear hm
              obtain rfl := Option.some.inj HM.out
              go_wp2_with fail
              try clear hc78
              refine leave_marks (B := w.heap.size) _ _ HMK.out (fun W' => results_tmp2 rfl _ _ _) (fun W' hk => ⟨_, rfl, World.ownsRow_nil _ _ _ _, hk.below HD.out (Nat.le_refl _) (Nat.le_refl _)⟩)
            · replace HL1 := Lib.hid (ifF (bF hc78) HL1.out)
              have HK79 := Lib.hid hc78
              obtain ⟨y80, hy81, hm⟩ := obind HL1.out
              replace HL1 := Lib.hid hm; clear hm
              obtain ⟨b82, o83, ea84, _, f85, f86, f87⟩ := ReadsI.ix (HP.rd_I HOA.out (List.Mem.head _)) hy81
              cases ea84
              try simp only [Nat.zero_add, Nat.add_zero, Int.toNat_natCast, Int.toNat_zero, Int.toNat_one] at f87
              have f86n := f86; try norm_cast at f86n
              try rw [← HP.len_I HOA.out (List.Mem.head _)] at f86
              have HY89 := Lib.hid hy81; clear hy81
              obtain ⟨y90, hy91, hm⟩ := obind HL1.out
              replace HL1 := Lib.hid hm; clear hm
              obtain ⟨f92, hy91⟩ := app_some hy91; subst hy91
              obtain ⟨V93, W94, hrun, hoa, hb, hn⟩ := run_appI (e' := 3) (y := y80) (L1 := [_, _, _]) W73 28 28 Tryd.underlying28 HOA.out f92 HD.out.size
              have HP_ := Lib.hid hoa; clear hoa
              have HR_ := Lib.hid hrun; have HN_ := Lib.hid hn; have HOB := Lib.hid hb; clear hrun hn hb
              go_upto_region 16 with (at_builtin; refine wp_appRun HR_.out rfl rfl rfl rfl ?_)
              have hp := HP_.out; clear HP_ HR_
              replace HMK := Lib.hid (HMK.out.nc (HN_.out))
              have hb := HOB.out; clear HOB HN_
              try clear hc78 f85 f86 f87 f86n
              replace HOA := Lib.hid (show HP W94 w.heap.size [.fl (owI (.slice (some ⟨b82, o83, none⟩) (y72).length cap77) (y72)), .fl (owX 49 (some ⟨W31.heap.size, 0, none⟩) (.int .u64 (((x23) : Nat) : Int))), .fl (owX 49 (some ⟨W28.heap.size, 0, none⟩) (.int .u64 (((x40) : Nat) : Int))), .fl (owI V93 ((x24 ++ [y80]))), .fl (owX 46 (some ⟨W11.heap.size, 0, none⟩) ((.slice A14 (y10).length cap15))), .fl (owM (.slice A14 (y10).length cap15) (y10))] from hp); clear hp
              replace HD := Lib.hid (HD.out.trans hb); clear hb
              obtain ⟨y95, hy96, hm⟩ := obind HL1.out
              replace HL1 := Lib.hid hm; clear hm
              obtain ⟨b97, o98, ea99, _, f100, f101, f102⟩ := ReadsI.ix (HP.rd_I HOA.out (List.Mem.head _)) hy96
              cases ea99
              try simp only [Nat.zero_add, Nat.add_zero, Int.toNat_natCast, Int.toNat_zero, Int.toNat_one] at f102
              have f101n := f101; try norm_cast at f101n
              try rw [← HP.len_I HOA.out (List.Mem.head _)] at f101
              have HY104 := Lib.hid hy96; clear hy96
              obtain ⟨y107, hy105, hm⟩ := obind HL1.out
              replace HL1 := Lib.hid hm; clear hm
              have HC106 := sWithout_ok W94  hy105
              clear hy105
              replace HC106 := Lib.hid HC106
              go_wp2_with fail
              refine HC106.out.mono ?_; rintro e w' ⟨rfl, rfl⟩
              go_wp2_with fail
              try clear f100 f101 f102 f101n
              replace HOA := Lib.hid (HOA.out.sub (.cons _ (.cons _ (.cons _ (.cons₂ _ (.cons₂ _ (.cons₂ _ .slnil)))))))
              refine Handed.intro g1 (by omega) ?_
              refine hJ1 _ _ _ ⟨by simp only [agreeB, and_self, true_and], y107, (x24 ++ [y80]), V93, rfl, rfl, HD, HOA, HMK, HL1⟩
          case stop_q108 => exact fun _ _ _ _ h _ => h.elim
        · replace HL1 := Lib.hid (ifF (bF hc29) HL1.out)
          have HK30 := Lib.hid hc29
          obtain rfl := Option.some.inj HL1.out
          have hm := HM.out; try dsimp only at hm
          replace HM := Lib.hid hm; clear hm
          obtain rfl := Option.some.inj HM.out
          go_wp2_with fail
          try clear hc29
          refine leave_marks (B := w.heap.size) _ _ HMK.out (fun W' => results_tmp2 rfl _ _ _) (fun W' hk => ⟨_, rfl, (HOA.out.keepC hk).get (List.Mem.head _), hk.below HD.out (Nat.le_refl _) (Nat.le_refl _)⟩)
  · rw [errV_pos _ hz4] at HC2; replace HC2 := Lib.hid HC2
    go_wp2_with fail
    refine HC2.out.mono ?_; rintro e W6 ⟨rfl, hd⟩
    replace HOA := Lib.hid (HOA.out.below hd)
    replace HD := Lib.hid (HD.out.trans (hd.mono HD.out.size))
    replace HMK := Lib.hid (HMK.out.nc (NC.of_below hd))
    clear hd
    have HZ7 := Lib.hid hz4; clear hz4
    replace HM := Lib.hid (ifT (bne_iff_ne.2 HZ7.out) HM.out)
    obtain rfl := Option.some.inj HM.out
    go_wp2_with fail
    refine leave_marks (B := w.heap.size) _ _ HMK.out (fun W' => results_tmp2 rfl _ _ _) (fun W' hk => ⟨_, (by first | (rw [errV_pos _ HZ7.out]; rfl) | rw [errV_pos _ HZ7.out]), World.ownsRow_nil _ _ _ _, hk.below HD.out (Nat.le_refl _) (Nat.le_refl _)⟩)
end Go.Proofs.YtoiidngnlhhanaaDoor
