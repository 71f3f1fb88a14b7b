import Derived.Test.YtoiidngnlhhanaaDoorW2
import Derived.Test.YtoiidngnlhhanaaDoorB
import Derived.Test.YtoiidngnlhhanaaDoorErr
set_option linter.all false
set_option maxRecDepth 100000
namespace Go.Proofs.YtoiidngnlhhanaaDoor
open Go.RowKit
def LT_TopBeaten (F : Nat) (v0 : Int) (v1 : List (Int × Int)) : Option (Bool) := (tourn_Row F (v0) (v1)).bind fun y1 => (tourn_Row F (2) ([(1, 0)])).bind fun y2 => ((if (y2.2 != 0) = true then some true else (SE_Ints F (y2.1) ([1, 0])).bind fun y4 => if y4 = true then some false else some true).bind fun b3 => if b3 = true then some (false) else (if (y1.2 != 0) = true then (if (((y1.1).length : Int) == 0) = true then some true else some false).bind fun b5 => some (b5) else (topo_Order F (v0) (v1)).bind fun y6 => (tourn_Scores F (v0) (v1)).bind fun y7 => (tourn_Kings F (v0) (v1)).bind fun y8 => ((((if (y7.2 != 0) = true then some true else if (y8.2 != 0) = true then some true else some false).bind fun b11 => if b11 = true then some true else if (((y7.1).length : Int) != v0) = true then some true else some false).bind fun b10 => if b10 = true then some true else if (((y1.1).length : Int) != v0) = true then some true else some false).bind fun b9 => if b9 = true then some (false) else (R1_Twice F (y7.1)).bind fun y12 => (if (y6.2 != 0) = true then ((mErr (y6.2) (5)).bind fun y14 => if y14 = true then if y12 = true then some true else some false else some false).bind fun b13 => some (b13) else ((if y12 = true then some false else (SE_Ints F (y1.1) (y6.1)).bind fun y17 => if y17 = true then some true else some false).bind fun b16 => if b16 = true then (tk y1.1 1).bind fun y18 => (SE_Ints F (y8.1) (y18)).bind fun y19 => if y19 = true then some true else some false else some false).bind fun b15 => some (b15)))))
set_option maxRecDepth 100000 in
set_option maxHeartbeats 4000000 in
theorem LT_TopBeaten_ok {F : Nat} {v0 : Int} {v1 : List (Int × Int)} {A1 : Option Addr} {r : Bool} (w : World) (htc : TyCell w) (cap1 : Nat) (hr1 : ReadsL w w.heap.size A1 v1) (h : LT_TopBeaten F v0 v1 = some r) :
    Calls Tryd.prog 4 #[.int .i64 v0, .slice A1 v1.length cap1] w fun e w' => e = .returned (.bool r) ∧ Below w.heap.size w w' := by
  have HTC := Lib.hid htc; clear htc
  have HR1 := Lib.hid hr1; clear hr1
  have HD := Lib.hid (Below.refl w.heap.size w)
  have HOA := Lib.hid (HP.nil (W := w) (B := w.heap.size))
  unfold LT_TopBeaten at h
  have HM := Lib.hid h; clear h
  go_enter Tryd.func4, Tryd.ntmps4
  obtain ⟨⟨y3, y4⟩, hy1, hm⟩ := obind HM.out
  dsimp only at hm
  replace HM := Lib.hid hm; clear hm
  have HC2 := tourn_Row_ok w cap1 (rdL HD.out HR1.out) hy1
  clear hy1
  by_cases hz5 : y4 = 0
  · subst hz5
    rw [errV_zero] at HC2; replace HC2 := Lib.hid HC2
    go_wp2_with fail
    refine HC2.out.mono ?_; rintro e W6 ⟨V7, rfl, ho, hd⟩
    replace HOA := Lib.hid (HOA.out.call hd HD.out.size ho); clear ho
    replace HD := Lib.hid (HD.out.trans (hd.mono HD.out.size))
    clear hd
    have hd : Below W6.heap.size W6 (World.alloc W6 (.cells #[Value.int .i64 (1), Value.int .i64 (0)] 32)) := (Below.refl _ _).alloc (Nat.le_refl _) _
    have ho : (owL (.slice (some ⟨W6.heap.size, 0, none⟩) 1 1) [(1, 0)]).ok (World.alloc W6 (.cells #[Value.int .i64 (1), Value.int .i64 (0)] 32)) W6.heap.size := litL_ok W6 [(1, 0)] (by unfold maxLen; simp)
    replace HOA := Lib.hid (HOA.out.call hd HD.out.size ho); clear ho
    replace HD := Lib.hid (HD.out.trans (hd.mono HD.out.size))
    clear hd
    obtain ⟨⟨y17, y18⟩, hy15, hm⟩ := obind HM.out
    dsimp only at hm
    replace HM := Lib.hid hm; clear hm
    have HC16 := tourn_Row_ok (World.alloc W6 (.cells #[Value.int .i64 (1), Value.int .i64 (0)] 32)) 1 (HP.rd_L HOA.out (List.Mem.head _)) hy15
    clear hy15
    try rw [← HP.len_L HOA.out (List.Mem.head _)] at HC16
    by_cases hz19 : y18 = 0
    · subst hz19
      rw [errV_zero] at HC16; replace HC16 := Lib.hid HC16
      go_wp2_with fail
      refine HC16.out.mono ?_; rintro e W20 ⟨V21, rfl, ho, hd⟩
      replace HOA := Lib.hid (HOA.out.call hd HD.out.size ho); clear ho
      replace HD := Lib.hid (HD.out.trans (hd.mono HD.out.size))
      clear hd
      go_upto_region 3 with (fail)
      obtain ⟨b27, hb, hm⟩ := obind HM.out
      replace HM := Lib.hid hm; have HB28 := Lib.hid hb; clear hm hb
      go_cut [35] (fun uq wr => uq = .bool b27 ∧ Hid (Below W20.heap.size W20 wr))
      case first =>
        have HWC29 := Lib.hid (Below.refl W20.heap.size W20)
        replace HB28 := Lib.hid (ifF (by decide) HB28.out)
        have hd : Below W20.heap.size W20 (World.alloc W20 (.cells #[Value.int .i64 (1), Value.int .i64 (0)] 3)) := (Below.refl _ _).alloc (Nat.le_refl _) _
        have ho : (owI (.slice (some ⟨W20.heap.size, 0, none⟩) 2 2) [1, 0]).ok (World.alloc W20 (.cells #[Value.int .i64 (1), Value.int .i64 (0)] 3)) W20.heap.size := litI_ok W20 [1, 0] (by unfold maxLen; simp)
        replace HOA := Lib.hid (HOA.out.call hd HD.out.size ho); clear ho
        replace HD := Lib.hid (HD.out.trans (hd.mono HD.out.size))
        replace HWC29 := Lib.hid (HWC29.out.trans (hd.mono HWC29.out.size))
        clear hd
        obtain ⟨y34, hy32, hm⟩ := obind HB28.out
        replace HB28 := Lib.hid hm; clear hm
        obtain ⟨A35, cap36, he, _⟩ := HP.open_I HOA.out (List.Mem.tail _ (List.Mem.head _))
        subst he
        have HC33 := SE_Ints_ok (World.alloc W20 (.cells #[Value.int .i64 (1), Value.int .i64 (0)] 3)) cap36 (HP.rd_I HOA.out (List.Mem.tail _ (List.Mem.head _))) 2 (HP.rd_I HOA.out (List.Mem.head _)) hy32
        clear hy32
        try rw [← HP.len_I HOA.out (List.Mem.head _)] at HC33
        replace HC33 := Lib.hid HC33
        go_wp2_with fail
        refine HC33.out.mono ?_; rintro e W37 ⟨rfl, hd⟩
        replace HOA := Lib.hid (HOA.out.below (hd.below _))
        replace HD := Lib.hid (HD.out.trans ((hd.below _).mono HD.out.size))
        replace HWC29 := Lib.hid (HWC29.out.trans ((hd.below _).mono HWC29.out.size))
        clear hd
        cases y34
        · replace HB28 := Lib.hid (ifF Bool.false_ne_true HB28.out)
          cases Option.some.inj HB28.out
          try go_wp2_with fail
          go_meet
          case rel => exact ⟨rfl, HWC29⟩
        · replace HB28 := Lib.hid (ifT rfl HB28.out)
          cases Option.some.inj HB28.out
          try go_wp2_with fail
          go_meet
          case rel => exact ⟨rfl, HWC29⟩
      case rest =>
        as_aux_lemma =>
          obtain ⟨rfl, HWC29⟩ := hcut
          rename World => W38
          have hd := HWC29.out
          replace HOA := Lib.hid (HOA.out.below hd)
          replace HD := Lib.hid (HD.out.trans (hd.mono HD.out.size))
          clear hd
          cases b27
          · replace HM := Lib.hid (ifF Bool.false_ne_true HM.out)
            replace HM := Lib.hid (ifF (by decide) HM.out)
            obtain ⟨⟨y41, y42⟩, hy39, hm⟩ := obind HM.out
            dsimp only at hm
            replace HM := Lib.hid hm; clear hm
            have HC40 := topo_Order_ok W38 cap1 (rdL HD.out HR1.out) hy39
            clear hy39
            by_cases hz43 : y42 = 0
            · subst hz43
              rw [errV_zero] at HC40; replace HC40 := Lib.hid HC40
              go_wp2_with fail
              refine HC40.out.mono ?_; rintro e W44 ⟨V45, rfl, ho, hd⟩
              replace HOA := Lib.hid (HOA.out.call hd HD.out.size ho); clear ho
              replace HD := Lib.hid (HD.out.trans (hd.mono HD.out.size))
              clear hd
              obtain ⟨⟨y53, y54⟩, hy51, hm⟩ := obind HM.out
              dsimp only at hm
              replace HM := Lib.hid hm; clear hm
              have HC52 := tourn_Scores_ok W44 cap1 (rdL HD.out HR1.out) hy51
              clear hy51
              by_cases hz55 : y54 = 0
              · subst hz55
                rw [errV_zero] at HC52; replace HC52 := Lib.hid HC52
                go_wp2_with fail
                refine HC52.out.mono ?_; rintro e W56 ⟨V57, rfl, ho, hd⟩
                replace HOA := Lib.hid (HOA.out.call hd HD.out.size ho); clear ho
                replace HD := Lib.hid (HD.out.trans (hd.mono HD.out.size))
                clear hd
                obtain ⟨⟨y65, y66⟩, hy63, hm⟩ := obind HM.out
                dsimp only at hm
                replace HM := Lib.hid hm; clear hm
                have HC64 := tourn_Kings_ok W56 cap1 (rdL HD.out HR1.out) hy63
                clear hy63
                by_cases hz67 : y66 = 0
                · subst hz67
                  rw [errV_zero] at HC64; replace HC64 := Lib.hid HC64
                  go_wp2_with fail
                  refine HC64.out.mono ?_; rintro e W68 ⟨V69, rfl, ho, hd⟩
                  replace HOA := Lib.hid (HOA.out.call hd HD.out.size ho); clear ho
                  replace HD := Lib.hid (HD.out.trans (hd.mono HD.out.size))
                  clear hd
                  go_upto_region 10 with (fail)
                  obtain ⟨b75, hb, hm⟩ := obind HM.out
                  replace HM := Lib.hid hm; have HB76 := Lib.hid hb; clear hm hb
                  go_cut [76] (fun uq wr => uq = .bool b75 ∧ Hid (Below W68.heap.size W68 wr))
                  case first =>
                    have HWC77 := Lib.hid (Below.refl W68.heap.size W68)
                    obtain ⟨b78, hb, hm⟩ := obind HB76.out
                    replace HB76 := Lib.hid hm; have HB79 := Lib.hid hb; clear hm hb
                    obtain ⟨b80, hb, hm⟩ := obind HB79.out
                    replace HB79 := Lib.hid hm; have HB81 := Lib.hid hb; clear hm hb
                    replace HB81 := Lib.hid (ifF (by decide) HB81.out)
                    replace HB81 := Lib.hid (ifF (by decide) HB81.out)
                    obtain rfl := Option.some.inj HB81.out
                    replace HB79 := Lib.hid (ifF (by first | exact Bool.false_ne_true | exact not_false) HB79.out)
                    obtain ⟨A82, cap83, he, _⟩ := HP.open_I HOA.out (List.Mem.tail _ (List.Mem.head _))
                    subst he
                    rcases Bool.eq_false_or_eq_true (((y53).length : Int) != v0) with hc84 | hc84
                    · replace HB79 := Lib.hid (ifT hc84 HB79.out)
                      have HK85 := Lib.hid hc84
                      obtain rfl := Option.some.inj HB79.out
                      replace HB76 := Lib.hid (ifT (by first | rfl | trivial) HB76.out)
                      cases Option.some.inj HB76.out
                      try go_wp2_with fail
                      go_meet
                      case rel => exact ⟨rfl, HWC77⟩
                    · replace HB79 := Lib.hid (ifF (bF hc84) HB79.out)
                      have HK85 := Lib.hid hc84
                      obtain rfl := Option.some.inj HB79.out
                      replace HB76 := Lib.hid (ifF (by first | exact Bool.false_ne_true | exact not_false) HB76.out)
                      obtain ⟨A86, cap87, he, _⟩ := HP.open_I HOA.out (List.Mem.tail _ (List.Mem.tail _ (List.Mem.tail _ (List.Mem.tail _ (List.Mem.tail _ (List.Mem.head _))))))
                      subst he
                      rcases Bool.eq_false_or_eq_true (((y3).length : Int) != v0) with hc88 | hc88
                      · replace HB76 := Lib.hid (ifT hc88 HB76.out)
                        have HK89 := Lib.hid hc88
                        cases Option.some.inj HB76.out
                        try go_wp2_with fail
                        go_meet
                        case rel => exact ⟨rfl, HWC77⟩
                      · replace HB76 := Lib.hid (ifF (bF hc88) HB76.out)
                        have HK89 := Lib.hid hc88
                        cases Option.some.inj HB76.out
                        try go_wp2_with fail
                        go_meet
                        case rel => exact ⟨rfl, HWC77⟩
                  case rest =>
                    as_aux_lemma =>
                      obtain ⟨rfl, HWC77⟩ := hcut
                      rename World => W90
                      have hd := HWC77.out
                      replace HOA := Lib.hid (HOA.out.below hd)
                      replace HD := Lib.hid (HD.out.trans (hd.mono HD.out.size))
                      clear hd
                      cases b75
                      · replace HM := Lib.hid (ifF Bool.false_ne_true HM.out)
                        obtain ⟨y93, hy91, hm⟩ := obind HM.out
                        replace HM := Lib.hid hm; clear hm
                        obtain ⟨A94, cap95, he, _⟩ := HP.open_I HOA.out (List.Mem.tail _ (List.Mem.head _))
                        subst he
                        have HC92 := R1_Twice_ok W90 cap95 (HP.rd_I HOA.out (List.Mem.tail _ (List.Mem.head _))) (HP.cap_I HOA.out (List.Mem.tail _ (List.Mem.head _))) hy91
                        clear hy91
                        replace HC92 := Lib.hid HC92
                        go_wp2_with fail
                        refine HC92.out.mono ?_; rintro e W96 ⟨rfl, hd⟩
                        replace HOA := Lib.hid (HOA.out.below (hd.below _))
                        replace HD := Lib.hid (HD.out.trans ((hd.below _).mono HD.out.size))
                        clear hd
                        replace HM := Lib.hid (ifF (by decide) HM.out)
                        obtain ⟨b97, hb, hm⟩ := obind HM.out
                        replace HM := Lib.hid hm; have HB98 := Lib.hid hb; clear hm hb
                        obtain ⟨b99, hb, hm⟩ := obind HB98.out
                        replace HB98 := Lib.hid hm; have HB100 := Lib.hid hb; clear hm hb
                        cases y93
                        · replace HB100 := Lib.hid (ifF Bool.false_ne_true HB100.out)
                          obtain ⟨y103, hy101, hm⟩ := obind HB100.out
                          replace HB100 := Lib.hid hm; clear hm
                          obtain ⟨A104, cap105, he, _⟩ := HP.open_I HOA.out (List.Mem.tail _ (List.Mem.tail _ (List.Mem.tail _ (List.Mem.tail _ (List.Mem.tail _ (List.Mem.head _))))))
                          subst he
                          obtain ⟨A106, cap107, he, _⟩ := HP.open_I HOA.out (List.Mem.tail _ (List.Mem.tail _ (List.Mem.head _)))
                          subst he
                          have HC102 := SE_Ints_ok W96 cap105 (HP.rd_I HOA.out (List.Mem.tail _ (List.Mem.tail _ (List.Mem.tail _ (List.Mem.tail _ (List.Mem.tail _ (List.Mem.head _))))))) cap107 (HP.rd_I HOA.out (List.Mem.tail _ (List.Mem.tail _ (List.Mem.head _)))) hy101
                          clear hy101
                          replace HC102 := Lib.hid HC102
                          go_wp2_with fail
                          refine HC102.out.mono ?_; rintro e W108 ⟨rfl, hd⟩
                          replace HOA := Lib.hid (HOA.out.below (hd.below _))
                          replace HD := Lib.hid (HD.out.trans ((hd.below _).mono HD.out.size))
                          clear hd
                          cases y103
                          · replace HB100 := Lib.hid (ifF Bool.false_ne_true HB100.out)
                            obtain rfl := Option.some.inj HB100.out
                            replace HB98 := Lib.hid (ifF (by first | exact Bool.false_ne_true | exact not_false) HB98.out)
                            obtain rfl := Option.some.inj HB98.out
                            obtain rfl := Option.some.inj HM.out
                            go_wp2_with fail
                            go_ret
                            exact ⟨rfl, HD.out⟩
                          · replace HB100 := Lib.hid (ifT rfl HB100.out)
                            obtain rfl := Option.some.inj HB100.out
                            replace HB98 := Lib.hid (ifT (by first | rfl | trivial) HB98.out)
                            obtain ⟨y109, hy110, hm⟩ := obind HB98.out
                            replace HB98 := Lib.hid hm; clear hm
                            obtain ⟨f111, hy110⟩ := tk_some hy110; subst hy110
                            obtain ⟨A112, n117, cap113, hsl114, hrs, hcs, hns⟩ := ReadsI.sliceU (HP.rd_I HOA.out (List.Mem.tail _ (List.Mem.tail _ (List.Mem.tail _ (List.Mem.tail _ (List.Mem.tail _ (List.Mem.head _))))))) (HP.cap_I HOA.out (List.Mem.tail _ (List.Mem.tail _ (List.Mem.tail _ (List.Mem.tail _ (List.Mem.tail _ (List.Mem.head _))))))) f111
                            have HR115 := Lib.hid hrs; have HCAP116 := Lib.hid hcs; have HN118 := Lib.hid hns; clear hrs hcs hns f111
                            obtain ⟨y121, hy119, hm⟩ := obind HB98.out
                            replace HB98 := Lib.hid hm; clear hm
                            obtain ⟨A122, cap123, he, _⟩ := HP.open_I HOA.out (List.Mem.head _)
                            subst he
                            have HC120 := SE_Ints_ok W108 cap123 (HP.rd_I HOA.out (List.Mem.head _)) cap113 HR115.out hy119
                            clear hy119
                            simp only [← HN118.out] at HC120
                            replace HC120 := Lib.hid HC120
                            go_wp2_with fail
                            refine HC120.out.mono ?_; rintro e W124 ⟨rfl, hd⟩
                            try clear hsl114
                            replace HOA := Lib.hid (HOA.out.below (hd.below _))
                            replace HR115 := Lib.hid (rdI (hd.below _) HR115.out)
                            replace HD := Lib.hid (HD.out.trans ((hd.below _).mono HD.out.size))
                            clear hd
                            cases y121
                            · replace HB98 := Lib.hid (ifF Bool.false_ne_true HB98.out)
                              obtain rfl := Option.some.inj HB98.out
                              obtain rfl := Option.some.inj HM.out
                              go_wp2_with fail
                              go_ret
                              exact ⟨rfl, HD.out⟩
                            · replace HB98 := Lib.hid (ifT rfl HB98.out)
                              obtain rfl := Option.some.inj HB98.out
                              obtain rfl := Option.some.inj HM.out
                              go_wp2_with fail
                              go_ret
                              exact ⟨rfl, HD.out⟩
                        · replace HB100 := Lib.hid (ifT rfl HB100.out)
                          obtain rfl := Option.some.inj HB100.out
                          replace HB98 := Lib.hid (ifF (by first | exact Bool.false_ne_true | exact not_false) HB98.out)
                          obtain rfl := Option.some.inj HB98.out
                          obtain rfl := Option.some.inj HM.out
                          go_wp2_with fail
                          go_ret
                          exact ⟨rfl, HD.out⟩
                      · replace HM := Lib.hid (ifT rfl HM.out)
                        obtain rfl := Option.some.inj HM.out
                        go_wp2_with fail
                        go_ret
                        exact ⟨rfl, HD.out⟩
                · rw [errV_pos _ hz67] at HC64; replace HC64 := Lib.hid HC64
                  go_wp2_with fail
                  refine HC64.out.mono ?_; rintro e W71 ⟨V72, rfl, ho, hd⟩
                  replace HOA := Lib.hid (HOA.out.call hd HD.out.size ho); clear ho
                  replace HD := Lib.hid (HD.out.trans (hd.mono HD.out.size))
                  clear hd
                  have HZ74 := Lib.hid hz67; clear hz67
                  go_upto_region 10 with (fail)
                  obtain ⟨b125, hb, hm⟩ := obind HM.out
                  replace HM := Lib.hid hm; have HB126 := Lib.hid hb; clear hm hb
                  go_cut [76] (fun uq wr => uq = .bool b125 ∧ Hid (Below W71.heap.size W71 wr))
                  case first =>
                    have HWC127 := Lib.hid (Below.refl W71.heap.size W71)
                    obtain ⟨b128, hb, hm⟩ := obind HB126.out
                    replace HB126 := Lib.hid hm; have HB129 := Lib.hid hb; clear hm hb
                    obtain ⟨b130, hb, hm⟩ := obind HB129.out
                    replace HB129 := Lib.hid hm; have HB131 := Lib.hid hb; clear hm hb
                    replace HB131 := Lib.hid (ifF (by decide) HB131.out)
                    replace HB131 := Lib.hid (ifT (bne_iff_ne.2 HZ74.out) HB131.out)
                    obtain rfl := Option.some.inj HB131.out
                    replace HB129 := Lib.hid (ifT (by first | rfl | trivial) HB129.out)
                    obtain rfl := Option.some.inj HB129.out
                    replace HB126 := Lib.hid (ifT (by first | rfl | trivial) HB126.out)
                    cases Option.some.inj HB126.out
                    try go_wp2_with fail
                    go_meet
                    case rel => exact ⟨rfl, HWC127⟩
                  case rest =>
                    as_aux_lemma =>
                      obtain ⟨rfl, HWC127⟩ := hcut
                      rename World => W132
                      have hd := HWC127.out
                      replace HOA := Lib.hid (HOA.out.below hd)
                      replace HD := Lib.hid (HD.out.trans (hd.mono HD.out.size))
                      clear hd
                      cases b125
                      · replace HM := Lib.hid (ifF Bool.false_ne_true HM.out)
                        obtain ⟨y135, hy133, hm⟩ := obind HM.out
                        replace HM := Lib.hid hm; clear hm
                        obtain ⟨A136, cap137, he, _⟩ := HP.open_I HOA.out (List.Mem.tail _ (List.Mem.head _))
                        subst he
                        have HC134 := R1_Twice_ok W132 cap137 (HP.rd_I HOA.out (List.Mem.tail _ (List.Mem.head _))) (HP.cap_I HOA.out (List.Mem.tail _ (List.Mem.head _))) hy133
                        clear hy133
                        replace HC134 := Lib.hid HC134
                        go_wp2_with fail
                        refine HC134.out.mono ?_; rintro e W138 ⟨rfl, hd⟩
                        replace HOA := Lib.hid (HOA.out.below (hd.below _))
                        replace HD := Lib.hid (HD.out.trans ((hd.below _).mono HD.out.size))
                        clear hd
                        replace HM := Lib.hid (ifF (by decide) HM.out)
                        obtain ⟨b139, hb, hm⟩ := obind HM.out
                        replace HM := Lib.hid hm; have HB140 := Lib.hid hb; clear hm hb
                        obtain ⟨b141, hb, hm⟩ := obind HB140.out
                        replace HB140 := Lib.hid hm; have HB142 := Lib.hid hb; clear hm hb
                        cases y135
                        · replace HB142 := Lib.hid (ifF Bool.false_ne_true HB142.out)
                          obtain ⟨y145, hy143, hm⟩ := obind HB142.out
                          replace HB142 := Lib.hid hm; clear hm
                          obtain ⟨A146, cap147, he, _⟩ := HP.open_I HOA.out (List.Mem.tail _ (List.Mem.tail _ (List.Mem.tail _ (List.Mem.tail _ (List.Mem.tail _ (List.Mem.head _))))))
                          subst he
                          obtain ⟨A148, cap149, he, _⟩ := HP.open_I HOA.out (List.Mem.tail _ (List.Mem.tail _ (List.Mem.head _)))
                          subst he
                          have HC144 := SE_Ints_ok W138 cap147 (HP.rd_I HOA.out (List.Mem.tail _ (List.Mem.tail _ (List.Mem.tail _ (List.Mem.tail _ (List.Mem.tail _ (List.Mem.head _))))))) cap149 (HP.rd_I HOA.out (List.Mem.tail _ (List.Mem.tail _ (List.Mem.head _)))) hy143
                          clear hy143
                          replace HC144 := Lib.hid HC144
                          go_wp2_with fail
                          refine HC144.out.mono ?_; rintro e W150 ⟨rfl, hd⟩
                          replace HOA := Lib.hid (HOA.out.below (hd.below _))
                          replace HD := Lib.hid (HD.out.trans ((hd.below _).mono HD.out.size))
                          clear hd
                          cases y145
                          · replace HB142 := Lib.hid (ifF Bool.false_ne_true HB142.out)
                            obtain rfl := Option.some.inj HB142.out
                            replace HB140 := Lib.hid (ifF (by first | exact Bool.false_ne_true | exact not_false) HB140.out)
                            obtain rfl := Option.some.inj HB140.out
                            obtain rfl := Option.some.inj HM.out
                            go_wp2_with fail
                            go_ret
                            exact ⟨rfl, HD.out⟩
                          · replace HB142 := Lib.hid (ifT rfl HB142.out)
                            obtain rfl := Option.some.inj HB142.out
                            replace HB140 := Lib.hid (ifT (by first | rfl | trivial) HB140.out)
                            obtain ⟨y151, hy152, hm⟩ := obind HB140.out
                            replace HB140 := Lib.hid hm; clear hm
                            obtain ⟨f153, hy152⟩ := tk_some hy152; subst hy152
                            obtain ⟨A154, n159, cap155, hsl156, hrs, hcs, hns⟩ := ReadsI.sliceU (HP.rd_I HOA.out (List.Mem.tail _ (List.Mem.tail _ (List.Mem.tail _ (List.Mem.tail _ (List.Mem.tail _ (List.Mem.head _))))))) (HP.cap_I HOA.out (List.Mem.tail _ (List.Mem.tail _ (List.Mem.tail _ (List.Mem.tail _ (List.Mem.tail _ (List.Mem.head _))))))) f153
                            have HR157 := Lib.hid hrs; have HCAP158 := Lib.hid hcs; have HN160 := Lib.hid hns; clear hrs hcs hns f153
                            obtain ⟨y163, hy161, hm⟩ := obind HB140.out
                            replace HB140 := Lib.hid hm; clear hm
                            obtain ⟨A164, cap165, he, _⟩ := HP.open_I HOA.out (List.Mem.head _)
                            subst he
                            have HC162 := SE_Ints_ok W150 cap165 (HP.rd_I HOA.out (List.Mem.head _)) cap155 HR157.out hy161
                            clear hy161
                            simp only [← HN160.out] at HC162
                            replace HC162 := Lib.hid HC162
                            go_wp2_with fail
                            refine HC162.out.mono ?_; rintro e W166 ⟨rfl, hd⟩
                            try clear hsl156
                            replace HOA := Lib.hid (HOA.out.below (hd.below _))
                            replace HR157 := Lib.hid (rdI (hd.below _) HR157.out)
                            replace HD := Lib.hid (HD.out.trans ((hd.below _).mono HD.out.size))
                            clear hd
                            cases y163
                            · replace HB140 := Lib.hid (ifF Bool.false_ne_true HB140.out)
                              obtain rfl := Option.some.inj HB140.out
                              obtain rfl := Option.some.inj HM.out
                              go_wp2_with fail
                              go_ret
                              exact ⟨rfl, HD.out⟩
                            · replace HB140 := Lib.hid (ifT rfl HB140.out)
                              obtain rfl := Option.some.inj HB140.out
                              obtain rfl := Option.some.inj HM.out
                              go_wp2_with fail
                              go_ret
                              exact ⟨rfl, HD.out⟩
                        · replace HB142 := Lib.hid (ifT rfl HB142.out)
                          obtain rfl := Option.some.inj HB142.out
                          replace HB140 := Lib.hid (ifF (by first | exact Bool.false_ne_true | exact not_false) HB140.out)
                          obtain rfl := Option.some.inj HB140.out
                          obtain rfl := Option.some.inj HM.out
                          go_wp2_with fail
                          go_ret
                          exact ⟨rfl, HD.out⟩
                      · replace HM := Lib.hid (ifT rfl HM.out)
                        obtain rfl := Option.some.inj HM.out
                        go_wp2_with fail
                        go_ret
                        exact ⟨rfl, HD.out⟩
              · rw [errV_pos _ hz55] at HC52; replace HC52 := Lib.hid HC52
                go_wp2_with fail
                refine HC52.out.mono ?_; rintro e W59 ⟨V60, rfl, ho, hd⟩
                replace HOA := Lib.hid (HOA.out.call hd HD.out.size ho); clear ho
                replace HD := Lib.hid (HD.out.trans (hd.mono HD.out.size))
                clear hd
                have HZ62 := Lib.hid hz55; clear hz55
                obtain ⟨⟨y169, y170⟩, hy167, hm⟩ := obind HM.out
                dsimp only at hm
                replace HM := Lib.hid hm; clear hm
                have HC168 := tourn_Kings_ok W59 cap1 (rdL HD.out HR1.out) hy167
                clear hy167
                by_cases hz171 : y170 = 0
                · subst hz171
                  rw [errV_zero] at HC168; replace HC168 := Lib.hid HC168
                  go_wp2_with fail
                  refine HC168.out.mono ?_; rintro e W172 ⟨V173, rfl, ho, hd⟩
                  replace HOA := Lib.hid (HOA.out.call hd HD.out.size ho); clear ho
                  replace HD := Lib.hid (HD.out.trans (hd.mono HD.out.size))
                  clear hd
                  go_upto_region 10 with (fail)
                  obtain ⟨b179, hb, hm⟩ := obind HM.out
                  replace HM := Lib.hid hm; have HB180 := Lib.hid hb; clear hm hb
                  go_cut [76] (fun uq wr => uq = .bool b179 ∧ Hid (Below W172.heap.size W172 wr))
                  case first =>
                    have HWC181 := Lib.hid (Below.refl W172.heap.size W172)
                    obtain ⟨b182, hb, hm⟩ := obind HB180.out
                    replace HB180 := Lib.hid hm; have HB183 := Lib.hid hb; clear hm hb
                    obtain ⟨b184, hb, hm⟩ := obind HB183.out
                    replace HB183 := Lib.hid hm; have HB185 := Lib.hid hb; clear hm hb
                    replace HB185 := Lib.hid (ifT (bne_iff_ne.2 HZ62.out) HB185.out)
                    obtain rfl := Option.some.inj HB185.out
                    replace HB183 := Lib.hid (ifT (by first | rfl | trivial) HB183.out)
                    obtain rfl := Option.some.inj HB183.out
                    replace HB180 := Lib.hid (ifT (by first | rfl | trivial) HB180.out)
                    cases Option.some.inj HB180.out
                    try go_wp2_with fail
                    go_meet
                    case rel => exact ⟨rfl, HWC181⟩
                  case rest =>
                    as_aux_lemma =>
                      obtain ⟨rfl, HWC181⟩ := hcut
                      rename World => W186
                      have hd := HWC181.out
                      replace HOA := Lib.hid (HOA.out.below hd)
                      replace HD := Lib.hid (HD.out.trans (hd.mono HD.out.size))
                      clear hd
                      cases b179
                      · replace HM := Lib.hid (ifF Bool.false_ne_true HM.out)
                        obtain ⟨y189, hy187, hm⟩ := obind HM.out
                        replace HM := Lib.hid hm; clear hm
                        obtain ⟨A190, cap191, he, _⟩ := HP.open_I HOA.out (List.Mem.tail _ (List.Mem.head _))
                        subst he
                        have HC188 := R1_Twice_ok W186 cap191 (HP.rd_I HOA.out (List.Mem.tail _ (List.Mem.head _))) (HP.cap_I HOA.out (List.Mem.tail _ (List.Mem.head _))) hy187
                        clear hy187
                        replace HC188 := Lib.hid HC188
                        go_wp2_with fail
                        refine HC188.out.mono ?_; rintro e W192 ⟨rfl, hd⟩
                        replace HOA := Lib.hid (HOA.out.below (hd.below _))
                        replace HD := Lib.hid (HD.out.trans ((hd.below _).mono HD.out.size))
                        clear hd
                        replace HM := Lib.hid (ifF (by decide) HM.out)
                        obtain ⟨b193, hb, hm⟩ := obind HM.out
                        replace HM := Lib.hid hm; have HB194 := Lib.hid hb; clear hm hb
                        obtain ⟨b195, hb, hm⟩ := obind HB194.out
                        replace HB194 := Lib.hid hm; have HB196 := Lib.hid hb; clear hm hb
                        cases y189
                        · replace HB196 := Lib.hid (ifF Bool.false_ne_true HB196.out)
                          obtain ⟨y199, hy197, hm⟩ := obind HB196.out
                          replace HB196 := Lib.hid hm; clear hm
                          obtain ⟨A200, cap201, he, _⟩ := HP.open_I HOA.out (List.Mem.tail _ (List.Mem.tail _ (List.Mem.tail _ (List.Mem.tail _ (List.Mem.tail _ (List.Mem.head _))))))
                          subst he
                          obtain ⟨A202, cap203, he, _⟩ := HP.open_I HOA.out (List.Mem.tail _ (List.Mem.tail _ (List.Mem.head _)))
                          subst he
                          have HC198 := SE_Ints_ok W192 cap201 (HP.rd_I HOA.out (List.Mem.tail _ (List.Mem.tail _ (List.Mem.tail _ (List.Mem.tail _ (List.Mem.tail _ (List.Mem.head _))))))) cap203 (HP.rd_I HOA.out (List.Mem.tail _ (List.Mem.tail _ (List.Mem.head _)))) hy197
                          clear hy197
                          replace HC198 := Lib.hid HC198
                          go_wp2_with fail
                          refine HC198.out.mono ?_; rintro e W204 ⟨rfl, hd⟩
                          replace HOA := Lib.hid (HOA.out.below (hd.below _))
                          replace HD := Lib.hid (HD.out.trans ((hd.below _).mono HD.out.size))
                          clear hd
                          cases y199
                          · replace HB196 := Lib.hid (ifF Bool.false_ne_true HB196.out)
                            obtain rfl := Option.some.inj HB196.out
                            replace HB194 := Lib.hid (ifF (by first | exact Bool.false_ne_true | exact not_false) HB194.out)
                            obtain rfl := Option.some.inj HB194.out
                            obtain rfl := Option.some.inj HM.out
                            go_wp2_with fail
                            go_ret
                            exact ⟨rfl, HD.out⟩
                          · replace HB196 := Lib.hid (ifT rfl HB196.out)
                            obtain rfl := Option.some.inj HB196.out
                            replace HB194 := Lib.hid (ifT (by first | rfl | trivial) HB194.out)
                            obtain ⟨y205, hy206, hm⟩ := obind HB194.out
                            replace HB194 := Lib.hid hm; clear hm
                            obtain ⟨f207, hy206⟩ := tk_some hy206; subst hy206
                            obtain ⟨A208, n213, cap209, hsl210, hrs, hcs, hns⟩ := ReadsI.sliceU (HP.rd_I HOA.out (List.Mem.tail _ (List.Mem.tail _ (List.Mem.tail _ (List.Mem.tail _ (List.Mem.tail _ (List.Mem.head _))))))) (HP.cap_I HOA.out (List.Mem.tail _ (List.Mem.tail _ (List.Mem.tail _ (List.Mem.tail _ (List.Mem.tail _ (List.Mem.head _))))))) f207
                            have HR211 := Lib.hid hrs; have HCAP212 := Lib.hid hcs; have HN214 := Lib.hid hns; clear hrs hcs hns f207
                            obtain ⟨y217, hy215, hm⟩ := obind HB194.out
                            replace HB194 := Lib.hid hm; clear hm
                            obtain ⟨A218, cap219, he, _⟩ := HP.open_I HOA.out (List.Mem.head _)
                            subst he
                            have HC216 := SE_Ints_ok W204 cap219 (HP.rd_I HOA.out (List.Mem.head _)) cap209 HR211.out hy215
                            clear hy215
                            simp only [← HN214.out] at HC216
                            replace HC216 := Lib.hid HC216
                            go_wp2_with fail
                            refine HC216.out.mono ?_; rintro e W220 ⟨rfl, hd⟩
                            try clear hsl210
                            replace HOA := Lib.hid (HOA.out.below (hd.below _))
                            replace HR211 := Lib.hid (rdI (hd.below _) HR211.out)
                            replace HD := Lib.hid (HD.out.trans ((hd.below _).mono HD.out.size))
                            clear hd
                            cases y217
                            · replace HB194 := Lib.hid (ifF Bool.false_ne_true HB194.out)
                              obtain rfl := Option.some.inj HB194.out
                              obtain rfl := Option.some.inj HM.out
                              go_wp2_with fail
                              go_ret
                              exact ⟨rfl, HD.out⟩
                            · replace HB194 := Lib.hid (ifT rfl HB194.out)
                              obtain rfl := Option.some.inj HB194.out
                              obtain rfl := Option.some.inj HM.out
                              go_wp2_with fail
                              go_ret
                              exact ⟨rfl, HD.out⟩
                        · replace HB196 := Lib.hid (ifT rfl HB196.out)
                          obtain rfl := Option.some.inj HB196.out
                          replace HB194 := Lib.hid (ifF (by first | exact Bool.false_ne_true | exact not_false) HB194.out)
                          obtain rfl := Option.some.inj HB194.out
                          obtain rfl := Option.some.inj HM.out
                          go_wp2_with fail
                          go_ret
                          exact ⟨rfl, HD.out⟩
                      · replace HM := Lib.hid (ifT rfl HM.out)
                        obtain rfl := Option.some.inj HM.out
                        go_wp2_with fail
                        go_ret
                        exact ⟨rfl, HD.out⟩
                · rw [errV_pos _ hz171] at HC168; replace HC168 := Lib.hid HC168
                  go_wp2_with fail
                  refine HC168.out.mono ?_; rintro e W175 ⟨V176, rfl, ho, hd⟩
                  replace HOA := Lib.hid (HOA.out.call hd HD.out.size ho); clear ho
                  replace HD := Lib.hid (HD.out.trans (hd.mono HD.out.size))
                  clear hd
                  have HZ178 := Lib.hid hz171; clear hz171
                  go_upto_region 10 with (fail)
                  obtain ⟨b221, hb, hm⟩ := obind HM.out
                  replace HM := Lib.hid hm; have HB222 := Lib.hid hb; clear hm hb
                  go_cut [76] (fun uq wr => uq = .bool b221 ∧ Hid (Below W175.heap.size W175 wr))
                  case first =>
                    have HWC223 := Lib.hid (Below.refl W175.heap.size W175)
                    obtain ⟨b224, hb, hm⟩ := obind HB222.out
                    replace HB222 := Lib.hid hm; have HB225 := Lib.hid hb; clear hm hb
                    obtain ⟨b226, hb, hm⟩ := obind HB225.out
                    replace HB225 := Lib.hid hm; have HB227 := Lib.hid hb; clear hm hb
                    replace HB227 := Lib.hid (ifT (bne_iff_ne.2 HZ62.out) HB227.out)
                    obtain rfl := Option.some.inj HB227.out
                    replace HB225 := Lib.hid (ifT (by first | rfl | trivial) HB225.out)
                    obtain rfl := Option.some.inj HB225.out
                    replace HB222 := Lib.hid (ifT (by first | rfl | trivial) HB222.out)
                    cases Option.some.inj HB222.out
                    try go_wp2_with fail
                    go_meet
                    case rel => exact ⟨rfl, HWC223⟩
                  case rest =>
                    as_aux_lemma =>
                      obtain ⟨rfl, HWC223⟩ := hcut
                      rename World => W228
                      have hd := HWC223.out
                      replace HOA := Lib.hid (HOA.out.below hd)
                      replace HD := Lib.hid (HD.out.trans (hd.mono HD.out.size))
                      clear hd
                      cases b221
                      · replace HM := Lib.hid (ifF Bool.false_ne_true HM.out)
                        obtain ⟨y231, hy229, hm⟩ := obind HM.out
                        replace HM := Lib.hid hm; clear hm
                        obtain ⟨A232, cap233, he, _⟩ := HP.open_I HOA.out (List.Mem.tail _ (List.Mem.head _))
                        subst he
                        have HC230 := R1_Twice_ok W228 cap233 (HP.rd_I HOA.out (List.Mem.tail _ (List.Mem.head _))) (HP.cap_I HOA.out (List.Mem.tail _ (List.Mem.head _))) hy229
                        clear hy229
                        replace HC230 := Lib.hid HC230
                        go_wp2_with fail
                        refine HC230.out.mono ?_; rintro e W234 ⟨rfl, hd⟩
                        replace HOA := Lib.hid (HOA.out.below (hd.below _))
                        replace HD := Lib.hid (HD.out.trans ((hd.below _).mono HD.out.size))
                        clear hd
                        replace HM := Lib.hid (ifF (by decide) HM.out)
                        obtain ⟨b235, hb, hm⟩ := obind HM.out
                        replace HM := Lib.hid hm; have HB236 := Lib.hid hb; clear hm hb
                        obtain ⟨b237, hb, hm⟩ := obind HB236.out
                        replace HB236 := Lib.hid hm; have HB238 := Lib.hid hb; clear hm hb
                        cases y231
                        · replace HB238 := Lib.hid (ifF Bool.false_ne_true HB238.out)
                          obtain ⟨y241, hy239, hm⟩ := obind HB238.out
                          replace HB238 := Lib.hid hm; clear hm
                          obtain ⟨A242, cap243, he, _⟩ := HP.open_I HOA.out (List.Mem.tail _ (List.Mem.tail _ (List.Mem.tail _ (List.Mem.tail _ (List.Mem.tail _ (List.Mem.head _))))))
                          subst he
                          obtain ⟨A244, cap245, he, _⟩ := HP.open_I HOA.out (List.Mem.tail _ (List.Mem.tail _ (List.Mem.head _)))
                          subst he
                          have HC240 := SE_Ints_ok W234 cap243 (HP.rd_I HOA.out (List.Mem.tail _ (List.Mem.tail _ (List.Mem.tail _ (List.Mem.tail _ (List.Mem.tail _ (List.Mem.head _))))))) cap245 (HP.rd_I HOA.out (List.Mem.tail _ (List.Mem.tail _ (List.Mem.head _)))) hy239
                          clear hy239
                          replace HC240 := Lib.hid HC240
                          go_wp2_with fail
                          refine HC240.out.mono ?_; rintro e W246 ⟨rfl, hd⟩
                          replace HOA := Lib.hid (HOA.out.below (hd.below _))
                          replace HD := Lib.hid (HD.out.trans ((hd.below _).mono HD.out.size))
                          clear hd
                          cases y241
                          · replace HB238 := Lib.hid (ifF Bool.false_ne_true HB238.out)
                            obtain rfl := Option.some.inj HB238.out
                            replace HB236 := Lib.hid (ifF (by first | exact Bool.false_ne_true | exact not_false) HB236.out)
                            obtain rfl := Option.some.inj HB236.out
                            obtain rfl := Option.some.inj HM.out
                            go_wp2_with fail
                            go_ret
                            exact ⟨rfl, HD.out⟩
                          · replace HB238 := Lib.hid (ifT rfl HB238.out)
                            obtain rfl := Option.some.inj HB238.out
                            replace HB236 := Lib.hid (ifT (by first | rfl | trivial) HB236.out)
                            obtain ⟨y247, hy248, hm⟩ := obind HB236.out
                            replace HB236 := Lib.hid hm; clear hm
                            obtain ⟨f249, hy248⟩ := tk_some hy248; subst hy248
                            obtain ⟨A250, n255, cap251, hsl252, hrs, hcs, hns⟩ := ReadsI.sliceU (HP.rd_I HOA.out (List.Mem.tail _ (List.Mem.tail _ (List.Mem.tail _ (List.Mem.tail _ (List.Mem.tail _ (List.Mem.head _))))))) (HP.cap_I HOA.out (List.Mem.tail _ (List.Mem.tail _ (List.Mem.tail _ (List.Mem.tail _ (List.Mem.tail _ (List.Mem.head _))))))) f249
                            have HR253 := Lib.hid hrs; have HCAP254 := Lib.hid hcs; have HN256 := Lib.hid hns; clear hrs hcs hns f249
                            obtain ⟨y259, hy257, hm⟩ := obind HB236.out
                            replace HB236 := Lib.hid hm; clear hm
                            obtain ⟨A260, cap261, he, _⟩ := HP.open_I HOA.out (List.Mem.head _)
                            subst he
                            have HC258 := SE_Ints_ok W246 cap261 (HP.rd_I HOA.out (List.Mem.head _)) cap251 HR253.out hy257
                            clear hy257
                            simp only [← HN256.out] at HC258
                            replace HC258 := Lib.hid HC258
                            go_wp2_with fail
                            refine HC258.out.mono ?_; rintro e W262 ⟨rfl, hd⟩
                            try clear hsl252
                            replace HOA := Lib.hid (HOA.out.below (hd.below _))
                            replace HR253 := Lib.hid (rdI (hd.below _) HR253.out)
                            replace HD := Lib.hid (HD.out.trans ((hd.below _).mono HD.out.size))
                            clear hd
                            cases y259
                            · replace HB236 := Lib.hid (ifF Bool.false_ne_true HB236.out)
                              obtain rfl := Option.some.inj HB236.out
                              obtain rfl := Option.some.inj HM.out
                              go_wp2_with fail
                              go_ret
                              exact ⟨rfl, HD.out⟩
                            · replace HB236 := Lib.hid (ifT rfl HB236.out)
                              obtain rfl := Option.some.inj HB236.out
                              obtain rfl := Option.some.inj HM.out
                              go_wp2_with fail
                              go_ret
                              exact ⟨rfl, HD.out⟩
                        · replace HB238 := Lib.hid (ifT rfl HB238.out)
                          obtain rfl := Option.some.inj HB238.out
                          replace HB236 := Lib.hid (ifF (by first | exact Bool.false_ne_true | exact not_false) HB236.out)
                          obtain rfl := Option.some.inj HB236.out
                          obtain rfl := Option.some.inj HM.out
                          go_wp2_with fail
                          go_ret
                          exact ⟨rfl, HD.out⟩
                      · replace HM := Lib.hid (ifT rfl HM.out)
                        obtain rfl := Option.some.inj HM.out
                        go_wp2_with fail
                        go_ret
                        exact ⟨rfl, HD.out⟩
            · rw [errV_pos _ hz43] at HC40; replace HC40 := Lib.hid HC40
              go_wp2_with fail
              refine HC40.out.mono ?_; rintro e W47 ⟨V48, rfl, ho, hd⟩
              replace HOA := Lib.hid (HOA.out.call hd HD.out.size ho); clear ho
              replace HD := Lib.hid (HD.out.trans (hd.mono HD.out.size))
              clear hd
              have HZ50 := Lib.hid hz43; clear hz43
              obtain ⟨⟨y265, y266⟩, hy263, hm⟩ := obind HM.out
              dsimp only at hm
              replace HM := Lib.hid hm; clear hm
              have HC264 := tourn_Scores_ok W47 cap1 (rdL HD.out HR1.out) hy263
              clear hy263
              by_cases hz267 : y266 = 0
              · subst hz267
                rw [errV_zero] at HC264; replace HC264 := Lib.hid HC264
                go_wp2_with fail
                refine HC264.out.mono ?_; rintro e W268 ⟨V269, rfl, ho, hd⟩
                replace HOA := Lib.hid (HOA.out.call hd HD.out.size ho); clear ho
                replace HD := Lib.hid (HD.out.trans (hd.mono HD.out.size))
                clear hd
                obtain ⟨⟨y277, y278⟩, hy275, hm⟩ := obind HM.out
                dsimp only at hm
                replace HM := Lib.hid hm; clear hm
                have HC276 := tourn_Kings_ok W268 cap1 (rdL HD.out HR1.out) hy275
                clear hy275
                by_cases hz279 : y278 = 0
                · subst hz279
                  rw [errV_zero] at HC276; replace HC276 := Lib.hid HC276
                  go_wp2_with fail
                  refine HC276.out.mono ?_; rintro e W280 ⟨V281, rfl, ho, hd⟩
                  replace HOA := Lib.hid (HOA.out.call hd HD.out.size ho); clear ho
                  replace HD := Lib.hid (HD.out.trans (hd.mono HD.out.size))
                  clear hd
                  go_upto_region 10 with (fail)
                  obtain ⟨b287, hb, hm⟩ := obind HM.out
                  replace HM := Lib.hid hm; have HB288 := Lib.hid hb; clear hm hb
                  go_cut [76] (fun uq wr => uq = .bool b287 ∧ Hid (Below W280.heap.size W280 wr))
                  case first =>
                    have HWC289 := Lib.hid (Below.refl W280.heap.size W280)
                    obtain ⟨b290, hb, hm⟩ := obind HB288.out
                    replace HB288 := Lib.hid hm; have HB291 := Lib.hid hb; clear hm hb
                    obtain ⟨b292, hb, hm⟩ := obind HB291.out
                    replace HB291 := Lib.hid hm; have HB293 := Lib.hid hb; clear hm hb
                    replace HB293 := Lib.hid (ifF (by decide) HB293.out)
                    replace HB293 := Lib.hid (ifF (by decide) HB293.out)
                    obtain rfl := Option.some.inj HB293.out
                    replace HB291 := Lib.hid (ifF (by first | exact Bool.false_ne_true | exact not_false) HB291.out)
                    obtain ⟨A294, cap295, he, _⟩ := HP.open_I HOA.out (List.Mem.tail _ (List.Mem.head _))
                    subst he
                    rcases Bool.eq_false_or_eq_true (((y265).length : Int) != v0) with hc296 | hc296
                    · replace HB291 := Lib.hid (ifT hc296 HB291.out)
                      have HK297 := Lib.hid hc296
                      obtain rfl := Option.some.inj HB291.out
                      replace HB288 := Lib.hid (ifT (by first | rfl | trivial) HB288.out)
                      cases Option.some.inj HB288.out
                      try go_wp2_with fail
                      go_meet
                      case rel => exact ⟨rfl, HWC289⟩
                    · replace HB291 := Lib.hid (ifF (bF hc296) HB291.out)
                      have HK297 := Lib.hid hc296
                      obtain rfl := Option.some.inj HB291.out
                      replace HB288 := Lib.hid (ifF (by first | exact Bool.false_ne_true | exact not_false) HB288.out)
                      obtain ⟨A298, cap299, he, _⟩ := HP.open_I HOA.out (List.Mem.tail _ (List.Mem.tail _ (List.Mem.tail _ (List.Mem.tail _ (List.Mem.tail _ (List.Mem.head _))))))
                      subst he
                      rcases Bool.eq_false_or_eq_true (((y3).length : Int) != v0) with hc300 | hc300
                      · replace HB288 := Lib.hid (ifT hc300 HB288.out)
                        have HK301 := Lib.hid hc300
                        cases Option.some.inj HB288.out
                        try go_wp2_with fail
                        go_meet
                        case rel => exact ⟨rfl, HWC289⟩
                      · replace HB288 := Lib.hid (ifF (bF hc300) HB288.out)
                        have HK301 := Lib.hid hc300
                        cases Option.some.inj HB288.out
                        try go_wp2_with fail
                        go_meet
                        case rel => exact ⟨rfl, HWC289⟩
                  case rest =>
                    as_aux_lemma =>
                      obtain ⟨rfl, HWC289⟩ := hcut
                      rename World => W302
                      have hd := HWC289.out
                      replace HOA := Lib.hid (HOA.out.below hd)
                      replace HD := Lib.hid (HD.out.trans (hd.mono HD.out.size))
                      clear hd
                      cases b287
                      · replace HM := Lib.hid (ifF Bool.false_ne_true HM.out)
                        obtain ⟨y305, hy303, hm⟩ := obind HM.out
                        replace HM := Lib.hid hm; clear hm
                        obtain ⟨A306, cap307, he, _⟩ := HP.open_I HOA.out (List.Mem.tail _ (List.Mem.head _))
                        subst he
                        have HC304 := R1_Twice_ok W302 cap307 (HP.rd_I HOA.out (List.Mem.tail _ (List.Mem.head _))) (HP.cap_I HOA.out (List.Mem.tail _ (List.Mem.head _))) hy303
                        clear hy303
                        replace HC304 := Lib.hid HC304
                        go_wp2_with fail
                        refine HC304.out.mono ?_; rintro e W308 ⟨rfl, hd⟩
                        replace HOA := Lib.hid (HOA.out.below (hd.below _))
                        replace HD := Lib.hid (HD.out.trans ((hd.below _).mono HD.out.size))
                        clear hd
                        replace HM := Lib.hid (ifT (bne_iff_ne.2 HZ50.out) HM.out)
                        obtain ⟨b309, hb, hm⟩ := obind HM.out
                        replace HM := Lib.hid hm; have HB310 := Lib.hid hb; clear hm hb
                        obtain ⟨y313, hy311, hm⟩ := obind HB310.out
                        replace HB310 := Lib.hid hm; clear hm
                        have HC312 := mErr_ok W308 (HTC.out.go HD.out)  hy311
                        clear hy311
                        rw [errV_pos _ HZ50.out] at HC312
                        replace HC312 := Lib.hid HC312
                        go_wp2_with fail
                        refine HC312.out.mono ?_; rintro e W314 ⟨rfl, hd⟩
                        replace HOA := Lib.hid (HOA.out.below hd)
                        replace HD := Lib.hid (HD.out.trans (hd.mono HD.out.size))
                        clear hd
                        cases y313
                        · replace HB310 := Lib.hid (ifF Bool.false_ne_true HB310.out)
                          obtain rfl := Option.some.inj HB310.out
                          obtain rfl := Option.some.inj HM.out
                          go_wp2_with fail
                          go_ret
                          exact ⟨rfl, HD.out⟩
                        · replace HB310 := Lib.hid (ifT rfl HB310.out)
                          cases y305
                          · replace HB310 := Lib.hid (ifF Bool.false_ne_true HB310.out)
                            obtain rfl := Option.some.inj HB310.out
                            obtain rfl := Option.some.inj HM.out
                            go_wp2_with fail
                            go_ret
                            exact ⟨rfl, HD.out⟩
                          · replace HB310 := Lib.hid (ifT rfl HB310.out)
                            obtain rfl := Option.some.inj HB310.out
                            obtain rfl := Option.some.inj HM.out
                            go_wp2_with fail
                            go_ret
                            exact ⟨rfl, HD.out⟩
                      · replace HM := Lib.hid (ifT rfl HM.out)
                        obtain rfl := Option.some.inj HM.out
                        go_wp2_with fail
                        go_ret
                        exact ⟨rfl, HD.out⟩
                · rw [errV_pos _ hz279] at HC276; replace HC276 := Lib.hid HC276
                  go_wp2_with fail
                  refine HC276.out.mono ?_; rintro e W283 ⟨V284, rfl, ho, hd⟩
                  replace HOA := Lib.hid (HOA.out.call hd HD.out.size ho); clear ho
                  replace HD := Lib.hid (HD.out.trans (hd.mono HD.out.size))
                  clear hd
                  have HZ286 := Lib.hid hz279; clear hz279
                  go_upto_region 10 with (fail)
                  obtain ⟨b315, hb, hm⟩ := obind HM.out
                  replace HM := Lib.hid hm; have HB316 := Lib.hid hb; clear hm hb
                  go_cut [76] (fun uq wr => uq = .bool b315 ∧ Hid (Below W283.heap.size W283 wr))
                  case first =>
                    have HWC317 := Lib.hid (Below.refl W283.heap.size W283)
                    obtain ⟨b318, hb, hm⟩ := obind HB316.out
                    replace HB316 := Lib.hid hm; have HB319 := Lib.hid hb; clear hm hb
                    obtain ⟨b320, hb, hm⟩ := obind HB319.out
                    replace HB319 := Lib.hid hm; have HB321 := Lib.hid hb; clear hm hb
                    replace HB321 := Lib.hid (ifF (by decide) HB321.out)
                    replace HB321 := Lib.hid (ifT (bne_iff_ne.2 HZ286.out) HB321.out)
                    obtain rfl := Option.some.inj HB321.out
                    replace HB319 := Lib.hid (ifT (by first | rfl | trivial) HB319.out)
                    obtain rfl := Option.some.inj HB319.out
                    replace HB316 := Lib.hid (ifT (by first | rfl | trivial) HB316.out)
                    cases Option.some.inj HB316.out
                    try go_wp2_with fail
                    go_meet
                    case rel => exact ⟨rfl, HWC317⟩
                  case rest =>
                    as_aux_lemma =>
                      obtain ⟨rfl, HWC317⟩ := hcut
                      rename World => W322
                      have hd := HWC317.out
                      replace HOA := Lib.hid (HOA.out.below hd)
                      replace HD := Lib.hid (HD.out.trans (hd.mono HD.out.size))
                      clear hd
                      cases b315
                      · replace HM := Lib.hid (ifF Bool.false_ne_true HM.out)
                        obtain ⟨y325, hy323, hm⟩ := obind HM.out
                        replace HM := Lib.hid hm; clear hm
                        obtain ⟨A326, cap327, he, _⟩ := HP.open_I HOA.out (List.Mem.tail _ (List.Mem.head _))
                        subst he
                        have HC324 := R1_Twice_ok W322 cap327 (HP.rd_I HOA.out (List.Mem.tail _ (List.Mem.head _))) (HP.cap_I HOA.out (List.Mem.tail _ (List.Mem.head _))) hy323
                        clear hy323
                        replace HC324 := Lib.hid HC324
                        go_wp2_with fail
                        refine HC324.out.mono ?_; rintro e W328 ⟨rfl, hd⟩
                        replace HOA := Lib.hid (HOA.out.below (hd.below _))
                        replace HD := Lib.hid (HD.out.trans ((hd.below _).mono HD.out.size))
                        clear hd
                        replace HM := Lib.hid (ifT (bne_iff_ne.2 HZ50.out) HM.out)
                        obtain ⟨b329, hb, hm⟩ := obind HM.out
                        replace HM := Lib.hid hm; have HB330 := Lib.hid hb; clear hm hb
                        obtain ⟨y333, hy331, hm⟩ := obind HB330.out
                        replace HB330 := Lib.hid hm; clear hm
                        have HC332 := mErr_ok W328 (HTC.out.go HD.out)  hy331
                        clear hy331
                        rw [errV_pos _ HZ50.out] at HC332
                        replace HC332 := Lib.hid HC332
                        go_wp2_with fail
                        refine HC332.out.mono ?_; rintro e W334 ⟨rfl, hd⟩
                        replace HOA := Lib.hid (HOA.out.below hd)
                        replace HD := Lib.hid (HD.out.trans (hd.mono HD.out.size))
                        clear hd
                        cases y333
                        · replace HB330 := Lib.hid (ifF Bool.false_ne_true HB330.out)
                          obtain rfl := Option.some.inj HB330.out
                          obtain rfl := Option.some.inj HM.out
                          go_wp2_with fail
                          go_ret
                          exact ⟨rfl, HD.out⟩
                        · replace HB330 := Lib.hid (ifT rfl HB330.out)
                          cases y325
                          · replace HB330 := Lib.hid (ifF Bool.false_ne_true HB330.out)
                            obtain rfl := Option.some.inj HB330.out
                            obtain rfl := Option.some.inj HM.out
                            go_wp2_with fail
                            go_ret
                            exact ⟨rfl, HD.out⟩
                          · replace HB330 := Lib.hid (ifT rfl HB330.out)
                            obtain rfl := Option.some.inj HB330.out
                            obtain rfl := Option.some.inj HM.out
                            go_wp2_with fail
                            go_ret
                            exact ⟨rfl, HD.out⟩
                      · replace HM := Lib.hid (ifT rfl HM.out)
                        obtain rfl := Option.some.inj HM.out
                        go_wp2_with fail
                        go_ret
                        exact ⟨rfl, HD.out⟩
              · rw [errV_pos _ hz267] at HC264; replace HC264 := Lib.hid HC264
                go_wp2_with fail
                refine HC264.out.mono ?_; rintro e W271 ⟨V272, rfl, ho, hd⟩
                replace HOA := Lib.hid (HOA.out.call hd HD.out.size ho); clear ho
                replace HD := Lib.hid (HD.out.trans (hd.mono HD.out.size))
                clear hd
                have HZ274 := Lib.hid hz267; clear hz267
                obtain ⟨⟨y337, y338⟩, hy335, hm⟩ := obind HM.out
                dsimp only at hm
                replace HM := Lib.hid hm; clear hm
                have HC336 := tourn_Kings_ok W271 cap1 (rdL HD.out HR1.out) hy335
                clear hy335
                by_cases hz339 : y338 = 0
                · subst hz339
                  rw [errV_zero] at HC336; replace HC336 := Lib.hid HC336
                  go_wp2_with fail
                  refine HC336.out.mono ?_; rintro e W340 ⟨V341, rfl, ho, hd⟩
                  replace HOA := Lib.hid (HOA.out.call hd HD.out.size ho); clear ho
                  replace HD := Lib.hid (HD.out.trans (hd.mono HD.out.size))
                  clear hd
                  go_upto_region 10 with (fail)
                  obtain ⟨b347, hb, hm⟩ := obind HM.out
                  replace HM := Lib.hid hm; have HB348 := Lib.hid hb; clear hm hb
                  go_cut [76] (fun uq wr => uq = .bool b347 ∧ Hid (Below W340.heap.size W340 wr))
                  case first =>
                    have HWC349 := Lib.hid (Below.refl W340.heap.size W340)
                    obtain ⟨b350, hb, hm⟩ := obind HB348.out
                    replace HB348 := Lib.hid hm; have HB351 := Lib.hid hb; clear hm hb
                    obtain ⟨b352, hb, hm⟩ := obind HB351.out
                    replace HB351 := Lib.hid hm; have HB353 := Lib.hid hb; clear hm hb
                    replace HB353 := Lib.hid (ifT (bne_iff_ne.2 HZ274.out) HB353.out)
                    obtain rfl := Option.some.inj HB353.out
                    replace HB351 := Lib.hid (ifT (by first | rfl | trivial) HB351.out)
                    obtain rfl := Option.some.inj HB351.out
                    replace HB348 := Lib.hid (ifT (by first | rfl | trivial) HB348.out)
                    cases Option.some.inj HB348.out
                    try go_wp2_with fail
                    go_meet
                    case rel => exact ⟨rfl, HWC349⟩
                  case rest =>
                    as_aux_lemma =>
                      obtain ⟨rfl, HWC349⟩ := hcut
                      rename World => W354
                      have hd := HWC349.out
                      replace HOA := Lib.hid (HOA.out.below hd)
                      replace HD := Lib.hid (HD.out.trans (hd.mono HD.out.size))
                      clear hd
                      cases b347
                      · replace HM := Lib.hid (ifF Bool.false_ne_true HM.out)
                        obtain ⟨y357, hy355, hm⟩ := obind HM.out
                        replace HM := Lib.hid hm; clear hm
                        obtain ⟨A358, cap359, he, _⟩ := HP.open_I HOA.out (List.Mem.tail _ (List.Mem.head _))
                        subst he
                        have HC356 := R1_Twice_ok W354 cap359 (HP.rd_I HOA.out (List.Mem.tail _ (List.Mem.head _))) (HP.cap_I HOA.out (List.Mem.tail _ (List.Mem.head _))) hy355
                        clear hy355
                        replace HC356 := Lib.hid HC356
                        go_wp2_with fail
                        refine HC356.out.mono ?_; rintro e W360 ⟨rfl, hd⟩
                        replace HOA := Lib.hid (HOA.out.below (hd.below _))
                        replace HD := Lib.hid (HD.out.trans ((hd.below _).mono HD.out.size))
                        clear hd
                        replace HM := Lib.hid (ifT (bne_iff_ne.2 HZ50.out) HM.out)
                        obtain ⟨b361, hb, hm⟩ := obind HM.out
                        replace HM := Lib.hid hm; have HB362 := Lib.hid hb; clear hm hb
                        obtain ⟨y365, hy363, hm⟩ := obind HB362.out
                        replace HB362 := Lib.hid hm; clear hm
                        have HC364 := mErr_ok W360 (HTC.out.go HD.out)  hy363
                        clear hy363
                        rw [errV_pos _ HZ50.out] at HC364
                        replace HC364 := Lib.hid HC364
                        go_wp2_with fail
                        refine HC364.out.mono ?_; rintro e W366 ⟨rfl, hd⟩
                        replace HOA := Lib.hid (HOA.out.below hd)
                        replace HD := Lib.hid (HD.out.trans (hd.mono HD.out.size))
                        clear hd
                        cases y365
                        · replace HB362 := Lib.hid (ifF Bool.false_ne_true HB362.out)
                          obtain rfl := Option.some.inj HB362.out
                          obtain rfl := Option.some.inj HM.out
                          go_wp2_with fail
                          go_ret
                          exact ⟨rfl, HD.out⟩
                        · replace HB362 := Lib.hid (ifT rfl HB362.out)
                          cases y357
                          · replace HB362 := Lib.hid (ifF Bool.false_ne_true HB362.out)
                            obtain rfl := Option.some.inj HB362.out
                            obtain rfl := Option.some.inj HM.out
                            go_wp2_with fail
                            go_ret
                            exact ⟨rfl, HD.out⟩
                          · replace HB362 := Lib.hid (ifT rfl HB362.out)
                            obtain rfl := Option.some.inj HB362.out
                            obtain rfl := Option.some.inj HM.out
                            go_wp2_with fail
                            go_ret
                            exact ⟨rfl, HD.out⟩
                      · replace HM := Lib.hid (ifT rfl HM.out)
                        obtain rfl := Option.some.inj HM.out
                        go_wp2_with fail
                        go_ret
                        exact ⟨rfl, HD.out⟩
                · rw [errV_pos _ hz339] at HC336; replace HC336 := Lib.hid HC336
                  go_wp2_with fail
                  refine HC336.out.mono ?_; rintro e W343 ⟨V344, rfl, ho, hd⟩
                  replace HOA := Lib.hid (HOA.out.call hd HD.out.size ho); clear ho
                  replace HD := Lib.hid (HD.out.trans (hd.mono HD.out.size))
                  clear hd
                  have HZ346 := Lib.hid hz339; clear hz339
                  go_upto_region 10 with (fail)
                  obtain ⟨b367, hb, hm⟩ := obind HM.out
                  replace HM := Lib.hid hm; have HB368 := Lib.hid hb; clear hm hb
                  go_cut [76] (fun uq wr => uq = .bool b367 ∧ Hid (Below W343.heap.size W343 wr))
                  case first =>
                    have HWC369 := Lib.hid (Below.refl W343.heap.size W343)
                    obtain ⟨b370, hb, hm⟩ := obind HB368.out
                    replace HB368 := Lib.hid hm; have HB371 := Lib.hid hb; clear hm hb
                    obtain ⟨b372, hb, hm⟩ := obind HB371.out
                    replace HB371 := Lib.hid hm; have HB373 := Lib.hid hb; clear hm hb
                    replace HB373 := Lib.hid (ifT (bne_iff_ne.2 HZ274.out) HB373.out)
                    obtain rfl := Option.some.inj HB373.out
                    replace HB371 := Lib.hid (ifT (by first | rfl | trivial) HB371.out)
                    obtain rfl := Option.some.inj HB371.out
                    replace HB368 := Lib.hid (ifT (by first | rfl | trivial) HB368.out)
                    cases Option.some.inj HB368.out
                    try go_wp2_with fail
                    go_meet
                    case rel => exact ⟨rfl, HWC369⟩
                  case rest =>
                    as_aux_lemma =>
                      obtain ⟨rfl, HWC369⟩ := hcut
                      rename World => W374
                      have hd := HWC369.out
                      replace HOA := Lib.hid (HOA.out.below hd)
                      replace HD := Lib.hid (HD.out.trans (hd.mono HD.out.size))
                      clear hd
                      cases b367
                      · replace HM := Lib.hid (ifF Bool.false_ne_true HM.out)
                        obtain ⟨y377, hy375, hm⟩ := obind HM.out
                        replace HM := Lib.hid hm; clear hm
                        obtain ⟨A378, cap379, he, _⟩ := HP.open_I HOA.out (List.Mem.tail _ (List.Mem.head _))
                        subst he
                        have HC376 := R1_Twice_ok W374 cap379 (HP.rd_I HOA.out (List.Mem.tail _ (List.Mem.head _))) (HP.cap_I HOA.out (List.Mem.tail _ (List.Mem.head _))) hy375
                        clear hy375
                        replace HC376 := Lib.hid HC376
                        go_wp2_with fail
                        refine HC376.out.mono ?_; rintro e W380 ⟨rfl, hd⟩
                        replace HOA := Lib.hid (HOA.out.below (hd.below _))
                        replace HD := Lib.hid (HD.out.trans ((hd.below _).mono HD.out.size))
                        clear hd
                        replace HM := Lib.hid (ifT (bne_iff_ne.2 HZ50.out) HM.out)
                        obtain ⟨b381, hb, hm⟩ := obind HM.out
                        replace HM := Lib.hid hm; have HB382 := Lib.hid hb; clear hm hb
                        obtain ⟨y385, hy383, hm⟩ := obind HB382.out
                        replace HB382 := Lib.hid hm; clear hm
                        have HC384 := mErr_ok W380 (HTC.out.go HD.out)  hy383
                        clear hy383
                        rw [errV_pos _ HZ50.out] at HC384
                        replace HC384 := Lib.hid HC384
                        go_wp2_with fail
                        refine HC384.out.mono ?_; rintro e W386 ⟨rfl, hd⟩
                        replace HOA := Lib.hid (HOA.out.below hd)
                        replace HD := Lib.hid (HD.out.trans (hd.mono HD.out.size))
                        clear hd
                        cases y385
                        · replace HB382 := Lib.hid (ifF Bool.false_ne_true HB382.out)
                          obtain rfl := Option.some.inj HB382.out
                          obtain rfl := Option.some.inj HM.out
                          go_wp2_with fail
                          go_ret
                          exact ⟨rfl, HD.out⟩
                        · replace HB382 := Lib.hid (ifT rfl HB382.out)
                          cases y377
                          · replace HB382 := Lib.hid (ifF Bool.false_ne_true HB382.out)
                            obtain rfl := Option.some.inj HB382.out
                            obtain rfl := Option.some.inj HM.out
                            go_wp2_with fail
                            go_ret
                            exact ⟨rfl, HD.out⟩
                          · replace HB382 := Lib.hid (ifT rfl HB382.out)
                            obtain rfl := Option.some.inj HB382.out
                            obtain rfl := Option.some.inj HM.out
                            go_wp2_with fail
                            go_ret
                            exact ⟨rfl, HD.out⟩
                      · replace HM := Lib.hid (ifT rfl HM.out)
                        obtain rfl := Option.some.inj HM.out
                        go_wp2_with fail
                        go_ret
                        exact ⟨rfl, HD.out⟩
          · replace HM := Lib.hid (ifT rfl HM.out)
            obtain rfl := Option.some.inj HM.out
            go_wp2_with fail
            go_ret
            exact ⟨rfl, HD.out⟩
    · rw [errV_pos _ hz19] at HC16; replace HC16 := Lib.hid HC16
      go_wp2_with fail
      refine HC16.out.mono ?_; rintro e W23 ⟨V24, rfl, ho, hd⟩
      replace HOA := Lib.hid (HOA.out.call hd HD.out.size ho); clear ho
      replace HD := Lib.hid (HD.out.trans (hd.mono HD.out.size))
      clear hd
      have HZ26 := Lib.hid hz19; clear hz19
      go_upto_region 3 with (fail)
      obtain ⟨b387, hb, hm⟩ := obind HM.out
      replace HM := Lib.hid hm; have HB388 := Lib.hid hb; clear hm hb
      go_cut [35] (fun uq wr => uq = .bool b387 ∧ Hid (Below W23.heap.size W23 wr))
      case first =>
        have HWC389 := Lib.hid (Below.refl W23.heap.size W23)
        replace HB388 := Lib.hid (ifT (bne_iff_ne.2 HZ26.out) HB388.out)
        cases Option.some.inj HB388.out
        try go_wp2_with fail
        go_meet
        case rel => exact ⟨rfl, HWC389⟩
      case rest =>
        as_aux_lemma =>
          obtain ⟨rfl, HWC389⟩ := hcut
          rename World => W390
          have hd := HWC389.out
          replace HOA := Lib.hid (HOA.out.below hd)
          replace HD := Lib.hid (HD.out.trans (hd.mono HD.out.size))
          clear hd
          cases b387
          · replace HM := Lib.hid (ifF Bool.false_ne_true HM.out)
            replace HM := Lib.hid (ifF (by decide) HM.out)
            obtain ⟨⟨y393, y394⟩, hy391, hm⟩ := obind HM.out
            dsimp only at hm
            replace HM := Lib.hid hm; clear hm
            have HC392 := topo_Order_ok W390 cap1 (rdL HD.out HR1.out) hy391
            clear hy391
            by_cases hz395 : y394 = 0
            · subst hz395
              rw [errV_zero] at HC392; replace HC392 := Lib.hid HC392
              go_wp2_with fail
              refine HC392.out.mono ?_; rintro e W396 ⟨V397, rfl, ho, hd⟩
              replace HOA := Lib.hid (HOA.out.call hd HD.out.size ho); clear ho
              replace HD := Lib.hid (HD.out.trans (hd.mono HD.out.size))
              clear hd
              obtain ⟨⟨y405, y406⟩, hy403, hm⟩ := obind HM.out
              dsimp only at hm
              replace HM := Lib.hid hm; clear hm
              have HC404 := tourn_Scores_ok W396 cap1 (rdL HD.out HR1.out) hy403
              clear hy403
              by_cases hz407 : y406 = 0
              · subst hz407
                rw [errV_zero] at HC404; replace HC404 := Lib.hid HC404
                go_wp2_with fail
                refine HC404.out.mono ?_; rintro e W408 ⟨V409, rfl, ho, hd⟩
                replace HOA := Lib.hid (HOA.out.call hd HD.out.size ho); clear ho
                replace HD := Lib.hid (HD.out.trans (hd.mono HD.out.size))
                clear hd
                obtain ⟨⟨y417, y418⟩, hy415, hm⟩ := obind HM.out
                dsimp only at hm
                replace HM := Lib.hid hm; clear hm
                have HC416 := tourn_Kings_ok W408 cap1 (rdL HD.out HR1.out) hy415
                clear hy415
                by_cases hz419 : y418 = 0
                · subst hz419
                  rw [errV_zero] at HC416; replace HC416 := Lib.hid HC416
                  go_wp2_with fail
                  refine HC416.out.mono ?_; rintro e W420 ⟨V421, rfl, ho, hd⟩
                  replace HOA := Lib.hid (HOA.out.call hd HD.out.size ho); clear ho
                  replace HD := Lib.hid (HD.out.trans (hd.mono HD.out.size))
                  clear hd
                  go_upto_region 10 with (fail)
                  obtain ⟨b427, hb, hm⟩ := obind HM.out
                  replace HM := Lib.hid hm; have HB428 := Lib.hid hb; clear hm hb
                  go_cut [76] (fun uq wr => uq = .bool b427 ∧ Hid (Below W420.heap.size W420 wr))
                  case first =>
                    have HWC429 := Lib.hid (Below.refl W420.heap.size W420)
                    obtain ⟨b430, hb, hm⟩ := obind HB428.out
                    replace HB428 := Lib.hid hm; have HB431 := Lib.hid hb; clear hm hb
                    obtain ⟨b432, hb, hm⟩ := obind HB431.out
                    replace HB431 := Lib.hid hm; have HB433 := Lib.hid hb; clear hm hb
                    replace HB433 := Lib.hid (ifF (by decide) HB433.out)
                    replace HB433 := Lib.hid (ifF (by decide) HB433.out)
                    obtain rfl := Option.some.inj HB433.out
                    replace HB431 := Lib.hid (ifF (by first | exact Bool.false_ne_true | exact not_false) HB431.out)
                    obtain ⟨A434, cap435, he, _⟩ := HP.open_I HOA.out (List.Mem.tail _ (List.Mem.head _))
                    subst he
                    rcases Bool.eq_false_or_eq_true (((y405).length : Int) != v0) with hc436 | hc436
                    · replace HB431 := Lib.hid (ifT hc436 HB431.out)
                      have HK437 := Lib.hid hc436
                      obtain rfl := Option.some.inj HB431.out
                      replace HB428 := Lib.hid (ifT (by first | rfl | trivial) HB428.out)
                      cases Option.some.inj HB428.out
                      try go_wp2_with fail
                      go_meet
                      case rel => exact ⟨rfl, HWC429⟩
                    · replace HB431 := Lib.hid (ifF (bF hc436) HB431.out)
                      have HK437 := Lib.hid hc436
                      obtain rfl := Option.some.inj HB431.out
                      replace HB428 := Lib.hid (ifF (by first | exact Bool.false_ne_true | exact not_false) HB428.out)
                      obtain ⟨A438, cap439, he, _⟩ := HP.open_I HOA.out (List.Mem.tail _ (List.Mem.tail _ (List.Mem.tail _ (List.Mem.tail _ (List.Mem.tail _ (List.Mem.head _))))))
                      subst he
                      rcases Bool.eq_false_or_eq_true (((y3).length : Int) != v0) with hc440 | hc440
                      · replace HB428 := Lib.hid (ifT hc440 HB428.out)
                        have HK441 := Lib.hid hc440
                        cases Option.some.inj HB428.out
                        try go_wp2_with fail
                        go_meet
                        case rel => exact ⟨rfl, HWC429⟩
                      · replace HB428 := Lib.hid (ifF (bF hc440) HB428.out)
                        have HK441 := Lib.hid hc440
                        cases Option.some.inj HB428.out
                        try go_wp2_with fail
                        go_meet
                        case rel => exact ⟨rfl, HWC429⟩
                  case rest =>
                    as_aux_lemma =>
                      obtain ⟨rfl, HWC429⟩ := hcut
                      rename World => W442
                      have hd := HWC429.out
                      replace HOA := Lib.hid (HOA.out.below hd)
                      replace HD := Lib.hid (HD.out.trans (hd.mono HD.out.size))
                      clear hd
                      cases b427
                      · replace HM := Lib.hid (ifF Bool.false_ne_true HM.out)
                        obtain ⟨y445, hy443, hm⟩ := obind HM.out
                        replace HM := Lib.hid hm; clear hm
                        obtain ⟨A446, cap447, he, _⟩ := HP.open_I HOA.out (List.Mem.tail _ (List.Mem.head _))
                        subst he
                        have HC444 := R1_Twice_ok W442 cap447 (HP.rd_I HOA.out (List.Mem.tail _ (List.Mem.head _))) (HP.cap_I HOA.out (List.Mem.tail _ (List.Mem.head _))) hy443
                        clear hy443
                        replace HC444 := Lib.hid HC444
                        go_wp2_with fail
                        refine HC444.out.mono ?_; rintro e W448 ⟨rfl, hd⟩
                        replace HOA := Lib.hid (HOA.out.below (hd.below _))
                        replace HD := Lib.hid (HD.out.trans ((hd.below _).mono HD.out.size))
                        clear hd
                        replace HM := Lib.hid (ifF (by decide) HM.out)
                        obtain ⟨b449, hb, hm⟩ := obind HM.out
                        replace HM := Lib.hid hm; have HB450 := Lib.hid hb; clear hm hb
                        obtain ⟨b451, hb, hm⟩ := obind HB450.out
                        replace HB450 := Lib.hid hm; have HB452 := Lib.hid hb; clear hm hb
                        cases y445
                        · replace HB452 := Lib.hid (ifF Bool.false_ne_true HB452.out)
                          obtain ⟨y455, hy453, hm⟩ := obind HB452.out
                          replace HB452 := Lib.hid hm; clear hm
                          obtain ⟨A456, cap457, he, _⟩ := HP.open_I HOA.out (List.Mem.tail _ (List.Mem.tail _ (List.Mem.tail _ (List.Mem.tail _ (List.Mem.tail _ (List.Mem.head _))))))
                          subst he
                          obtain ⟨A458, cap459, he, _⟩ := HP.open_I HOA.out (List.Mem.tail _ (List.Mem.tail _ (List.Mem.head _)))
                          subst he
                          have HC454 := SE_Ints_ok W448 cap457 (HP.rd_I HOA.out (List.Mem.tail _ (List.Mem.tail _ (List.Mem.tail _ (List.Mem.tail _ (List.Mem.tail _ (List.Mem.head _))))))) cap459 (HP.rd_I HOA.out (List.Mem.tail _ (List.Mem.tail _ (List.Mem.head _)))) hy453
                          clear hy453
                          replace HC454 := Lib.hid HC454
                          go_wp2_with fail
                          refine HC454.out.mono ?_; rintro e W460 ⟨rfl, hd⟩
                          replace HOA := Lib.hid (HOA.out.below (hd.below _))
                          replace HD := Lib.hid (HD.out.trans ((hd.below _).mono HD.out.size))
                          clear hd
                          cases y455
                          · replace HB452 := Lib.hid (ifF Bool.false_ne_true HB452.out)
                            obtain rfl := Option.some.inj HB452.out
                            replace HB450 := Lib.hid (ifF (by first | exact Bool.false_ne_true | exact not_false) HB450.out)
                            obtain rfl := Option.some.inj HB450.out
                            obtain rfl := Option.some.inj HM.out
                            go_wp2_with fail
                            go_ret
                            exact ⟨rfl, HD.out⟩
                          · replace HB452 := Lib.hid (ifT rfl HB452.out)
                            obtain rfl := Option.some.inj HB452.out
                            replace HB450 := Lib.hid (ifT (by first | rfl | trivial) HB450.out)
                            obtain ⟨y461, hy462, hm⟩ := obind HB450.out
                            replace HB450 := Lib.hid hm; clear hm
                            obtain ⟨f463, hy462⟩ := tk_some hy462; subst hy462
                            obtain ⟨A464, n469, cap465, hsl466, hrs, hcs, hns⟩ := ReadsI.sliceU (HP.rd_I HOA.out (List.Mem.tail _ (List.Mem.tail _ (List.Mem.tail _ (List.Mem.tail _ (List.Mem.tail _ (List.Mem.head _))))))) (HP.cap_I HOA.out (List.Mem.tail _ (List.Mem.tail _ (List.Mem.tail _ (List.Mem.tail _ (List.Mem.tail _ (List.Mem.head _))))))) f463
                            have HR467 := Lib.hid hrs; have HCAP468 := Lib.hid hcs; have HN470 := Lib.hid hns; clear hrs hcs hns f463
                            obtain ⟨y473, hy471, hm⟩ := obind HB450.out
                            replace HB450 := Lib.hid hm; clear hm
                            obtain ⟨A474, cap475, he, _⟩ := HP.open_I HOA.out (List.Mem.head _)
                            subst he
                            have HC472 := SE_Ints_ok W460 cap475 (HP.rd_I HOA.out (List.Mem.head _)) cap465 HR467.out hy471
                            clear hy471
                            simp only [← HN470.out] at HC472
                            replace HC472 := Lib.hid HC472
                            go_wp2_with fail
                            refine HC472.out.mono ?_; rintro e W476 ⟨rfl, hd⟩
                            try clear hsl466
                            replace HOA := Lib.hid (HOA.out.below (hd.below _))
                            replace HR467 := Lib.hid (rdI (hd.below _) HR467.out)
                            replace HD := Lib.hid (HD.out.trans ((hd.below _).mono HD.out.size))
                            clear hd
                            cases y473
                            · replace HB450 := Lib.hid (ifF Bool.false_ne_true HB450.out)
                              obtain rfl := Option.some.inj HB450.out
                              obtain rfl := Option.some.inj HM.out
                              go_wp2_with fail
                              go_ret
                              exact ⟨rfl, HD.out⟩
                            · replace HB450 := Lib.hid (ifT rfl HB450.out)
                              obtain rfl := Option.some.inj HB450.out
                              obtain rfl := Option.some.inj HM.out
                              go_wp2_with fail
                              go_ret
                              exact ⟨rfl, HD.out⟩
                        · replace HB452 := Lib.hid (ifT rfl HB452.out)
                          obtain rfl := Option.some.inj HB452.out
                          replace HB450 := Lib.hid (ifF (by first | exact Bool.false_ne_true | exact not_false) HB450.out)
                          obtain rfl := Option.some.inj HB450.out
                          obtain rfl := Option.some.inj HM.out
                          go_wp2_with fail
                          go_ret
                          exact ⟨rfl, HD.out⟩
                      · replace HM := Lib.hid (ifT rfl HM.out)
                        obtain rfl := Option.some.inj HM.out
                        go_wp2_with fail
                        go_ret
                        exact ⟨rfl, HD.out⟩
                · rw [errV_pos _ hz419] at HC416; replace HC416 := Lib.hid HC416
                  go_wp2_with fail
                  refine HC416.out.mono ?_; rintro e W423 ⟨V424, rfl, ho, hd⟩
                  replace HOA := Lib.hid (HOA.out.call hd HD.out.size ho); clear ho
                  replace HD := Lib.hid (HD.out.trans (hd.mono HD.out.size))
                  clear hd
                  have HZ426 := Lib.hid hz419; clear hz419
                  go_upto_region 10 with (fail)
                  obtain ⟨b477, hb, hm⟩ := obind HM.out
                  replace HM := Lib.hid hm; have HB478 := Lib.hid hb; clear hm hb
                  go_cut [76] (fun uq wr => uq = .bool b477 ∧ Hid (Below W423.heap.size W423 wr))
                  case first =>
                    have HWC479 := Lib.hid (Below.refl W423.heap.size W423)
                    obtain ⟨b480, hb, hm⟩ := obind HB478.out
                    replace HB478 := Lib.hid hm; have HB481 := Lib.hid hb; clear hm hb
                    obtain ⟨b482, hb, hm⟩ := obind HB481.out
                    replace HB481 := Lib.hid hm; have HB483 := Lib.hid hb; clear hm hb
                    replace HB483 := Lib.hid (ifF (by decide) HB483.out)
                    replace HB483 := Lib.hid (ifT (bne_iff_ne.2 HZ426.out) HB483.out)
                    obtain rfl := Option.some.inj HB483.out
                    replace HB481 := Lib.hid (ifT (by first | rfl | trivial) HB481.out)
                    obtain rfl := Option.some.inj HB481.out
                    replace HB478 := Lib.hid (ifT (by first | rfl | trivial) HB478.out)
                    cases Option.some.inj HB478.out
                    try go_wp2_with fail
                    go_meet
                    case rel => exact ⟨rfl, HWC479⟩
                  case rest =>
                    as_aux_lemma =>
                      obtain ⟨rfl, HWC479⟩ := hcut
                      rename World => W484
                      have hd := HWC479.out
                      replace HOA := Lib.hid (HOA.out.below hd)
                      replace HD := Lib.hid (HD.out.trans (hd.mono HD.out.size))
                      clear hd
                      cases b477
                      · replace HM := Lib.hid (ifF Bool.false_ne_true HM.out)
                        obtain ⟨y487, hy485, hm⟩ := obind HM.out
                        replace HM := Lib.hid hm; clear hm
                        obtain ⟨A488, cap489, he, _⟩ := HP.open_I HOA.out (List.Mem.tail _ (List.Mem.head _))
                        subst he
                        have HC486 := R1_Twice_ok W484 cap489 (HP.rd_I HOA.out (List.Mem.tail _ (List.Mem.head _))) (HP.cap_I HOA.out (List.Mem.tail _ (List.Mem.head _))) hy485
                        clear hy485
                        replace HC486 := Lib.hid HC486
                        go_wp2_with fail
                        refine HC486.out.mono ?_; rintro e W490 ⟨rfl, hd⟩
                        replace HOA := Lib.hid (HOA.out.below (hd.below _))
                        replace HD := Lib.hid (HD.out.trans ((hd.below _).mono HD.out.size))
                        clear hd
                        replace HM := Lib.hid (ifF (by decide) HM.out)
                        obtain ⟨b491, hb, hm⟩ := obind HM.out
                        replace HM := Lib.hid hm; have HB492 := Lib.hid hb; clear hm hb
                        obtain ⟨b493, hb, hm⟩ := obind HB492.out
                        replace HB492 := Lib.hid hm; have HB494 := Lib.hid hb; clear hm hb
                        cases y487
                        · replace HB494 := Lib.hid (ifF Bool.false_ne_true HB494.out)
                          obtain ⟨y497, hy495, hm⟩ := obind HB494.out
                          replace HB494 := Lib.hid hm; clear hm
                          obtain ⟨A498, cap499, he, _⟩ := HP.open_I HOA.out (List.Mem.tail _ (List.Mem.tail _ (List.Mem.tail _ (List.Mem.tail _ (List.Mem.tail _ (List.Mem.head _))))))
                          subst he
                          obtain ⟨A500, cap501, he, _⟩ := HP.open_I HOA.out (List.Mem.tail _ (List.Mem.tail _ (List.Mem.head _)))
                          subst he
                          have HC496 := SE_Ints_ok W490 cap499 (HP.rd_I HOA.out (List.Mem.tail _ (List.Mem.tail _ (List.Mem.tail _ (List.Mem.tail _ (List.Mem.tail _ (List.Mem.head _))))))) cap501 (HP.rd_I HOA.out (List.Mem.tail _ (List.Mem.tail _ (List.Mem.head _)))) hy495
                          clear hy495
                          replace HC496 := Lib.hid HC496
                          go_wp2_with fail
                          refine HC496.out.mono ?_; rintro e W502 ⟨rfl, hd⟩
                          replace HOA := Lib.hid (HOA.out.below (hd.below _))
                          replace HD := Lib.hid (HD.out.trans ((hd.below _).mono HD.out.size))
                          clear hd
                          cases y497
                          · replace HB494 := Lib.hid (ifF Bool.false_ne_true HB494.out)
                            obtain rfl := Option.some.inj HB494.out
                            replace HB492 := Lib.hid (ifF (by first | exact Bool.false_ne_true | exact not_false) HB492.out)
                            obtain rfl := Option.some.inj HB492.out
                            obtain rfl := Option.some.inj HM.out
                            go_wp2_with fail
                            go_ret
                            exact ⟨rfl, HD.out⟩
                          · replace HB494 := Lib.hid (ifT rfl HB494.out)
                            obtain rfl := Option.some.inj HB494.out
                            replace HB492 := Lib.hid (ifT (by first | rfl | trivial) HB492.out)
                            obtain ⟨y503, hy504, hm⟩ := obind HB492.out
                            replace HB492 := Lib.hid hm; clear hm
                            obtain ⟨f505, hy504⟩ := tk_some hy504; subst hy504
                            obtain ⟨A506, n511, cap507, hsl508, hrs, hcs, hns⟩ := ReadsI.sliceU (HP.rd_I HOA.out (List.Mem.tail _ (List.Mem.tail _ (List.Mem.tail _ (List.Mem.tail _ (List.Mem.tail _ (List.Mem.head _))))))) (HP.cap_I HOA.out (List.Mem.tail _ (List.Mem.tail _ (List.Mem.tail _ (List.Mem.tail _ (List.Mem.tail _ (List.Mem.head _))))))) f505
                            have HR509 := Lib.hid hrs; have HCAP510 := Lib.hid hcs; have HN512 := Lib.hid hns; clear hrs hcs hns f505
                            obtain ⟨y515, hy513, hm⟩ := obind HB492.out
                            replace HB492 := Lib.hid hm; clear hm
                            obtain ⟨A516, cap517, he, _⟩ := HP.open_I HOA.out (List.Mem.head _)
                            subst he
                            have HC514 := SE_Ints_ok W502 cap517 (HP.rd_I HOA.out (List.Mem.head _)) cap507 HR509.out hy513
                            clear hy513
                            simp only [← HN512.out] at HC514
                            replace HC514 := Lib.hid HC514
                            go_wp2_with fail
                            refine HC514.out.mono ?_; rintro e W518 ⟨rfl, hd⟩
                            try clear hsl508
                            replace HOA := Lib.hid (HOA.out.below (hd.below _))
                            replace HR509 := Lib.hid (rdI (hd.below _) HR509.out)
                            replace HD := Lib.hid (HD.out.trans ((hd.below _).mono HD.out.size))
                            clear hd
                            cases y515
                            · replace HB492 := Lib.hid (ifF Bool.false_ne_true HB492.out)
                              obtain rfl := Option.some.inj HB492.out
                              obtain rfl := Option.some.inj HM.out
                              go_wp2_with fail
                              go_ret
                              exact ⟨rfl, HD.out⟩
                            · replace HB492 := Lib.hid (ifT rfl HB492.out)
                              obtain rfl := Option.some.inj HB492.out
                              obtain rfl := Option.some.inj HM.out
                              go_wp2_with fail
                              go_ret
                              exact ⟨rfl, HD.out⟩
                        · replace HB494 := Lib.hid (ifT rfl HB494.out)
                          obtain rfl := Option.some.inj HB494.out
                          replace HB492 := Lib.hid (ifF (by first | exact Bool.false_ne_true | exact not_false) HB492.out)
                          obtain rfl := Option.some.inj HB492.out
                          obtain rfl := Option.some.inj HM.out
                          go_wp2_with fail
                          go_ret
                          exact ⟨rfl, HD.out⟩
                      · replace HM := Lib.hid (ifT rfl HM.out)
                        obtain rfl := Option.some.inj HM.out
                        go_wp2_with fail
                        go_ret
                        exact ⟨rfl, HD.out⟩
              · rw [errV_pos _ hz407] at HC404; replace HC404 := Lib.hid HC404
                go_wp2_with fail
                refine HC404.out.mono ?_; rintro e W411 ⟨V412, rfl, ho, hd⟩
                replace HOA := Lib.hid (HOA.out.call hd HD.out.size ho); clear ho
                replace HD := Lib.hid (HD.out.trans (hd.mono HD.out.size))
                clear hd
                have HZ414 := Lib.hid hz407; clear hz407
                obtain ⟨⟨y521, y522⟩, hy519, hm⟩ := obind HM.out
                dsimp only at hm
                replace HM := Lib.hid hm; clear hm
                have HC520 := tourn_Kings_ok W411 cap1 (rdL HD.out HR1.out) hy519
                clear hy519
                by_cases hz523 : y522 = 0
                · subst hz523
                  rw [errV_zero] at HC520; replace HC520 := Lib.hid HC520
                  go_wp2_with fail
                  refine HC520.out.mono ?_; rintro e W524 ⟨V525, rfl, ho, hd⟩
                  replace HOA := Lib.hid (HOA.out.call hd HD.out.size ho); clear ho
                  replace HD := Lib.hid (HD.out.trans (hd.mono HD.out.size))
                  clear hd
                  go_upto_region 10 with (fail)
                  obtain ⟨b531, hb, hm⟩ := obind HM.out
                  replace HM := Lib.hid hm; have HB532 := Lib.hid hb; clear hm hb
                  go_cut [76] (fun uq wr => uq = .bool b531 ∧ Hid (Below W524.heap.size W524 wr))
                  case first =>
                    have HWC533 := Lib.hid (Below.refl W524.heap.size W524)
                    obtain ⟨b534, hb, hm⟩ := obind HB532.out
                    replace HB532 := Lib.hid hm; have HB535 := Lib.hid hb; clear hm hb
                    obtain ⟨b536, hb, hm⟩ := obind HB535.out
                    replace HB535 := Lib.hid hm; have HB537 := Lib.hid hb; clear hm hb
                    replace HB537 := Lib.hid (ifT (bne_iff_ne.2 HZ414.out) HB537.out)
                    obtain rfl := Option.some.inj HB537.out
                    replace HB535 := Lib.hid (ifT (by first | rfl | trivial) HB535.out)
                    obtain rfl := Option.some.inj HB535.out
                    replace HB532 := Lib.hid (ifT (by first | rfl | trivial) HB532.out)
                    cases Option.some.inj HB532.out
                    try go_wp2_with fail
                    go_meet
                    case rel => exact ⟨rfl, HWC533⟩
                  case rest =>
                    as_aux_lemma =>
                      obtain ⟨rfl, HWC533⟩ := hcut
                      rename World => W538
                      have hd := HWC533.out
                      replace HOA := Lib.hid (HOA.out.below hd)
                      replace HD := Lib.hid (HD.out.trans (hd.mono HD.out.size))
                      clear hd
                      cases b531
                      · replace HM := Lib.hid (ifF Bool.false_ne_true HM.out)
                        obtain ⟨y541, hy539, hm⟩ := obind HM.out
                        replace HM := Lib.hid hm; clear hm
                        obtain ⟨A542, cap543, he, _⟩ := HP.open_I HOA.out (List.Mem.tail _ (List.Mem.head _))
                        subst he
                        have HC540 := R1_Twice_ok W538 cap543 (HP.rd_I HOA.out (List.Mem.tail _ (List.Mem.head _))) (HP.cap_I HOA.out (List.Mem.tail _ (List.Mem.head _))) hy539
                        clear hy539
                        replace HC540 := Lib.hid HC540
                        go_wp2_with fail
                        refine HC540.out.mono ?_; rintro e W544 ⟨rfl, hd⟩
                        replace HOA := Lib.hid (HOA.out.below (hd.below _))
                        replace HD := Lib.hid (HD.out.trans ((hd.below _).mono HD.out.size))
                        clear hd
                        replace HM := Lib.hid (ifF (by decide) HM.out)
                        obtain ⟨b545, hb, hm⟩ := obind HM.out
                        replace HM := Lib.hid hm; have HB546 := Lib.hid hb; clear hm hb
                        obtain ⟨b547, hb, hm⟩ := obind HB546.out
                        replace HB546 := Lib.hid hm; have HB548 := Lib.hid hb; clear hm hb
                        cases y541
                        · replace HB548 := Lib.hid (ifF Bool.false_ne_true HB548.out)
                          obtain ⟨y551, hy549, hm⟩ := obind HB548.out
                          replace HB548 := Lib.hid hm; clear hm
                          obtain ⟨A552, cap553, he, _⟩ := HP.open_I HOA.out (List.Mem.tail _ (List.Mem.tail _ (List.Mem.tail _ (List.Mem.tail _ (List.Mem.tail _ (List.Mem.head _))))))
                          subst he
                          obtain ⟨A554, cap555, he, _⟩ := HP.open_I HOA.out (List.Mem.tail _ (List.Mem.tail _ (List.Mem.head _)))
                          subst he
                          have HC550 := SE_Ints_ok W544 cap553 (HP.rd_I HOA.out (List.Mem.tail _ (List.Mem.tail _ (List.Mem.tail _ (List.Mem.tail _ (List.Mem.tail _ (List.Mem.head _))))))) cap555 (HP.rd_I HOA.out (List.Mem.tail _ (List.Mem.tail _ (List.Mem.head _)))) hy549
                          clear hy549
                          replace HC550 := Lib.hid HC550
                          go_wp2_with fail
                          refine HC550.out.mono ?_; rintro e W556 ⟨rfl, hd⟩
                          replace HOA := Lib.hid (HOA.out.below (hd.below _))
                          replace HD := Lib.hid (HD.out.trans ((hd.below _).mono HD.out.size))
                          clear hd
                          cases y551
                          · replace HB548 := Lib.hid (ifF Bool.false_ne_true HB548.out)
                            obtain rfl := Option.some.inj HB548.out
                            replace HB546 := Lib.hid (ifF (by first | exact Bool.false_ne_true | exact not_false) HB546.out)
                            obtain rfl := Option.some.inj HB546.out
                            obtain rfl := Option.some.inj HM.out
                            go_wp2_with fail
                            go_ret
                            exact ⟨rfl, HD.out⟩
                          · replace HB548 := Lib.hid (ifT rfl HB548.out)
                            obtain rfl := Option.some.inj HB548.out
                            replace HB546 := Lib.hid (ifT (by first | rfl | trivial) HB546.out)
                            obtain ⟨y557, hy558, hm⟩ := obind HB546.out
                            replace HB546 := Lib.hid hm; clear hm
                            obtain ⟨f559, hy558⟩ := tk_some hy558; subst hy558
                            obtain ⟨A560, n565, cap561, hsl562, hrs, hcs, hns⟩ := ReadsI.sliceU (HP.rd_I HOA.out (List.Mem.tail _ (List.Mem.tail _ (List.Mem.tail _ (List.Mem.tail _ (List.Mem.tail _ (List.Mem.head _))))))) (HP.cap_I HOA.out (List.Mem.tail _ (List.Mem.tail _ (List.Mem.tail _ (List.Mem.tail _ (List.Mem.tail _ (List.Mem.head _))))))) f559
                            have HR563 := Lib.hid hrs; have HCAP564 := Lib.hid hcs; have HN566 := Lib.hid hns; clear hrs hcs hns f559
                            obtain ⟨y569, hy567, hm⟩ := obind HB546.out
                            replace HB546 := Lib.hid hm; clear hm
                            obtain ⟨A570, cap571, he, _⟩ := HP.open_I HOA.out (List.Mem.head _)
                            subst he
                            have HC568 := SE_Ints_ok W556 cap571 (HP.rd_I HOA.out (List.Mem.head _)) cap561 HR563.out hy567
                            clear hy567
                            simp only [← HN566.out] at HC568
                            replace HC568 := Lib.hid HC568
                            go_wp2_with fail
                            refine HC568.out.mono ?_; rintro e W572 ⟨rfl, hd⟩
                            try clear hsl562
                            replace HOA := Lib.hid (HOA.out.below (hd.below _))
                            replace HR563 := Lib.hid (rdI (hd.below _) HR563.out)
                            replace HD := Lib.hid (HD.out.trans ((hd.below _).mono HD.out.size))
                            clear hd
                            cases y569
                            · replace HB546 := Lib.hid (ifF Bool.false_ne_true HB546.out)
                              obtain rfl := Option.some.inj HB546.out
                              obtain rfl := Option.some.inj HM.out
                              go_wp2_with fail
                              go_ret
                              exact ⟨rfl, HD.out⟩
                            · replace HB546 := Lib.hid (ifT rfl HB546.out)
                              obtain rfl := Option.some.inj HB546.out
                              obtain rfl := Option.some.inj HM.out
                              go_wp2_with fail
                              go_ret
                              exact ⟨rfl, HD.out⟩
                        · replace HB548 := Lib.hid (ifT rfl HB548.out)
                          obtain rfl := Option.some.inj HB548.out
                          replace HB546 := Lib.hid (ifF (by first | exact Bool.false_ne_true | exact not_false) HB546.out)
                          obtain rfl := Option.some.inj HB546.out
                          obtain rfl := Option.some.inj HM.out
                          go_wp2_with fail
                          go_ret
                          exact ⟨rfl, HD.out⟩
                      · replace HM := Lib.hid (ifT rfl HM.out)
                        obtain rfl := Option.some.inj HM.out
                        go_wp2_with fail
                        go_ret
                        exact ⟨rfl, HD.out⟩
                · rw [errV_pos _ hz523] at HC520; replace HC520 := Lib.hid HC520
                  go_wp2_with fail
                  refine HC520.out.mono ?_; rintro e W527 ⟨V528, rfl, ho, hd⟩
                  replace HOA := Lib.hid (HOA.out.call hd HD.out.size ho); clear ho
                  replace HD := Lib.hid (HD.out.trans (hd.mono HD.out.size))
                  clear hd
                  have HZ530 := Lib.hid hz523; clear hz523
                  go_upto_region 10 with (fail)
                  obtain ⟨b573, hb, hm⟩ := obind HM.out
                  replace HM := Lib.hid hm; have HB574 := Lib.hid hb; clear hm hb
                  go_cut [76] (fun uq wr => uq = .bool b573 ∧ Hid (Below W527.heap.size W527 wr))
                  case first =>
                    have HWC575 := Lib.hid (Below.refl W527.heap.size W527)
                    obtain ⟨b576, hb, hm⟩ := obind HB574.out
                    replace HB574 := Lib.hid hm; have HB577 := Lib.hid hb; clear hm hb
                    obtain ⟨b578, hb, hm⟩ := obind HB577.out
                    replace HB577 := Lib.hid hm; have HB579 := Lib.hid hb; clear hm hb
                    replace HB579 := Lib.hid (ifT (bne_iff_ne.2 HZ414.out) HB579.out)
                    obtain rfl := Option.some.inj HB579.out
                    replace HB577 := Lib.hid (ifT (by first | rfl | trivial) HB577.out)
                    obtain rfl := Option.some.inj HB577.out
                    replace HB574 := Lib.hid (ifT (by first | rfl | trivial) HB574.out)
                    cases Option.some.inj HB574.out
                    try go_wp2_with fail
                    go_meet
                    case rel => exact ⟨rfl, HWC575⟩
                  case rest =>
                    as_aux_lemma =>
                      obtain ⟨rfl, HWC575⟩ := hcut
                      rename World => W580
                      have hd := HWC575.out
                      replace HOA := Lib.hid (HOA.out.below hd)
                      replace HD := Lib.hid (HD.out.trans (hd.mono HD.out.size))
                      clear hd
                      cases b573
                      · replace HM := Lib.hid (ifF Bool.false_ne_true HM.out)
                        obtain ⟨y583, hy581, hm⟩ := obind HM.out
                        replace HM := Lib.hid hm; clear hm
                        obtain ⟨A584, cap585, he, _⟩ := HP.open_I HOA.out (List.Mem.tail _ (List.Mem.head _))
                        subst he
                        have HC582 := R1_Twice_ok W580 cap585 (HP.rd_I HOA.out (List.Mem.tail _ (List.Mem.head _))) (HP.cap_I HOA.out (List.Mem.tail _ (List.Mem.head _))) hy581
                        clear hy581
                        replace HC582 := Lib.hid HC582
                        go_wp2_with fail
                        refine HC582.out.mono ?_; rintro e W586 ⟨rfl, hd⟩
                        replace HOA := Lib.hid (HOA.out.below (hd.below _))
                        replace HD := Lib.hid (HD.out.trans ((hd.below _).mono HD.out.size))
                        clear hd
                        replace HM := Lib.hid (ifF (by decide) HM.out)
                        obtain ⟨b587, hb, hm⟩ := obind HM.out
                        replace HM := Lib.hid hm; have HB588 := Lib.hid hb; clear hm hb
                        obtain ⟨b589, hb, hm⟩ := obind HB588.out
                        replace HB588 := Lib.hid hm; have HB590 := Lib.hid hb; clear hm hb
                        cases y583
                        · replace HB590 := Lib.hid (ifF Bool.false_ne_true HB590.out)
                          obtain ⟨y593, hy591, hm⟩ := obind HB590.out
                          replace HB590 := Lib.hid hm; clear hm
                          obtain ⟨A594, cap595, he, _⟩ := HP.open_I HOA.out (List.Mem.tail _ (List.Mem.tail _ (List.Mem.tail _ (List.Mem.tail _ (List.Mem.tail _ (List.Mem.head _))))))
                          subst he
                          obtain ⟨A596, cap597, he, _⟩ := HP.open_I HOA.out (List.Mem.tail _ (List.Mem.tail _ (List.Mem.head _)))
                          subst he
                          have HC592 := SE_Ints_ok W586 cap595 (HP.rd_I HOA.out (List.Mem.tail _ (List.Mem.tail _ (List.Mem.tail _ (List.Mem.tail _ (List.Mem.tail _ (List.Mem.head _))))))) cap597 (HP.rd_I HOA.out (List.Mem.tail _ (List.Mem.tail _ (List.Mem.head _)))) hy591
                          clear hy591
                          replace HC592 := Lib.hid HC592
                          go_wp2_with fail
                          refine HC592.out.mono ?_; rintro e W598 ⟨rfl, hd⟩
                          replace HOA := Lib.hid (HOA.out.below (hd.below _))
                          replace HD := Lib.hid (HD.out.trans ((hd.below _).mono HD.out.size))
                          clear hd
                          cases y593
                          · replace HB590 := Lib.hid (ifF Bool.false_ne_true HB590.out)
                            obtain rfl := Option.some.inj HB590.out
                            replace HB588 := Lib.hid (ifF (by first | exact Bool.false_ne_true | exact not_false) HB588.out)
                            obtain rfl := Option.some.inj HB588.out
                            obtain rfl := Option.some.inj HM.out
                            go_wp2_with fail
                            go_ret
                            exact ⟨rfl, HD.out⟩
                          · replace HB590 := Lib.hid (ifT rfl HB590.out)
                            obtain rfl := Option.some.inj HB590.out
                            replace HB588 := Lib.hid (ifT (by first | rfl | trivial) HB588.out)
                            obtain ⟨y599, hy600, hm⟩ := obind HB588.out
                            replace HB588 := Lib.hid hm; clear hm
                            obtain ⟨f601, hy600⟩ := tk_some hy600; subst hy600
                            obtain ⟨A602, n607, cap603, hsl604, hrs, hcs, hns⟩ := ReadsI.sliceU (HP.rd_I HOA.out (List.Mem.tail _ (List.Mem.tail _ (List.Mem.tail _ (List.Mem.tail _ (List.Mem.tail _ (List.Mem.head _))))))) (HP.cap_I HOA.out (List.Mem.tail _ (List.Mem.tail _ (List.Mem.tail _ (List.Mem.tail _ (List.Mem.tail _ (List.Mem.head _))))))) f601
                            have HR605 := Lib.hid hrs; have HCAP606 := Lib.hid hcs; have HN608 := Lib.hid hns; clear hrs hcs hns f601
                            obtain ⟨y611, hy609, hm⟩ := obind HB588.out
                            replace HB588 := Lib.hid hm; clear hm
                            obtain ⟨A612, cap613, he, _⟩ := HP.open_I HOA.out (List.Mem.head _)
                            subst he
                            have HC610 := SE_Ints_ok W598 cap613 (HP.rd_I HOA.out (List.Mem.head _)) cap603 HR605.out hy609
                            clear hy609
                            simp only [← HN608.out] at HC610
                            replace HC610 := Lib.hid HC610
                            go_wp2_with fail
                            refine HC610.out.mono ?_; rintro e W614 ⟨rfl, hd⟩
                            try clear hsl604
                            replace HOA := Lib.hid (HOA.out.below (hd.below _))
                            replace HR605 := Lib.hid (rdI (hd.below _) HR605.out)
                            replace HD := Lib.hid (HD.out.trans ((hd.below _).mono HD.out.size))
                            clear hd
                            cases y611
                            · replace HB588 := Lib.hid (ifF Bool.false_ne_true HB588.out)
                              obtain rfl := Option.some.inj HB588.out
                              obtain rfl := Option.some.inj HM.out
                              go_wp2_with fail
                              go_ret
                              exact ⟨rfl, HD.out⟩
                            · replace HB588 := Lib.hid (ifT rfl HB588.out)
                              obtain rfl := Option.some.inj HB588.out
                              obtain rfl := Option.some.inj HM.out
                              go_wp2_with fail
                              go_ret
                              exact ⟨rfl, HD.out⟩
                        · replace HB590 := Lib.hid (ifT rfl HB590.out)
                          obtain rfl := Option.some.inj HB590.out
                          replace HB588 := Lib.hid (ifF (by first | exact Bool.false_ne_true | exact not_false) HB588.out)
                          obtain rfl := Option.some.inj HB588.out
                          obtain rfl := Option.some.inj HM.out
                          go_wp2_with fail
                          go_ret
                          exact ⟨rfl, HD.out⟩
                      · replace HM := Lib.hid (ifT rfl HM.out)
                        obtain rfl := Option.some.inj HM.out
                        go_wp2_with fail
                        go_ret
                        exact ⟨rfl, HD.out⟩
            · rw [errV_pos _ hz395] at HC392; replace HC392 := Lib.hid HC392
              go_wp2_with fail
              refine HC392.out.mono ?_; rintro e W399 ⟨V400, rfl, ho, hd⟩
              replace HOA := Lib.hid (HOA.out.call hd HD.out.size ho); clear ho
              replace HD := Lib.hid (HD.out.trans (hd.mono HD.out.size))
              clear hd
              have HZ402 := Lib.hid hz395; clear hz395
              obtain ⟨⟨y617, y618⟩, hy615, hm⟩ := obind HM.out
              dsimp only at hm
              replace HM := Lib.hid hm; clear hm
              have HC616 := tourn_Scores_ok W399 cap1 (rdL HD.out HR1.out) hy615
              clear hy615
              by_cases hz619 : y618 = 0
              · subst hz619
                rw [errV_zero] at HC616; replace HC616 := Lib.hid HC616
                go_wp2_with fail
                refine HC616.out.mono ?_; rintro e W620 ⟨V621, rfl, ho, hd⟩
                replace HOA := Lib.hid (HOA.out.call hd HD.out.size ho); clear ho
                replace HD := Lib.hid (HD.out.trans (hd.mono HD.out.size))
                clear hd
                obtain ⟨⟨y629, y630⟩, hy627, hm⟩ := obind HM.out
                dsimp only at hm
                replace HM := Lib.hid hm; clear hm
                have HC628 := tourn_Kings_ok W620 cap1 (rdL HD.out HR1.out) hy627
                clear hy627
                by_cases hz631 : y630 = 0
                · subst hz631
                  rw [errV_zero] at HC628; replace HC628 := Lib.hid HC628
                  go_wp2_with fail
                  refine HC628.out.mono ?_; rintro e W632 ⟨V633, rfl, ho, hd⟩
                  replace HOA := Lib.hid (HOA.out.call hd HD.out.size ho); clear ho
                  replace HD := Lib.hid (HD.out.trans (hd.mono HD.out.size))
                  clear hd
                  go_upto_region 10 with (fail)
                  obtain ⟨b639, hb, hm⟩ := obind HM.out
                  replace HM := Lib.hid hm; have HB640 := Lib.hid hb; clear hm hb
                  go_cut [76] (fun uq wr => uq = .bool b639 ∧ Hid (Below W632.heap.size W632 wr))
                  case first =>
                    have HWC641 := Lib.hid (Below.refl W632.heap.size W632)
                    obtain ⟨b642, hb, hm⟩ := obind HB640.out
                    replace HB640 := Lib.hid hm; have HB643 := Lib.hid hb; clear hm hb
                    obtain ⟨b644, hb, hm⟩ := obind HB643.out
                    replace HB643 := Lib.hid hm; have HB645 := Lib.hid hb; clear hm hb
                    replace HB645 := Lib.hid (ifF (by decide) HB645.out)
                    replace HB645 := Lib.hid (ifF (by decide) HB645.out)
                    obtain rfl := Option.some.inj HB645.out
                    replace HB643 := Lib.hid (ifF (by first | exact Bool.false_ne_true | exact not_false) HB643.out)
                    obtain ⟨A646, cap647, he, _⟩ := HP.open_I HOA.out (List.Mem.tail _ (List.Mem.head _))
                    subst he
                    rcases Bool.eq_false_or_eq_true (((y617).length : Int) != v0) with hc648 | hc648
                    · replace HB643 := Lib.hid (ifT hc648 HB643.out)
                      have HK649 := Lib.hid hc648
                      obtain rfl := Option.some.inj HB643.out
                      replace HB640 := Lib.hid (ifT (by first | rfl | trivial) HB640.out)
                      cases Option.some.inj HB640.out
                      try go_wp2_with fail
                      go_meet
                      case rel => exact ⟨rfl, HWC641⟩
                    · replace HB643 := Lib.hid (ifF (bF hc648) HB643.out)
                      have HK649 := Lib.hid hc648
                      obtain rfl := Option.some.inj HB643.out
                      replace HB640 := Lib.hid (ifF (by first | exact Bool.false_ne_true | exact not_false) HB640.out)
                      obtain ⟨A650, cap651, he, _⟩ := HP.open_I HOA.out (List.Mem.tail _ (List.Mem.tail _ (List.Mem.tail _ (List.Mem.tail _ (List.Mem.tail _ (List.Mem.head _))))))
                      subst he
                      rcases Bool.eq_false_or_eq_true (((y3).length : Int) != v0) with hc652 | hc652
                      · replace HB640 := Lib.hid (ifT hc652 HB640.out)
                        have HK653 := Lib.hid hc652
                        cases Option.some.inj HB640.out
                        try go_wp2_with fail
                        go_meet
                        case rel => exact ⟨rfl, HWC641⟩
                      · replace HB640 := Lib.hid (ifF (bF hc652) HB640.out)
                        have HK653 := Lib.hid hc652
                        cases Option.some.inj HB640.out
                        try go_wp2_with fail
                        go_meet
                        case rel => exact ⟨rfl, HWC641⟩
                  case rest =>
                    as_aux_lemma =>
                      obtain ⟨rfl, HWC641⟩ := hcut
                      rename World => W654
                      have hd := HWC641.out
                      replace HOA := Lib.hid (HOA.out.below hd)
                      replace HD := Lib.hid (HD.out.trans (hd.mono HD.out.size))
                      clear hd
                      cases b639
                      · replace HM := Lib.hid (ifF Bool.false_ne_true HM.out)
                        obtain ⟨y657, hy655, hm⟩ := obind HM.out
                        replace HM := Lib.hid hm; clear hm
                        obtain ⟨A658, cap659, he, _⟩ := HP.open_I HOA.out (List.Mem.tail _ (List.Mem.head _))
                        subst he
                        have HC656 := R1_Twice_ok W654 cap659 (HP.rd_I HOA.out (List.Mem.tail _ (List.Mem.head _))) (HP.cap_I HOA.out (List.Mem.tail _ (List.Mem.head _))) hy655
                        clear hy655
                        replace HC656 := Lib.hid HC656
                        go_wp2_with fail
                        refine HC656.out.mono ?_; rintro e W660 ⟨rfl, hd⟩
                        replace HOA := Lib.hid (HOA.out.below (hd.below _))
                        replace HD := Lib.hid (HD.out.trans ((hd.below _).mono HD.out.size))
                        clear hd
                        replace HM := Lib.hid (ifT (bne_iff_ne.2 HZ402.out) HM.out)
                        obtain ⟨b661, hb, hm⟩ := obind HM.out
                        replace HM := Lib.hid hm; have HB662 := Lib.hid hb; clear hm hb
                        obtain ⟨y665, hy663, hm⟩ := obind HB662.out
                        replace HB662 := Lib.hid hm; clear hm
                        have HC664 := mErr_ok W660 (HTC.out.go HD.out)  hy663
                        clear hy663
                        rw [errV_pos _ HZ402.out] at HC664
                        replace HC664 := Lib.hid HC664
                        go_wp2_with fail
                        refine HC664.out.mono ?_; rintro e W666 ⟨rfl, hd⟩
                        replace HOA := Lib.hid (HOA.out.below hd)
                        replace HD := Lib.hid (HD.out.trans (hd.mono HD.out.size))
                        clear hd
                        cases y665
                        · replace HB662 := Lib.hid (ifF Bool.false_ne_true HB662.out)
                          obtain rfl := Option.some.inj HB662.out
                          obtain rfl := Option.some.inj HM.out
                          go_wp2_with fail
                          go_ret
                          exact ⟨rfl, HD.out⟩
                        · replace HB662 := Lib.hid (ifT rfl HB662.out)
                          cases y657
                          · replace HB662 := Lib.hid (ifF Bool.false_ne_true HB662.out)
                            obtain rfl := Option.some.inj HB662.out
                            obtain rfl := Option.some.inj HM.out
                            go_wp2_with fail
                            go_ret
                            exact ⟨rfl, HD.out⟩
                          · replace HB662 := Lib.hid (ifT rfl HB662.out)
                            obtain rfl := Option.some.inj HB662.out
                            obtain rfl := Option.some.inj HM.out
                            go_wp2_with fail
                            go_ret
                            exact ⟨rfl, HD.out⟩
                      · replace HM := Lib.hid (ifT rfl HM.out)
                        obtain rfl := Option.some.inj HM.out
                        go_wp2_with fail
                        go_ret
                        exact ⟨rfl, HD.out⟩
                · rw [errV_pos _ hz631] at HC628; replace HC628 := Lib.hid HC628
                  go_wp2_with fail
                  refine HC628.out.mono ?_; rintro e W635 ⟨V636, rfl, ho, hd⟩
                  replace HOA := Lib.hid (HOA.out.call hd HD.out.size ho); clear ho
                  replace HD := Lib.hid (HD.out.trans (hd.mono HD.out.size))
                  clear hd
                  have HZ638 := Lib.hid hz631; clear hz631
                  go_upto_region 10 with (fail)
                  obtain ⟨b667, hb, hm⟩ := obind HM.out
                  replace HM := Lib.hid hm; have HB668 := Lib.hid hb; clear hm hb
                  go_cut [76] (fun uq wr => uq = .bool b667 ∧ Hid (Below W635.heap.size W635 wr))
                  case first =>
                    have HWC669 := Lib.hid (Below.refl W635.heap.size W635)
                    obtain ⟨b670, hb, hm⟩ := obind HB668.out
                    replace HB668 := Lib.hid hm; have HB671 := Lib.hid hb; clear hm hb
                    obtain ⟨b672, hb, hm⟩ := obind HB671.out
                    replace HB671 := Lib.hid hm; have HB673 := Lib.hid hb; clear hm hb
                    replace HB673 := Lib.hid (ifF (by decide) HB673.out)
                    replace HB673 := Lib.hid (ifT (bne_iff_ne.2 HZ638.out) HB673.out)
                    obtain rfl := Option.some.inj HB673.out
                    replace HB671 := Lib.hid (ifT (by first | rfl | trivial) HB671.out)
                    obtain rfl := Option.some.inj HB671.out
                    replace HB668 := Lib.hid (ifT (by first | rfl | trivial) HB668.out)
                    cases Option.some.inj HB668.out
                    try go_wp2_with fail
                    go_meet
                    case rel => exact ⟨rfl, HWC669⟩
                  case rest =>
                    as_aux_lemma =>
                      obtain ⟨rfl, HWC669⟩ := hcut
                      rename World => W674
                      have hd := HWC669.out
                      replace HOA := Lib.hid (HOA.out.below hd)
                      replace HD := Lib.hid (HD.out.trans (hd.mono HD.out.size))
                      clear hd
                      cases b667
                      · replace HM := Lib.hid (ifF Bool.false_ne_true HM.out)
                        obtain ⟨y677, hy675, hm⟩ := obind HM.out
                        replace HM := Lib.hid hm; clear hm
                        obtain ⟨A678, cap679, he, _⟩ := HP.open_I HOA.out (List.Mem.tail _ (List.Mem.head _))
                        subst he
                        have HC676 := R1_Twice_ok W674 cap679 (HP.rd_I HOA.out (List.Mem.tail _ (List.Mem.head _))) (HP.cap_I HOA.out (List.Mem.tail _ (List.Mem.head _))) hy675
                        clear hy675
                        replace HC676 := Lib.hid HC676
                        go_wp2_with fail
                        refine HC676.out.mono ?_; rintro e W680 ⟨rfl, hd⟩
                        replace HOA := Lib.hid (HOA.out.below (hd.below _))
                        replace HD := Lib.hid (HD.out.trans ((hd.below _).mono HD.out.size))
                        clear hd
                        replace HM := Lib.hid (ifT (bne_iff_ne.2 HZ402.out) HM.out)
                        obtain ⟨b681, hb, hm⟩ := obind HM.out
                        replace HM := Lib.hid hm; have HB682 := Lib.hid hb; clear hm hb
                        obtain ⟨y685, hy683, hm⟩ := obind HB682.out
                        replace HB682 := Lib.hid hm; clear hm
                        have HC684 := mErr_ok W680 (HTC.out.go HD.out)  hy683
                        clear hy683
                        rw [errV_pos _ HZ402.out] at HC684
                        replace HC684 := Lib.hid HC684
                        go_wp2_with fail
                        refine HC684.out.mono ?_; rintro e W686 ⟨rfl, hd⟩
                        replace HOA := Lib.hid (HOA.out.below hd)
                        replace HD := Lib.hid (HD.out.trans (hd.mono HD.out.size))
                        clear hd
                        cases y685
                        · replace HB682 := Lib.hid (ifF Bool.false_ne_true HB682.out)
                          obtain rfl := Option.some.inj HB682.out
                          obtain rfl := Option.some.inj HM.out
                          go_wp2_with fail
                          go_ret
                          exact ⟨rfl, HD.out⟩
                        · replace HB682 := Lib.hid (ifT rfl HB682.out)
                          cases y677
                          · replace HB682 := Lib.hid (ifF Bool.false_ne_true HB682.out)
                            obtain rfl := Option.some.inj HB682.out
                            obtain rfl := Option.some.inj HM.out
                            go_wp2_with fail
                            go_ret
                            exact ⟨rfl, HD.out⟩
                          · replace HB682 := Lib.hid (ifT rfl HB682.out)
                            obtain rfl := Option.some.inj HB682.out
                            obtain rfl := Option.some.inj HM.out
                            go_wp2_with fail
                            go_ret
                            exact ⟨rfl, HD.out⟩
                      · replace HM := Lib.hid (ifT rfl HM.out)
                        obtain rfl := Option.some.inj HM.out
                        go_wp2_with fail
                        go_ret
                        exact ⟨rfl, HD.out⟩
              · rw [errV_pos _ hz619] at HC616; replace HC616 := Lib.hid HC616
                go_wp2_with fail
                refine HC616.out.mono ?_; rintro e W623 ⟨V624, rfl, ho, hd⟩
                replace HOA := Lib.hid (HOA.out.call hd HD.out.size ho); clear ho
                replace HD := Lib.hid (HD.out.trans (hd.mono HD.out.size))
                clear hd
                have HZ626 := Lib.hid hz619; clear hz619
                obtain ⟨⟨y689, y690⟩, hy687, hm⟩ := obind HM.out
                dsimp only at hm
                replace HM := Lib.hid hm; clear hm
                have HC688 := tourn_Kings_ok W623 cap1 (rdL HD.out HR1.out) hy687
                clear hy687
                by_cases hz691 : y690 = 0
                · subst hz691
                  rw [errV_zero] at HC688; replace HC688 := Lib.hid HC688
                  go_wp2_with fail
                  refine HC688.out.mono ?_; rintro e W692 ⟨V693, rfl, ho, hd⟩
                  replace HOA := Lib.hid (HOA.out.call hd HD.out.size ho); clear ho
                  replace HD := Lib.hid (HD.out.trans (hd.mono HD.out.size))
                  clear hd
                  go_upto_region 10 with (fail)
                  obtain ⟨b699, hb, hm⟩ := obind HM.out
                  replace HM := Lib.hid hm; have HB700 := Lib.hid hb; clear hm hb
                  go_cut [76] (fun uq wr => uq = .bool b699 ∧ Hid (Below W692.heap.size W692 wr))
                  case first =>
                    have HWC701 := Lib.hid (Below.refl W692.heap.size W692)
                    obtain ⟨b702, hb, hm⟩ := obind HB700.out
                    replace HB700 := Lib.hid hm; have HB703 := Lib.hid hb; clear hm hb
                    obtain ⟨b704, hb, hm⟩ := obind HB703.out
                    replace HB703 := Lib.hid hm; have HB705 := Lib.hid hb; clear hm hb
                    replace HB705 := Lib.hid (ifT (bne_iff_ne.2 HZ626.out) HB705.out)
                    obtain rfl := Option.some.inj HB705.out
                    replace HB703 := Lib.hid (ifT (by first | rfl | trivial) HB703.out)
                    obtain rfl := Option.some.inj HB703.out
                    replace HB700 := Lib.hid (ifT (by first | rfl | trivial) HB700.out)
                    cases Option.some.inj HB700.out
                    try go_wp2_with fail
                    go_meet
                    case rel => exact ⟨rfl, HWC701⟩
                  case rest =>
                    as_aux_lemma =>
                      obtain ⟨rfl, HWC701⟩ := hcut
                      rename World => W706
                      have hd := HWC701.out
                      replace HOA := Lib.hid (HOA.out.below hd)
                      replace HD := Lib.hid (HD.out.trans (hd.mono HD.out.size))
                      clear hd
                      cases b699
                      · replace HM := Lib.hid (ifF Bool.false_ne_true HM.out)
                        obtain ⟨y709, hy707, hm⟩ := obind HM.out
                        replace HM := Lib.hid hm; clear hm
                        obtain ⟨A710, cap711, he, _⟩ := HP.open_I HOA.out (List.Mem.tail _ (List.Mem.head _))
                        subst he
                        have HC708 := R1_Twice_ok W706 cap711 (HP.rd_I HOA.out (List.Mem.tail _ (List.Mem.head _))) (HP.cap_I HOA.out (List.Mem.tail _ (List.Mem.head _))) hy707
                        clear hy707
                        replace HC708 := Lib.hid HC708
                        go_wp2_with fail
                        refine HC708.out.mono ?_; rintro e W712 ⟨rfl, hd⟩
                        replace HOA := Lib.hid (HOA.out.below (hd.below _))
                        replace HD := Lib.hid (HD.out.trans ((hd.below _).mono HD.out.size))
                        clear hd
                        replace HM := Lib.hid (ifT (bne_iff_ne.2 HZ402.out) HM.out)
                        obtain ⟨b713, hb, hm⟩ := obind HM.out
                        replace HM := Lib.hid hm; have HB714 := Lib.hid hb; clear hm hb
                        obtain ⟨y717, hy715, hm⟩ := obind HB714.out
                        replace HB714 := Lib.hid hm; clear hm
                        have HC716 := mErr_ok W712 (HTC.out.go HD.out)  hy715
                        clear hy715
                        rw [errV_pos _ HZ402.out] at HC716
                        replace HC716 := Lib.hid HC716
                        go_wp2_with fail
                        refine HC716.out.mono ?_; rintro e W718 ⟨rfl, hd⟩
                        replace HOA := Lib.hid (HOA.out.below hd)
                        replace HD := Lib.hid (HD.out.trans (hd.mono HD.out.size))
                        clear hd
                        cases y717
                        · replace HB714 := Lib.hid (ifF Bool.false_ne_true HB714.out)
                          obtain rfl := Option.some.inj HB714.out
                          obtain rfl := Option.some.inj HM.out
                          go_wp2_with fail
                          go_ret
                          exact ⟨rfl, HD.out⟩
                        · replace HB714 := Lib.hid (ifT rfl HB714.out)
                          cases y709
                          · replace HB714 := Lib.hid (ifF Bool.false_ne_true HB714.out)
                            obtain rfl := Option.some.inj HB714.out
                            obtain rfl := Option.some.inj HM.out
                            go_wp2_with fail
                            go_ret
                            exact ⟨rfl, HD.out⟩
                          · replace HB714 := Lib.hid (ifT rfl HB714.out)
                            obtain rfl := Option.some.inj HB714.out
                            obtain rfl := Option.some.inj HM.out
                            go_wp2_with fail
                            go_ret
                            exact ⟨rfl, HD.out⟩
                      · replace HM := Lib.hid (ifT rfl HM.out)
                        obtain rfl := Option.some.inj HM.out
                        go_wp2_with fail
                        go_ret
                        exact ⟨rfl, HD.out⟩
                · rw [errV_pos _ hz691] at HC688; replace HC688 := Lib.hid HC688
                  go_wp2_with fail
                  refine HC688.out.mono ?_; rintro e W695 ⟨V696, rfl, ho, hd⟩
                  replace HOA := Lib.hid (HOA.out.call hd HD.out.size ho); clear ho
                  replace HD := Lib.hid (HD.out.trans (hd.mono HD.out.size))
                  clear hd
                  have HZ698 := Lib.hid hz691; clear hz691
                  go_upto_region 10 with (fail)
                  obtain ⟨b719, hb, hm⟩ := obind HM.out
                  replace HM := Lib.hid hm; have HB720 := Lib.hid hb; clear hm hb
                  go_cut [76] (fun uq wr => uq = .bool b719 ∧ Hid (Below W695.heap.size W695 wr))
                  case first =>
                    have HWC721 := Lib.hid (Below.refl W695.heap.size W695)
                    obtain ⟨b722, hb, hm⟩ := obind HB720.out
                    replace HB720 := Lib.hid hm; have HB723 := Lib.hid hb; clear hm hb
                    obtain ⟨b724, hb, hm⟩ := obind HB723.out
                    replace HB723 := Lib.hid hm; have HB725 := Lib.hid hb; clear hm hb
                    replace HB725 := Lib.hid (ifT (bne_iff_ne.2 HZ626.out) HB725.out)
                    obtain rfl := Option.some.inj HB725.out
                    replace HB723 := Lib.hid (ifT (by first | rfl | trivial) HB723.out)
                    obtain rfl := Option.some.inj HB723.out
                    replace HB720 := Lib.hid (ifT (by first | rfl | trivial) HB720.out)
                    cases Option.some.inj HB720.out
                    try go_wp2_with fail
                    go_meet
                    case rel => exact ⟨rfl, HWC721⟩
                  case rest =>
                    as_aux_lemma =>
                      obtain ⟨rfl, HWC721⟩ := hcut
                      rename World => W726
                      have hd := HWC721.out
                      replace HOA := Lib.hid (HOA.out.below hd)
                      replace HD := Lib.hid (HD.out.trans (hd.mono HD.out.size))
                      clear hd
                      cases b719
                      · replace HM := Lib.hid (ifF Bool.false_ne_true HM.out)
                        obtain ⟨y729, hy727, hm⟩ := obind HM.out
                        replace HM := Lib.hid hm; clear hm
                        obtain ⟨A730, cap731, he, _⟩ := HP.open_I HOA.out (List.Mem.tail _ (List.Mem.head _))
                        subst he
                        have HC728 := R1_Twice_ok W726 cap731 (HP.rd_I HOA.out (List.Mem.tail _ (List.Mem.head _))) (HP.cap_I HOA.out (List.Mem.tail _ (List.Mem.head _))) hy727
                        clear hy727
                        replace HC728 := Lib.hid HC728
                        go_wp2_with fail
                        refine HC728.out.mono ?_; rintro e W732 ⟨rfl, hd⟩
                        replace HOA := Lib.hid (HOA.out.below (hd.below _))
                        replace HD := Lib.hid (HD.out.trans ((hd.below _).mono HD.out.size))
                        clear hd
                        replace HM := Lib.hid (ifT (bne_iff_ne.2 HZ402.out) HM.out)
                        obtain ⟨b733, hb, hm⟩ := obind HM.out
                        replace HM := Lib.hid hm; have HB734 := Lib.hid hb; clear hm hb
                        obtain ⟨y737, hy735, hm⟩ := obind HB734.out
                        replace HB734 := Lib.hid hm; clear hm
                        have HC736 := mErr_ok W732 (HTC.out.go HD.out)  hy735
                        clear hy735
                        rw [errV_pos _ HZ402.out] at HC736
                        replace HC736 := Lib.hid HC736
                        go_wp2_with fail
                        refine HC736.out.mono ?_; rintro e W738 ⟨rfl, hd⟩
                        replace HOA := Lib.hid (HOA.out.below hd)
                        replace HD := Lib.hid (HD.out.trans (hd.mono HD.out.size))
                        clear hd
                        cases y737
                        · replace HB734 := Lib.hid (ifF Bool.false_ne_true HB734.out)
                          obtain rfl := Option.some.inj HB734.out
                          obtain rfl := Option.some.inj HM.out
                          go_wp2_with fail
                          go_ret
                          exact ⟨rfl, HD.out⟩
                        · replace HB734 := Lib.hid (ifT rfl HB734.out)
                          cases y729
                          · replace HB734 := Lib.hid (ifF Bool.false_ne_true HB734.out)
                            obtain rfl := Option.some.inj HB734.out
                            obtain rfl := Option.some.inj HM.out
                            go_wp2_with fail
                            go_ret
                            exact ⟨rfl, HD.out⟩
                          · replace HB734 := Lib.hid (ifT rfl HB734.out)
                            obtain rfl := Option.some.inj HB734.out
                            obtain rfl := Option.some.inj HM.out
                            go_wp2_with fail
                            go_ret
                            exact ⟨rfl, HD.out⟩
                      · replace HM := Lib.hid (ifT rfl HM.out)
                        obtain rfl := Option.some.inj HM.out
                        go_wp2_with fail
                        go_ret
                        exact ⟨rfl, HD.out⟩
          · replace HM := Lib.hid (ifT rfl HM.out)
            obtain rfl := Option.some.inj HM.out
            go_wp2_with fail
            go_ret
            exact ⟨rfl, HD.out⟩
  · rw [errV_pos _ hz5] at HC2; replace HC2 := Lib.hid HC2
    go_wp2_with fail
    refine HC2.out.mono ?_; rintro e W9 ⟨V10, rfl, ho, hd⟩
    replace HOA := Lib.hid (HOA.out.call hd HD.out.size ho); clear ho
    replace HD := Lib.hid (HD.out.trans (hd.mono HD.out.size))
    clear hd
    have HZ12 := Lib.hid hz5; clear hz5
    have hd : Below W9.heap.size W9 (World.alloc W9 (.cells #[Value.int .i64 (1), Value.int .i64 (0)] 32)) := (Below.refl _ _).alloc (Nat.le_refl _) _
    have ho : (owL (.slice (some ⟨W9.heap.size, 0, none⟩) 1 1) [(1, 0)]).ok (World.alloc W9 (.cells #[Value.int .i64 (1), Value.int .i64 (0)] 32)) W9.heap.size := litL_ok W9 [(1, 0)] (by unfold maxLen; simp)
    replace HOA := Lib.hid (HOA.out.call hd HD.out.size ho); clear ho
    replace HD := Lib.hid (HD.out.trans (hd.mono HD.out.size))
    clear hd
    obtain ⟨⟨y743, y744⟩, hy741, hm⟩ := obind HM.out
    dsimp only at hm
    replace HM := Lib.hid hm; clear hm
    have HC742 := tourn_Row_ok (World.alloc W9 (.cells #[Value.int .i64 (1), Value.int .i64 (0)] 32)) 1 (HP.rd_L HOA.out (List.Mem.head _)) hy741
    clear hy741
    try rw [← HP.len_L HOA.out (List.Mem.head _)] at HC742
    by_cases hz745 : y744 = 0
    · subst hz745
      rw [errV_zero] at HC742; replace HC742 := Lib.hid HC742
      go_wp2_with fail
      refine HC742.out.mono ?_; rintro e W746 ⟨V747, rfl, ho, hd⟩
      replace HOA := Lib.hid (HOA.out.call hd HD.out.size ho); clear ho
      replace HD := Lib.hid (HD.out.trans (hd.mono HD.out.size))
      clear hd
      go_upto_region 3 with (fail)
      obtain ⟨b753, hb, hm⟩ := obind HM.out
      replace HM := Lib.hid hm; have HB754 := Lib.hid hb; clear hm hb
      go_cut [35] (fun uq wr => uq = .bool b753 ∧ Hid (Below W746.heap.size W746 wr))
      case first =>
        have HWC755 := Lib.hid (Below.refl W746.heap.size W746)
        replace HB754 := Lib.hid (ifF (by decide) HB754.out)
        have hd : Below W746.heap.size W746 (World.alloc W746 (.cells #[Value.int .i64 (1), Value.int .i64 (0)] 3)) := (Below.refl _ _).alloc (Nat.le_refl _) _
        have ho : (owI (.slice (some ⟨W746.heap.size, 0, none⟩) 2 2) [1, 0]).ok (World.alloc W746 (.cells #[Value.int .i64 (1), Value.int .i64 (0)] 3)) W746.heap.size := litI_ok W746 [1, 0] (by unfold maxLen; simp)
        replace HOA := Lib.hid (HOA.out.call hd HD.out.size ho); clear ho
        replace HD := Lib.hid (HD.out.trans (hd.mono HD.out.size))
        replace HWC755 := Lib.hid (HWC755.out.trans (hd.mono HWC755.out.size))
        clear hd
        obtain ⟨y760, hy758, hm⟩ := obind HB754.out
        replace HB754 := Lib.hid hm; clear hm
        obtain ⟨A761, cap762, he, _⟩ := HP.open_I HOA.out (List.Mem.tail _ (List.Mem.head _))
        subst he
        have HC759 := SE_Ints_ok (World.alloc W746 (.cells #[Value.int .i64 (1), Value.int .i64 (0)] 3)) cap762 (HP.rd_I HOA.out (List.Mem.tail _ (List.Mem.head _))) 2 (HP.rd_I HOA.out (List.Mem.head _)) hy758
        clear hy758
        try rw [← HP.len_I HOA.out (List.Mem.head _)] at HC759
        replace HC759 := Lib.hid HC759
        go_wp2_with fail
        refine HC759.out.mono ?_; rintro e W763 ⟨rfl, hd⟩
        replace HOA := Lib.hid (HOA.out.below (hd.below _))
        replace HD := Lib.hid (HD.out.trans ((hd.below _).mono HD.out.size))
        replace HWC755 := Lib.hid (HWC755.out.trans ((hd.below _).mono HWC755.out.size))
        clear hd
        cases y760
        · replace HB754 := Lib.hid (ifF Bool.false_ne_true HB754.out)
          cases Option.some.inj HB754.out
          try go_wp2_with fail
          go_meet
          case rel => exact ⟨rfl, HWC755⟩
        · replace HB754 := Lib.hid (ifT rfl HB754.out)
          cases Option.some.inj HB754.out
          try go_wp2_with fail
          go_meet
          case rel => exact ⟨rfl, HWC755⟩
      case rest =>
        as_aux_lemma =>
          obtain ⟨rfl, HWC755⟩ := hcut
          rename World => W764
          have hd := HWC755.out
          replace HOA := Lib.hid (HOA.out.below hd)
          replace HD := Lib.hid (HD.out.trans (hd.mono HD.out.size))
          clear hd
          cases b753
          · replace HM := Lib.hid (ifF Bool.false_ne_true HM.out)
            replace HM := Lib.hid (ifT (bne_iff_ne.2 HZ12.out) HM.out)
            obtain ⟨b765, hb, hm⟩ := obind HM.out
            replace HM := Lib.hid hm; have HB766 := Lib.hid hb; clear hm hb
            obtain ⟨A767, cap768, he, _⟩ := HP.open_I HOA.out (List.Mem.tail _ (List.Mem.tail _ (List.Mem.head _)))
            subst he
            rcases Bool.eq_false_or_eq_true (((y3).length : Int) == 0) with hc769 | hc769
            · replace HB766 := Lib.hid (ifT hc769 HB766.out)
              have HK770 := Lib.hid hc769
              obtain rfl := Option.some.inj HB766.out
              obtain rfl := Option.some.inj HM.out
              go_wp2_with fail
              go_ret
              exact ⟨(by first | rfl | (refine congrArg (fun b => Ending.returned (Value.bool b)) ?_; first | (exact decide_eq_true (by omega)) | (exact decide_eq_false (by omega)) | (have q := hc769; rw [bne_iff_ne] at q ⊢; omega) | (have q := hc769; rw [bne_eq_false_iff_eq] at q ⊢; omega) | (have q := hc769; rw [beq_iff_eq] at q ⊢; omega) | (have q := hc769; rw [beq_eq_false_iff_ne] at q ⊢; omega))), HD.out⟩
            · replace HB766 := Lib.hid (ifF (bF hc769) HB766.out)
              have HK770 := Lib.hid hc769
              obtain rfl := Option.some.inj HB766.out
              obtain rfl := Option.some.inj HM.out
              go_wp2_with fail
              go_ret
              exact ⟨(by first | rfl | (refine congrArg (fun b => Ending.returned (Value.bool b)) ?_; first | (exact decide_eq_true (by omega)) | (exact decide_eq_false (by omega)) | (have q := hc769; rw [bne_iff_ne] at q ⊢; omega) | (have q := hc769; rw [bne_eq_false_iff_eq] at q ⊢; omega) | (have q := hc769; rw [beq_iff_eq] at q ⊢; omega) | (have q := hc769; rw [beq_eq_false_iff_ne] at q ⊢; omega))), HD.out⟩
          · replace HM := Lib.hid (ifT rfl HM.out)
            obtain rfl := Option.some.inj HM.out
            go_wp2_with fail
            go_ret
            exact ⟨rfl, HD.out⟩
    · rw [errV_pos _ hz745] at HC742; replace HC742 := Lib.hid HC742
      go_wp2_with fail
      refine HC742.out.mono ?_; rintro e W749 ⟨V750, rfl, ho, hd⟩
      replace HOA := Lib.hid (HOA.out.call hd HD.out.size ho); clear ho
      replace HD := Lib.hid (HD.out.trans (hd.mono HD.out.size))
      clear hd
      have HZ752 := Lib.hid hz745; clear hz745
      go_upto_region 3 with (fail)
      obtain ⟨b771, hb, hm⟩ := obind HM.out
      replace HM := Lib.hid hm; have HB772 := Lib.hid hb; clear hm hb
      go_cut [35] (fun uq wr => uq = .bool b771 ∧ Hid (Below W749.heap.size W749 wr))
      case first =>
        have HWC773 := Lib.hid (Below.refl W749.heap.size W749)
        replace HB772 := Lib.hid (ifT (bne_iff_ne.2 HZ752.out) HB772.out)
        cases Option.some.inj HB772.out
        try go_wp2_with fail
        go_meet
        case rel => exact ⟨rfl, HWC773⟩
      case rest =>
        as_aux_lemma =>
          obtain ⟨rfl, HWC773⟩ := hcut
          rename World => W774
          have hd := HWC773.out
          replace HOA := Lib.hid (HOA.out.below hd)
          replace HD := Lib.hid (HD.out.trans (hd.mono HD.out.size))
          clear hd
          cases b771
          · replace HM := Lib.hid (ifF Bool.false_ne_true HM.out)
            replace HM := Lib.hid (ifT (bne_iff_ne.2 HZ12.out) HM.out)
            obtain ⟨b775, hb, hm⟩ := obind HM.out
            replace HM := Lib.hid hm; have HB776 := Lib.hid hb; clear hm hb
            obtain ⟨A777, cap778, he, _⟩ := HP.open_I HOA.out (List.Mem.tail _ (List.Mem.tail _ (List.Mem.head _)))
            subst he
            rcases Bool.eq_false_or_eq_true (((y3).length : Int) == 0) with hc779 | hc779
            · replace HB776 := Lib.hid (ifT hc779 HB776.out)
              have HK780 := Lib.hid hc779
              obtain rfl := Option.some.inj HB776.out
              obtain rfl := Option.some.inj HM.out
              go_wp2_with fail
              go_ret
              exact ⟨(by first | rfl | (refine congrArg (fun b => Ending.returned (Value.bool b)) ?_; first | (exact decide_eq_true (by omega)) | (exact decide_eq_false (by omega)) | (have q := hc779; rw [bne_iff_ne] at q ⊢; omega) | (have q := hc779; rw [bne_eq_false_iff_eq] at q ⊢; omega) | (have q := hc779; rw [beq_iff_eq] at q ⊢; omega) | (have q := hc779; rw [beq_eq_false_iff_ne] at q ⊢; omega))), HD.out⟩
            · replace HB776 := Lib.hid (ifF (bF hc779) HB776.out)
              have HK780 := Lib.hid hc779
              obtain rfl := Option.some.inj HB776.out
              obtain rfl := Option.some.inj HM.out
              go_wp2_with fail
              go_ret
              exact ⟨(by first | rfl | (refine congrArg (fun b => Ending.returned (Value.bool b)) ?_; first | (exact decide_eq_true (by omega)) | (exact decide_eq_false (by omega)) | (have q := hc779; rw [bne_iff_ne] at q ⊢; omega) | (have q := hc779; rw [bne_eq_false_iff_eq] at q ⊢; omega) | (have q := hc779; rw [beq_iff_eq] at q ⊢; omega) | (have q := hc779; rw [beq_eq_false_iff_ne] at q ⊢; omega))), HD.out⟩
          · replace HM := Lib.hid (ifT rfl HM.out)
            obtain rfl := Option.some.inj HM.out
            go_wp2_with fail
            go_ret
            exact ⟨rfl, HD.out⟩
end Go.Proofs.YtoiidngnlhhanaaDoor
