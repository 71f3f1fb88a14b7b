import Derived.Test.YtlecmgdkoanghaaDoorCsA
import Derived.Test.YtlecmgdkoanghaaDoorBy
import Derived.Test.YtlecmgdkoanghaaDoorLa
import Derived.Test.YtlecmgdkoanghaaDoorCn
import Derived.Test.YtlecmgdkoanghaaDoorGR
import Derived.Test.YtlecmgdkoanghaaDoorSlc
import Derived.Test.YtlecmgdkoanghaaDoorErr
import Derived.Test.YtlecmgdkoanghaaDoorBox
set_option linter.all false
set_option maxRecDepth 100000
namespace Go.Proofs.YtlecmgdkoanghaaDoor
open Go.RowKit
attribute [local go_sem] Oper.semAt_some
def L3_ColorSays (F : Nat) (v0 : Int) (v1 : List (Int × Int)) (v2 : List Int) : Option (Bool) := (R1_Lines F (v0) (v1)).bind fun y1 => ((if (y1 == 0) = true then some true else some false).bind fun b3 => if b3 = true then (R3_Least F (v0) (v1)).bind fun y4 => (R3_Last F (v0) (v1)).bind fun y5 => some (y5.1, y4, y5.2) else some ([], 0, 0)).bind fun o2 => (color_Least F (v0) (v1)).bind fun y6 => ((mErr (y6.2) (y1)).bind fun y8 => if y8 = true then if (y6.1 == o2.2.1) = true then some true else some false else some false).bind fun b7 => (color_Last F (v0) (v1)).bind fun y9 => (((mErr (y9.2.2) (y1)).bind fun y12 => if y12 = true then (SE_Ints F (y9.1) (o2.1)).bind fun y13 => if y13 = true then some true else some false else some false).bind fun b11 => if b11 = true then if (y9.2.1 == o2.2.2) = true then some true else some false else some false).bind fun b10 => ((if (y1 == 0) = true then if (((v2).length : Int) != v0) = true then some true else some false else some false).bind fun b15 => if b15 = true then some (3) else some (y1)).bind fun o14 => ((if (o14 == 0) = true then (R1_All F (v2) (0) ((wrap64 (v0 - 1)))).bind fun y18 => if y18 = true then some false else some true else some false).bind fun b17 => if b17 = true then some (1) else some (o14)).bind fun o16 => ((if (o16 == 0) = true then (R1_Twice F (v2)).bind fun y21 => if y21 = true then some true else some false else some false).bind fun b20 => if b20 = true then some (6) else some (o16)).bind fun o19 => ((if (o19 == 0) = true then some true else some false).bind fun b23 => if b23 = true then (R3_Colours F (v0) (v1) (v2)).bind fun y24 => some (y24) else some ([])).bind fun o22 => (color_By F (v0) (v1) (v2)).bind fun y25 => (((if b7 = true then if b10 = true then some true else some false else some false).bind fun b28 => if b28 = true then (mErr (y25.2) (o19)).bind fun y29 => if y29 = true then some true else some false else some false).bind fun b27 => if b27 = true then (SE_Ints F (y25.1) (o22)).bind fun y30 => if y30 = true then some true else some false else some false).bind fun b26 => some (b26)
set_option maxRecDepth 100000 in
set_option maxHeartbeats 4000000 in
theorem L3_ColorSays_ok {F : Nat} {v0 : Int} {v1 : List (Int × Int)} {A1 : Option Addr} {v2 : List Int} {A2 : Option Addr} {r : Bool} (w : World) (htc : TyCell w) (cap1 : Nat) (hr1 : ReadsL w w.heap.size A1 v1) (cap2 : Nat) (hr2 : ReadsI w w.heap.size A2 v2) (hcap2 : v2.length ≤ cap2) (h : L3_ColorSays F v0 v1 v2 = some r) :
    Calls Tryd.prog 3 #[.int .i64 v0, .slice A1 v1.length cap1, .slice A2 v2.length cap2] w fun e w' => e = .returned (.bool r) ∧ Below w.heap.size w w' := by
  have HTC := Lib.hid htc; clear htc
  have HR1 := Lib.hid hr1; clear hr1
  have HR2 := Lib.hid hr2; clear hr2
  have HCAP2 := Lib.hid hcap2; clear hcap2
  have HD := Lib.hid (Below.refl w.heap.size w)
  have HOA := Lib.hid (HP.nil (W := w) (B := w.heap.size))
  unfold L3_ColorSays at h
  have HM := Lib.hid h; clear h
  go_enter Tryd.func3, Tryd.ntmps3
  obtain ⟨y3, hy1, hm⟩ := obind HM.out
  replace HM := Lib.hid hm; clear hm
  have HC2 := R1_Lines_ok w cap1 (rdL HD.out HR1.out) hy1
  clear hy1
  replace HC2 := Lib.hid HC2
  go_wp2_with fail
  refine HC2.out.mono ?_; rintro e W4 ⟨rfl, hd⟩
  replace HOA := Lib.hid (HOA.out.below (hd.below _))
  replace HD := Lib.hid (HD.out.trans ((hd.below _).mono HD.out.size))
  clear hd
  replace HOA := Lib.hid (show HP _ _ (.fl (owI (.slice none 0 0) ([])) :: _) from HOA.out.pushNil _ _)
  replace HOA := Lib.hid (show HP _ _ (.fl (owI (.slice none 0 0) ([])) :: _) from HOA.out.pushNil _ _)
  go_upto_region 6 with (fail)
  obtain ⟨⟨x7, x8, x9⟩, ho, hm⟩ := obind HM.out
  try simp only [] at hm
  replace HM := Lib.hid hm; have HJ10 := Lib.hid ho; clear hm ho
  obtain ⟨b11, hb, hm⟩ := obind HJ10.out
  replace HJ10 := Lib.hid hm; have HB12 := Lib.hid hb; clear hm hb
  go_cut [24] (fun uq wr => uq = .bool b11 ∧ Hid (Below W4.heap.size W4 wr))
  case first =>
    have HWC13 := Lib.hid (Below.refl W4.heap.size W4)
    rcases Bool.eq_false_or_eq_true (y3 == 0) with hc14 | hc14
    · replace HB12 := Lib.hid (ifT hc14 HB12.out)
      have HK15 := Lib.hid hc14
      cases Option.some.inj HB12.out
      try go_wp2_with fail
      go_meet
      case rel => exact ⟨rfl, HWC13⟩
    · replace HB12 := Lib.hid (ifF (bF hc14) HB12.out)
      have HK15 := Lib.hid hc14
      cases Option.some.inj HB12.out
      try go_wp2_with fail
      go_meet
      case rel => exact ⟨rfl, HWC13⟩
  case rest =>
    as_aux_lemma =>
      obtain ⟨rfl, HWC13⟩ := hcut
      rename World => W16
      have hd := HWC13.out
      replace HOA := Lib.hid (HOA.out.below hd)
      replace HD := Lib.hid (HD.out.trans (hd.mono HD.out.size))
      clear hd
      go_upto_if 24 with (fail)
      go_cut [10, 11, 12] (fun q18 q19 q20 wr => ∃ (V17 : Value), V17 = q18 ∧ q19 = .int .i64 x8 ∧ q20 = .int .i64 x9 ∧ Hid (Below w.heap.size w wr) ∧ Hid (HP wr w.heap.size [.fl (owI V17 (x7)), .fl (owI (.slice none 0 0) ([]))]) ∧ Hid (Below W16.heap.size W16 wr))
      case first =>
        have HWC21 := Lib.hid (Below.refl W16.heap.size W16)
        cases b11
        · replace HJ10 := Lib.hid (ifF Bool.false_ne_true HJ10.out)
          try go_wp2_with fail
          cases Option.some.inj HJ10.out
          go_meet
          case rel => exact ⟨(.slice none 0 0), rfl, rfl, rfl, HD, HOA, HWC21⟩
        · replace HJ10 := Lib.hid (ifT rfl HJ10.out)
          obtain ⟨y24, hy22, hm⟩ := obind HJ10.out
          replace HJ10 := Lib.hid hm; clear hm
          have HC23 := R3_Least_ok W16 cap1 (rdL HD.out HR1.out) hy22
          clear hy22
          replace HC23 := Lib.hid HC23
          go_wp2_with fail
          refine HC23.out.mono ?_; rintro e W25 ⟨rfl, hd⟩
          replace HOA := Lib.hid (HOA.out.below hd)
          replace HD := Lib.hid (HD.out.trans (hd.mono HD.out.size))
          replace HWC21 := Lib.hid (HWC21.out.trans (hd.mono HWC21.out.size))
          clear hd
          obtain ⟨⟨y28, y29⟩, hy26, hm⟩ := obind HJ10.out
          dsimp only at hm
          replace HJ10 := Lib.hid hm; clear hm
          have HC27 := R3_Last_ok W25 cap1 (rdL HD.out HR1.out) hy26
          clear hy26
          replace HC27 := Lib.hid HC27
          go_wp2_with fail
          refine HC27.out.mono ?_; rintro e W30 ⟨V31, rfl, ho, hd⟩
          replace HOA := Lib.hid (HOA.out.call hd HD.out.size ho); clear ho
          replace HD := Lib.hid (HD.out.trans (hd.mono HD.out.size))
          replace HWC21 := Lib.hid (HWC21.out.trans (hd.mono HWC21.out.size))
          clear hd
          try go_wp2_with fail
          replace HOA := Lib.hid (HOA.out.sub (.cons₂ _ (.cons _ (.cons₂ _ .slnil))))
          cases Option.some.inj HJ10.out
          go_meet
          case rel => exact ⟨V31, rfl, rfl, rfl, HD, HOA, HWC21⟩
      case rest =>
        as_aux_lemma =>
          obtain ⟨V17, rfl, rfl, rfl, HD, HOA, HWC21⟩ := hcut
          rename World => W33
          have hd := HWC21.out
          clear hd
          obtain ⟨⟨y36, y37⟩, hy34, hm⟩ := obind HM.out
          dsimp only at hm
          replace HM := Lib.hid hm; clear hm
          have HC35 := color_Least_ok W33 cap1 (rdL HD.out HR1.out) hy34
          clear hy34
          replace HC35 := Lib.hid HC35
          go_wp2_with fail
          refine HC35.out.mono ?_; rintro e W38 ⟨rfl, hd⟩
          replace HOA := Lib.hid (HOA.out.below hd)
          replace HD := Lib.hid (HD.out.trans (hd.mono HD.out.size))
          clear hd
          go_upto_region 10 with (fail)
          obtain ⟨b39, hb, hm⟩ := obind HM.out
          replace HM := Lib.hid hm; have HB40 := Lib.hid hb; clear hm hb
          go_cut [15] (fun uq wr => uq = .bool b39 ∧ Hid (Below W38.heap.size W38 wr))
          case first =>
            have HWC41 := Lib.hid (Below.refl W38.heap.size W38)
            obtain ⟨y44, hy42, hm⟩ := obind HB40.out
            replace HB40 := Lib.hid hm; clear hm
            have HC43 := mErr_ok W38 (HTC.out.go HD.out)  hy42
            clear hy42
            replace HC43 := Lib.hid HC43
            go_wp2_with fail
            refine HC43.out.mono ?_; rintro e W45 ⟨rfl, hd⟩
            replace HOA := Lib.hid (HOA.out.below hd)
            replace HD := Lib.hid (HD.out.trans (hd.mono HD.out.size))
            replace HWC41 := Lib.hid (HWC41.out.trans (hd.mono HWC41.out.size))
            clear hd
            cases y44
            · replace HB40 := Lib.hid (ifF Bool.false_ne_true HB40.out)
              cases Option.some.inj HB40.out
              try go_wp2_with fail
              go_meet
              case rel => exact ⟨rfl, HWC41⟩
            · replace HB40 := Lib.hid (ifT rfl HB40.out)
              rcases Bool.eq_false_or_eq_true (y36 == x8) with hc46 | hc46
              · replace HB40 := Lib.hid (ifT hc46 HB40.out)
                have HK47 := Lib.hid hc46
                cases Option.some.inj HB40.out
                try go_wp2_with fail
                go_meet
                case rel => exact ⟨rfl, HWC41⟩
              · replace HB40 := Lib.hid (ifF (bF hc46) HB40.out)
                have HK47 := Lib.hid hc46
                cases Option.some.inj HB40.out
                try go_wp2_with fail
                go_meet
                case rel => exact ⟨rfl, HWC41⟩
          case rest =>
            as_aux_lemma =>
              obtain ⟨rfl, HWC41⟩ := hcut
              rename World => W48
              have hd := HWC41.out
              replace HOA := Lib.hid (HOA.out.below hd)
              replace HD := Lib.hid (HD.out.trans (hd.mono HD.out.size))
              clear hd
              obtain ⟨⟨y51, y52, y53⟩, hy49, hm⟩ := obind HM.out
              dsimp only at hm
              replace HM := Lib.hid hm; clear hm
              have HC50 := color_Last_ok W48 cap1 (rdL HD.out HR1.out) hy49
              clear hy49
              replace HC50 := Lib.hid HC50
              go_wp2_with fail
              refine HC50.out.mono ?_; rintro e W54 ⟨V55, rfl, ho, hd⟩
              replace HOA := Lib.hid (HOA.out.call hd HD.out.size ho); clear ho
              replace HD := Lib.hid (HD.out.trans (hd.mono HD.out.size))
              clear hd
              go_upto_region 12 with (fail)
              obtain ⟨b57, hb, hm⟩ := obind HM.out
              replace HM := Lib.hid hm; have HB58 := Lib.hid hb; clear hm hb
              go_cut [18] (fun uq wr => uq = .bool b57 ∧ Hid (Below W54.heap.size W54 wr))
              case first =>
                have HWC59 := Lib.hid (Below.refl W54.heap.size W54)
                obtain ⟨b60, hb, hm⟩ := obind HB58.out
                replace HB58 := Lib.hid hm; have HB61 := Lib.hid hb; clear hm hb
                obtain ⟨y64, hy62, hm⟩ := obind HB61.out
                replace HB61 := Lib.hid hm; clear hm
                have HC63 := mErr_ok W54 (HTC.out.go HD.out)  hy62
                clear hy62
                replace HC63 := Lib.hid HC63
                go_wp2_with fail
                refine HC63.out.mono ?_; rintro e W65 ⟨rfl, hd⟩
                replace HOA := Lib.hid (HOA.out.below hd)
                replace HD := Lib.hid (HD.out.trans (hd.mono HD.out.size))
                replace HWC59 := Lib.hid (HWC59.out.trans (hd.mono HWC59.out.size))
                clear hd
                cases y64
                · replace HB61 := Lib.hid (ifF Bool.false_ne_true HB61.out)
                  obtain rfl := Option.some.inj HB61.out
                  replace HB58 := Lib.hid (ifF (by first | exact Bool.false_ne_true | exact not_false) HB58.out)
                  cases Option.some.inj HB58.out
                  try go_wp2_with fail
                  go_meet
                  case rel => exact ⟨rfl, HWC59⟩
                · replace HB61 := Lib.hid (ifT rfl HB61.out)
                  obtain ⟨y68, hy66, hm⟩ := obind HB61.out
                  replace HB61 := Lib.hid hm; clear hm
                  obtain ⟨A69, cap70, he, _⟩ := HP.open_I HOA.out (List.Mem.head _)
                  subst he
                  obtain ⟨A71, cap72, he, _⟩ := HP.open_I HOA.out (List.Mem.tail _ (List.Mem.head _))
                  subst he
                  have HC67 := SE_Ints_ok W65 cap70 (HP.rd_I HOA.out (List.Mem.head _)) cap72 (HP.rd_I HOA.out (List.Mem.tail _ (List.Mem.head _))) hy66
                  clear hy66
                  replace HC67 := Lib.hid HC67
                  go_wp2_with fail
                  refine HC67.out.mono ?_; rintro e W73 ⟨rfl, hd⟩
                  replace HOA := Lib.hid (HOA.out.below (hd.below _))
                  replace HD := Lib.hid (HD.out.trans ((hd.below _).mono HD.out.size))
                  replace HWC59 := Lib.hid (HWC59.out.trans ((hd.below _).mono HWC59.out.size))
                  clear hd
                  cases y68
                  · replace HB61 := Lib.hid (ifF Bool.false_ne_true HB61.out)
                    obtain rfl := Option.some.inj HB61.out
                    replace HB58 := Lib.hid (ifF (by first | exact Bool.false_ne_true | exact not_false) HB58.out)
                    cases Option.some.inj HB58.out
                    try go_wp2_with fail
                    go_meet
                    case rel => exact ⟨rfl, HWC59⟩
                  · replace HB61 := Lib.hid (ifT rfl HB61.out)
                    obtain rfl := Option.some.inj HB61.out
                    replace HB58 := Lib.hid (ifT (by first | rfl | trivial) HB58.out)
                    rcases Bool.eq_false_or_eq_true (y52 == x9) with hc74 | hc74
                    · replace HB58 := Lib.hid (ifT hc74 HB58.out)
                      have HK75 := Lib.hid hc74
                      cases Option.some.inj HB58.out
                      try go_wp2_with fail
                      go_meet
                      case rel => exact ⟨rfl, HWC59⟩
                    · replace HB58 := Lib.hid (ifF (bF hc74) HB58.out)
                      have HK75 := Lib.hid hc74
                      cases Option.some.inj HB58.out
                      try go_wp2_with fail
                      go_meet
                      case rel => exact ⟨rfl, HWC59⟩
              case rest =>
                as_aux_lemma =>
                  obtain ⟨rfl, HWC59⟩ := hcut
                  rename World => W76
                  have hd := HWC59.out
                  replace HOA := Lib.hid (HOA.out.below hd)
                  replace HD := Lib.hid (HD.out.trans (hd.mono HD.out.size))
                  clear hd
                  go_upto_region 13 with (fail)
                  obtain ⟨x77, ho, hm⟩ := obind HM.out
                  replace HM := Lib.hid hm; have HJ78 := Lib.hid ho; clear hm ho
                  obtain ⟨b79, hb, hm⟩ := obind HJ78.out
                  replace HJ78 := Lib.hid hm; have HB80 := Lib.hid hb; clear hm hb
                  go_cut [75] (fun uq wr => uq = .bool b79 ∧ Hid (Below W76.heap.size W76 wr))
                  case first =>
                    have HWC81 := Lib.hid (Below.refl W76.heap.size W76)
                    rcases Bool.eq_false_or_eq_true (y3 == 0) with hc82 | hc82
                    · replace HB80 := Lib.hid (ifT hc82 HB80.out)
                      have HK83 := Lib.hid hc82
                      rcases Bool.eq_false_or_eq_true (((v2).length : Int) != v0) with hc84 | hc84
                      · replace HB80 := Lib.hid (ifT hc84 HB80.out)
                        have HK85 := Lib.hid hc84
                        cases Option.some.inj HB80.out
                        try go_wp2_with fail
                        go_meet
                        case rel => exact ⟨rfl, HWC81⟩
                      · replace HB80 := Lib.hid (ifF (bF hc84) HB80.out)
                        have HK85 := Lib.hid hc84
                        cases Option.some.inj HB80.out
                        try go_wp2_with fail
                        go_meet
                        case rel => exact ⟨rfl, HWC81⟩
                    · replace HB80 := Lib.hid (ifF (bF hc82) HB80.out)
                      have HK83 := Lib.hid hc82
                      cases Option.some.inj HB80.out
                      try go_wp2_with fail
                      go_meet
                      case rel => exact ⟨rfl, HWC81⟩
                  case rest =>
                    as_aux_lemma =>
                      obtain ⟨rfl, HWC81⟩ := hcut
                      rename World => W86
                      have hd := HWC81.out
                      replace HOA := Lib.hid (HOA.out.below hd)
                      replace HD := Lib.hid (HD.out.trans (hd.mono HD.out.size))
                      clear hd
                      go_upto_if 75 with (fail)
                      go_cut [8] (fun q87 wr => q87 = .int .i64 x77 ∧ Hid (Below W86.heap.size W86 wr))
                      case first =>
                        have HWC89 := Lib.hid (Below.refl W86.heap.size W86)
                        cases b79
                        · replace HJ78 := Lib.hid (ifF Bool.false_ne_true HJ78.out)
                          try go_wp2_with fail
                          cases Option.some.inj HJ78.out
                          go_meet
                          case rel => exact ⟨rfl, HWC89⟩
                        · replace HJ78 := Lib.hid (ifT rfl HJ78.out)
                          try go_wp2_with fail
                          cases Option.some.inj HJ78.out
                          go_meet
                          case rel => exact ⟨rfl, HWC89⟩
                      case rest =>
                        as_aux_lemma =>
                          obtain ⟨rfl, HWC89⟩ := hcut
                          rename World => W90
                          have hd := HWC89.out
                          replace HOA := Lib.hid (HOA.out.below hd)
                          replace HD := Lib.hid (HD.out.trans (hd.mono HD.out.size))
                          clear hd
                          go_upto_region 15 with (fail)
                          obtain ⟨x91, ho, hm⟩ := obind HM.out
                          replace HM := Lib.hid hm; have HJ92 := Lib.hid ho; clear hm ho
                          obtain ⟨b93, hb, hm⟩ := obind HJ92.out
                          replace HJ92 := Lib.hid hm; have HB94 := Lib.hid hb; clear hm hb
                          go_cut [84] (fun uq wr => uq = .bool b93 ∧ Hid (Below W90.heap.size W90 wr))
                          case first =>
                            have HWC95 := Lib.hid (Below.refl W90.heap.size W90)
                            rcases Bool.eq_false_or_eq_true (x77 == 0) with hc96 | hc96
                            · replace HB94 := Lib.hid (ifT hc96 HB94.out)
                              have HK97 := Lib.hid hc96
                              obtain ⟨y100, hy98, hm⟩ := obind HB94.out
                              replace HB94 := Lib.hid hm; clear hm
                              have HC99 := R1_All_ok W90 cap2 (rdI HD.out HR2.out) hy98
                              clear hy98
                              replace HC99 := Lib.hid HC99
                              cases y100
                              · replace HB94 := Lib.hid (ifF Bool.false_ne_true HB94.out)
                                cases Option.some.inj HB94.out
                                go_wp2_with fail
                                refine HC99.out.mono ?_; rintro e w' ⟨rfl, rfl⟩
                                try go_wp2_with fail
                                go_meet
                                case rel => exact ⟨rfl, HWC95⟩
                              · replace HB94 := Lib.hid (ifT rfl HB94.out)
                                cases Option.some.inj HB94.out
                                go_wp2_with fail
                                refine HC99.out.mono ?_; rintro e w' ⟨rfl, rfl⟩
                                try go_wp2_with fail
                                go_meet
                                case rel => exact ⟨rfl, HWC95⟩
                            · replace HB94 := Lib.hid (ifF (bF hc96) HB94.out)
                              have HK97 := Lib.hid hc96
                              cases Option.some.inj HB94.out
                              try go_wp2_with fail
                              go_meet
                              case rel => exact ⟨rfl, HWC95⟩
                          case rest =>
                            as_aux_lemma =>
                              obtain ⟨rfl, HWC95⟩ := hcut
                              rename World => W101
                              have hd := HWC95.out
                              replace HOA := Lib.hid (HOA.out.below hd)
                              replace HD := Lib.hid (HD.out.trans (hd.mono HD.out.size))
                              clear hd
                              go_upto_if 84 with (fail)
                              go_cut [8] (fun q102 wr => q102 = .int .i64 x91 ∧ Hid (Below W101.heap.size W101 wr))
                              case first =>
                                have HWC104 := Lib.hid (Below.refl W101.heap.size W101)
                                cases b93
                                · replace HJ92 := Lib.hid (ifF Bool.false_ne_true HJ92.out)
                                  try go_wp2_with fail
                                  cases Option.some.inj HJ92.out
                                  go_meet
                                  case rel => exact ⟨rfl, HWC104⟩
                                · replace HJ92 := Lib.hid (ifT rfl HJ92.out)
                                  try go_wp2_with fail
                                  cases Option.some.inj HJ92.out
                                  go_meet
                                  case rel => exact ⟨rfl, HWC104⟩
                              case rest =>
                                as_aux_lemma =>
                                  obtain ⟨rfl, HWC104⟩ := hcut
                                  rename World => W105
                                  have hd := HWC104.out
                                  replace HOA := Lib.hid (HOA.out.below hd)
                                  replace HD := Lib.hid (HD.out.trans (hd.mono HD.out.size))
                                  clear hd
                                  go_upto_region 17 with (fail)
                                  obtain ⟨x106, ho, hm⟩ := obind HM.out
                                  replace HM := Lib.hid hm; have HJ107 := Lib.hid ho; clear hm ho
                                  obtain ⟨b108, hb, hm⟩ := obind HJ107.out
                                  replace HJ107 := Lib.hid hm; have HB109 := Lib.hid hb; clear hm hb
                                  go_cut [90] (fun uq wr => uq = .bool b108 ∧ Hid (Below W105.heap.size W105 wr))
                                  case first =>
                                    have HWC110 := Lib.hid (Below.refl W105.heap.size W105)
                                    rcases Bool.eq_false_or_eq_true (x91 == 0) with hc111 | hc111
                                    · replace HB109 := Lib.hid (ifT hc111 HB109.out)
                                      have HK112 := Lib.hid hc111
                                      obtain ⟨y115, hy113, hm⟩ := obind HB109.out
                                      replace HB109 := Lib.hid hm; clear hm
                                      have HC114 := R1_Twice_ok W105 cap2 (rdI HD.out HR2.out) HCAP2.out hy113
                                      clear hy113
                                      replace HC114 := Lib.hid HC114
                                      go_wp2_with fail
                                      refine HC114.out.mono ?_; rintro e W116 ⟨rfl, hd⟩
                                      try clear hc111
                                      replace HOA := Lib.hid (HOA.out.below (hd.below _))
                                      replace HD := Lib.hid (HD.out.trans ((hd.below _).mono HD.out.size))
                                      replace HWC110 := Lib.hid (HWC110.out.trans ((hd.below _).mono HWC110.out.size))
                                      clear hd
                                      cases y115
                                      · replace HB109 := Lib.hid (ifF Bool.false_ne_true HB109.out)
                                        cases Option.some.inj HB109.out
                                        try go_wp2_with fail
                                        go_meet
                                        case rel => exact ⟨rfl, HWC110⟩
                                      · replace HB109 := Lib.hid (ifT rfl HB109.out)
                                        cases Option.some.inj HB109.out
                                        try go_wp2_with fail
                                        go_meet
                                        case rel => exact ⟨rfl, HWC110⟩
                                    · replace HB109 := Lib.hid (ifF (bF hc111) HB109.out)
                                      have HK112 := Lib.hid hc111
                                      cases Option.some.inj HB109.out
                                      try go_wp2_with fail
                                      go_meet
                                      case rel => exact ⟨rfl, HWC110⟩
                                  case rest =>
                                    as_aux_lemma =>
                                      obtain ⟨rfl, HWC110⟩ := hcut
                                      rename World => W117
                                      have hd := HWC110.out
                                      replace HOA := Lib.hid (HOA.out.below hd)
                                      replace HD := Lib.hid (HD.out.trans (hd.mono HD.out.size))
                                      clear hd
                                      go_upto_if 90 with (fail)
                                      go_cut [8] (fun q118 wr => q118 = .int .i64 x106 ∧ Hid (Below W117.heap.size W117 wr))
                                      case first =>
                                        have HWC120 := Lib.hid (Below.refl W117.heap.size W117)
                                        cases b108
                                        · replace HJ107 := Lib.hid (ifF Bool.false_ne_true HJ107.out)
                                          try go_wp2_with fail
                                          cases Option.some.inj HJ107.out
                                          go_meet
                                          case rel => exact ⟨rfl, HWC120⟩
                                        · replace HJ107 := Lib.hid (ifT rfl HJ107.out)
                                          try go_wp2_with fail
                                          cases Option.some.inj HJ107.out
                                          go_meet
                                          case rel => exact ⟨rfl, HWC120⟩
                                      case rest =>
                                        as_aux_lemma =>
                                          obtain ⟨rfl, HWC120⟩ := hcut
                                          rename World => W121
                                          have hd := HWC120.out
                                          replace HOA := Lib.hid (HOA.out.below hd)
                                          replace HD := Lib.hid (HD.out.trans (hd.mono HD.out.size))
                                          clear hd
                                          go_upto_region 19 with (fail)
                                          obtain ⟨x122, ho, hm⟩ := obind HM.out
                                          replace HM := Lib.hid hm; have HJ123 := Lib.hid ho; clear hm ho
                                          obtain ⟨b124, hb, hm⟩ := obind HJ123.out
                                          replace HJ123 := Lib.hid hm; have HB125 := Lib.hid hb; clear hm hb
                                          go_cut [92] (fun uq wr => uq = .bool b124 ∧ Hid (Below W121.heap.size W121 wr))
                                          case first =>
                                            have HWC126 := Lib.hid (Below.refl W121.heap.size W121)
                                            rcases Bool.eq_false_or_eq_true (x106 == 0) with hc127 | hc127
                                            · replace HB125 := Lib.hid (ifT hc127 HB125.out)
                                              have HK128 := Lib.hid hc127
                                              cases Option.some.inj HB125.out
                                              try go_wp2_with fail
                                              go_meet
                                              case rel => exact ⟨rfl, HWC126⟩
                                            · replace HB125 := Lib.hid (ifF (bF hc127) HB125.out)
                                              have HK128 := Lib.hid hc127
                                              cases Option.some.inj HB125.out
                                              try go_wp2_with fail
                                              go_meet
                                              case rel => exact ⟨rfl, HWC126⟩
                                          case rest =>
                                            as_aux_lemma =>
                                              obtain ⟨rfl, HWC126⟩ := hcut
                                              rename World => W129
                                              have hd := HWC126.out
                                              replace HOA := Lib.hid (HOA.out.below hd)
                                              replace HD := Lib.hid (HD.out.trans (hd.mono HD.out.size))
                                              clear hd
                                              go_upto_if 92 with (fail)
                                              go_cut [9] (fun q131 wr => ∃ (V130 : Value), V130 = q131 ∧ Hid (Below w.heap.size w wr) ∧ Hid (HP wr w.heap.size [.fl (owI V55 (y51)), .fl (owI V17 (x7)), .fl (owI V130 (x122))]) ∧ Hid (Below W129.heap.size W129 wr))
                                              case first =>
                                                have HWC132 := Lib.hid (Below.refl W129.heap.size W129)
                                                cases b124
                                                · replace HJ123 := Lib.hid (ifF Bool.false_ne_true HJ123.out)
                                                  try go_wp2_with fail
                                                  cases Option.some.inj HJ123.out
                                                  go_meet
                                                  case rel => exact ⟨(.slice none 0 0), rfl, HD, HOA, HWC132⟩
                                                · replace HJ123 := Lib.hid (ifT rfl HJ123.out)
                                                  obtain ⟨y135, hy133, hm⟩ := obind HJ123.out
                                                  replace HJ123 := Lib.hid hm; clear hm
                                                  have HC134 := R3_Colours_ok W129 cap1 (rdL HD.out HR1.out) cap2 (rdI HD.out HR2.out) hy133
                                                  clear hy133
                                                  replace HC134 := Lib.hid HC134
                                                  go_wp2_with fail
                                                  refine HC134.out.mono ?_; rintro e W136 ⟨V137, rfl, ho, hd⟩
                                                  replace HOA := Lib.hid (HOA.out.call hd HD.out.size ho); clear ho
                                                  replace HD := Lib.hid (HD.out.trans (hd.mono HD.out.size))
                                                  replace HWC132 := Lib.hid (HWC132.out.trans (hd.mono HWC132.out.size))
                                                  clear hd
                                                  try go_wp2_with fail
                                                  replace HOA := Lib.hid (HOA.out.sub (.cons₂ _ (.cons₂ _ (.cons₂ _ (.cons _ .slnil)))))
                                                  replace HOA := Lib.hid (HP.mv (its1 := [_, _]) HOA.out)
                                                  replace HOA := Lib.hid (HP.mv (its1 := [_, _]) HOA.out)
                                                  replace HOA := Lib.hid (show HP _ _ [.fl (owI V55 (y51)), .fl (owI V17 (x7)), .fl (owI V137 (y135))] from HOA.out)
                                                  cases Option.some.inj HJ123.out
                                                  go_meet
                                                  case rel => exact ⟨V137, rfl, HD, HOA, HWC132⟩
                                              case rest =>
                                                as_aux_lemma =>
                                                  obtain ⟨V130, rfl, HD, HOA, HWC132⟩ := hcut
                                                  rename World => W139
                                                  have hd := HWC132.out
                                                  clear hd
                                                  obtain ⟨⟨y142, y143⟩, hy140, hm⟩ := obind HM.out
                                                  dsimp only at hm
                                                  replace HM := Lib.hid hm; clear hm
                                                  have HC141 := color_By_ok W139 cap1 (rdL HD.out HR1.out) cap2 (rdI HD.out HR2.out) HCAP2.out hy140
                                                  clear hy140
                                                  replace HC141 := Lib.hid HC141
                                                  go_wp2_with fail
                                                  refine HC141.out.mono ?_; rintro e W144 ⟨V145, rfl, ho, hd⟩
                                                  replace HOA := Lib.hid (HOA.out.call hd HD.out.size ho); clear ho
                                                  replace HD := Lib.hid (HD.out.trans (hd.mono HD.out.size))
                                                  clear hd
                                                  obtain ⟨b147, hb, hm⟩ := obind HM.out
                                                  replace HM := Lib.hid hm; have HB148 := Lib.hid hb; clear hm hb
                                                  obtain ⟨b149, hb, hm⟩ := obind HB148.out
                                                  replace HB148 := Lib.hid hm; have HB150 := Lib.hid hb; clear hm hb
                                                  obtain ⟨b151, hb, hm⟩ := obind HB150.out
                                                  replace HB150 := Lib.hid hm; have HB152 := Lib.hid hb; clear hm hb
                                                  cases b39
                                                  · replace HB152 := Lib.hid (ifF Bool.false_ne_true HB152.out)
                                                    obtain rfl := Option.some.inj HB152.out
                                                    replace HB150 := Lib.hid (ifF (by first | exact Bool.false_ne_true | exact not_false) HB150.out)
                                                    obtain rfl := Option.some.inj HB150.out
                                                    replace HB148 := Lib.hid (ifF (by first | exact Bool.false_ne_true | exact not_false) HB148.out)
                                                    obtain rfl := Option.some.inj HB148.out
                                                    obtain rfl := Option.some.inj HM.out
                                                    go_wp2_with fail
                                                    go_ret
                                                    exact ⟨rfl, HD.out⟩
                                                  · replace HB152 := Lib.hid (ifT rfl HB152.out)
                                                    cases b57
                                                    · replace HB152 := Lib.hid (ifF Bool.false_ne_true HB152.out)
                                                      obtain rfl := Option.some.inj HB152.out
                                                      replace HB150 := Lib.hid (ifF (by first | exact Bool.false_ne_true | exact not_false) HB150.out)
                                                      obtain rfl := Option.some.inj HB150.out
                                                      replace HB148 := Lib.hid (ifF (by first | exact Bool.false_ne_true | exact not_false) HB148.out)
                                                      obtain rfl := Option.some.inj HB148.out
                                                      obtain rfl := Option.some.inj HM.out
                                                      go_wp2_with fail
                                                      go_ret
                                                      exact ⟨rfl, HD.out⟩
                                                    · replace HB152 := Lib.hid (ifT rfl HB152.out)
                                                      obtain rfl := Option.some.inj HB152.out
                                                      replace HB150 := Lib.hid (ifT (by first | rfl | trivial) HB150.out)
                                                      obtain ⟨y155, hy153, hm⟩ := obind HB150.out
                                                      replace HB150 := Lib.hid hm; clear hm
                                                      have HC154 := mErr_ok W144 (HTC.out.go HD.out)  hy153
                                                      clear hy153
                                                      replace HC154 := Lib.hid HC154
                                                      go_wp2_with fail
                                                      refine HC154.out.mono ?_; rintro e W156 ⟨rfl, hd⟩
                                                      replace HOA := Lib.hid (HOA.out.below hd)
                                                      replace HD := Lib.hid (HD.out.trans (hd.mono HD.out.size))
                                                      clear hd
                                                      cases y155
                                                      · replace HB150 := Lib.hid (ifF Bool.false_ne_true HB150.out)
                                                        obtain rfl := Option.some.inj HB150.out
                                                        replace HB148 := Lib.hid (ifF (by first | exact Bool.false_ne_true | exact not_false) HB148.out)
                                                        obtain rfl := Option.some.inj HB148.out
                                                        obtain rfl := Option.some.inj HM.out
                                                        go_wp2_with fail
                                                        go_ret
                                                        exact ⟨rfl, HD.out⟩
                                                      · replace HB150 := Lib.hid (ifT rfl HB150.out)
                                                        obtain rfl := Option.some.inj HB150.out
                                                        replace HB148 := Lib.hid (ifT (by first | rfl | trivial) HB148.out)
                                                        obtain ⟨y159, hy157, hm⟩ := obind HB148.out
                                                        replace HB148 := Lib.hid hm; clear hm
                                                        obtain ⟨A160, cap161, he, _⟩ := HP.open_I HOA.out (List.Mem.head _)
                                                        subst he
                                                        obtain ⟨A162, cap163, he, _⟩ := HP.open_I HOA.out (List.Mem.tail _ (List.Mem.tail _ (List.Mem.tail _ (List.Mem.head _))))
                                                        subst he
                                                        have HC158 := SE_Ints_ok W156 cap161 (HP.rd_I HOA.out (List.Mem.head _)) cap163 (HP.rd_I HOA.out (List.Mem.tail _ (List.Mem.tail _ (List.Mem.tail _ (List.Mem.head _))))) hy157
                                                        clear hy157
                                                        replace HC158 := Lib.hid HC158
                                                        go_wp2_with fail
                                                        refine HC158.out.mono ?_; rintro e W164 ⟨rfl, hd⟩
                                                        replace HOA := Lib.hid (HOA.out.below (hd.below _))
                                                        replace HD := Lib.hid (HD.out.trans ((hd.below _).mono HD.out.size))
                                                        clear hd
                                                        cases y159
                                                        · replace HB148 := Lib.hid (ifF Bool.false_ne_true HB148.out)
                                                          obtain rfl := Option.some.inj HB148.out
                                                          obtain rfl := Option.some.inj HM.out
                                                          go_wp2_with fail
                                                          go_ret
                                                          exact ⟨rfl, HD.out⟩
                                                        · replace HB148 := Lib.hid (ifT rfl HB148.out)
                                                          obtain rfl := Option.some.inj HB148.out
                                                          obtain rfl := Option.some.inj HM.out
                                                          go_wp2_with fail
                                                          go_ret
                                                          exact ⟨rfl, HD.out⟩
end Go.Proofs.YtlecmgdkoanghaaDoor
