import Derived.Test.YtpbkepajgdmbpaaDoorF1
import Derived.Test.YtpbkepajgdmbpaaDoorF2
import Derived.Test.YtpbkepajgdmbpaaDoorGL
import Derived.Test.YtpbkepajgdmbpaaDoorGF
import Derived.Test.YtpbkepajgdmbpaaDoorF4
import Derived.Test.YtpbkepajgdmbpaaDoorF5
import Derived.Test.YtpbkepajgdmbpaaDoorBox
import Derived.Test.YtpbkepajgdmbpaaDoorErr
set_option linter.all false
set_option maxRecDepth 100000
namespace Go.Proofs.YtpbkepajgdmbpaaDoor
open Go.RowKit
attribute [local go_sem] Oper.semAt_some
def L3_PruferSays (F : Nat) (v0 : Int) (v1 : List (Int × Int)) (v2 : List Int) : Option (Bool) := (R3_Tree F (v0) (v1)).bind fun y1 => ((if (y1 == 0) = true then if (v0 == 1) = true then some true else some false else some false).bind fun b3 => if b3 = true then some (5) else some (y1)).bind fun o2 => ((if (o2 == 0) = true then some true else some false).bind fun b5 => if b5 = true then (R3_Prufer F (v0) (v1)).bind fun y6 => some (y6) else some ([])).bind fun o4 => (prufer_Write F (v0) (v1)).bind fun y7 => ((mErr (y7.2) (o2)).bind fun y9 => if y9 = true then (SE_Ints F (y7.1) (o4)).bind fun y10 => if y10 = true then some true else some false else some false).bind fun b8 => ((if 6 < ((v2).length : Int) then some true else some false).bind fun b12 => if b12 = true then some (4, []) else ((R1_All F (v2) (0) ((wrap64 (((v2).length : Int) + 1)))).bind fun y13 => if y13 = true then (R3_Grown F (v2)).bind fun y14 => some (0, y14) else some (1, []))).bind fun o11 => (prufer_Read F (v2)).bind fun y15 => ((if b8 = true then (mErr (y15.2) (o11.1)).bind fun y18 => if y18 = true then some true else some false else some false).bind fun b17 => if b17 = true then (SE_Lines F (y15.1) (o11.2)).bind fun y19 => if y19 = true then some true else some false else some false).bind fun b16 => some (b16)
set_option maxRecDepth 100000 in
set_option maxHeartbeats 4000000 in
theorem L3_PruferSays_ok {F : Nat} {v0 : Int} {v1 : List (Int × Int)} {A1 : Option Addr} {v2 : List Int} {A2 : Option Addr} {r : Bool} (w : World) (htc : TyCell w) (cap1 : Nat) (hr1 : ReadsL w w.heap.size A1 v1) (cap2 : Nat) (hr2 : ReadsI w w.heap.size A2 v2) (hcap2 : v2.length ≤ cap2) (h : L3_PruferSays F v0 v1 v2 = some r) :
    Calls Tryd.prog 3 #[.int .i64 v0, .slice A1 v1.length cap1, .slice A2 v2.length cap2] w fun e w' => e = .returned (.bool r) ∧ Below w.heap.size w w' := by
  have HTC := Lib.hid htc; clear htc
  have HR1 := Lib.hid hr1; clear hr1
  have HR2 := Lib.hid hr2; clear hr2
  have HCAP2 := Lib.hid hcap2; clear hcap2
  have HD := Lib.hid (Below.refl w.heap.size w)
  have HOA := Lib.hid (HP.nil (W := w) (B := w.heap.size))
  unfold L3_PruferSays at h
  have HM := Lib.hid h; clear h
  go_enter Tryd.func3, Tryd.ntmps3
  obtain ⟨y3, hy1, hm⟩ := obind HM.out
  replace HM := Lib.hid hm; clear hm
  have HC2 := R3_Tree_ok w cap1 (rdL HD.out HR1.out) hy1
  clear hy1
  replace HC2 := Lib.hid HC2
  go_wp2_with fail
  refine HC2.out.mono ?_; rintro e W4 ⟨rfl, hd⟩
  replace HOA := Lib.hid (HOA.out.below hd)
  replace HD := Lib.hid (HD.out.trans (hd.mono HD.out.size))
  clear hd
  go_upto_region 2 with (fail)
  obtain ⟨x5, ho, hm⟩ := obind HM.out
  replace HM := Lib.hid hm; have HJ6 := Lib.hid ho; clear hm ho
  obtain ⟨b7, hb, hm⟩ := obind HJ6.out
  replace HJ6 := Lib.hid hm; have HB8 := Lib.hid hb; clear hm hb
  go_cut [22] (fun uq wr => uq = .bool b7 ∧ Hid (Below W4.heap.size W4 wr))
  case first =>
    have HWC9 := Lib.hid (Below.refl W4.heap.size W4)
    rcases Bool.eq_false_or_eq_true (y3 == 0) with hc10 | hc10
    · replace HB8 := Lib.hid (ifT hc10 HB8.out)
      have HK11 := Lib.hid hc10
      rcases Bool.eq_false_or_eq_true (v0 == 1) with hc12 | hc12
      · replace HB8 := Lib.hid (ifT hc12 HB8.out)
        have HK13 := Lib.hid hc12
        cases Option.some.inj HB8.out
        try go_wp2_with fail
        go_meet
        case rel => exact ⟨rfl, HWC9⟩
      · replace HB8 := Lib.hid (ifF (bF hc12) HB8.out)
        have HK13 := Lib.hid hc12
        cases Option.some.inj HB8.out
        try go_wp2_with fail
        go_meet
        case rel => exact ⟨rfl, HWC9⟩
    · replace HB8 := Lib.hid (ifF (bF hc10) HB8.out)
      have HK11 := Lib.hid hc10
      cases Option.some.inj HB8.out
      try go_wp2_with fail
      go_meet
      case rel => exact ⟨rfl, HWC9⟩
  case rest =>
    as_aux_lemma =>
      obtain ⟨rfl, HWC9⟩ := hcut
      rename World => W14
      have hd := HWC9.out
      replace HOA := Lib.hid (HOA.out.below hd)
      replace HD := Lib.hid (HD.out.trans (hd.mono HD.out.size))
      clear hd
      go_upto_if 22 with (fail)
      go_cut [7] (fun q15 wr => q15 = .int .i64 x5 ∧ Hid (Below W14.heap.size W14 wr))
      case first =>
        have HWC17 := Lib.hid (Below.refl W14.heap.size W14)
        cases b7
        · replace HJ6 := Lib.hid (ifF Bool.false_ne_true HJ6.out)
          try go_wp2_with fail
          cases Option.some.inj HJ6.out
          go_meet
          case rel => exact ⟨rfl, HWC17⟩
        · replace HJ6 := Lib.hid (ifT rfl HJ6.out)
          try go_wp2_with fail
          cases Option.some.inj HJ6.out
          go_meet
          case rel => exact ⟨rfl, HWC17⟩
      case rest =>
        as_aux_lemma =>
          obtain ⟨rfl, HWC17⟩ := hcut
          rename World => W18
          have hd := HWC17.out
          replace HOA := Lib.hid (HOA.out.below hd)
          replace HD := Lib.hid (HD.out.trans (hd.mono HD.out.size))
          clear hd
          replace HOA := Lib.hid (show HP _ _ (.fl (owI (.slice none 0 0) ([])) :: _) from HOA.out.pushNil _ _)
          go_upto_region 5 with (fail)
          obtain ⟨x20, ho, hm⟩ := obind HM.out
          replace HM := Lib.hid hm; have HJ21 := Lib.hid ho; clear hm ho
          obtain ⟨b22, hb, hm⟩ := obind HJ21.out
          replace HJ21 := Lib.hid hm; have HB23 := Lib.hid hb; clear hm hb
          go_cut [24] (fun uq wr => uq = .bool b22 ∧ Hid (Below W18.heap.size W18 wr))
          case first =>
            have HWC24 := Lib.hid (Below.refl W18.heap.size W18)
            rcases Bool.eq_false_or_eq_true (x5 == 0) with hc25 | hc25
            · replace HB23 := Lib.hid (ifT hc25 HB23.out)
              have HK26 := Lib.hid hc25
              cases Option.some.inj HB23.out
              try go_wp2_with fail
              go_meet
              case rel => exact ⟨rfl, HWC24⟩
            · replace HB23 := Lib.hid (ifF (bF hc25) HB23.out)
              have HK26 := Lib.hid hc25
              cases Option.some.inj HB23.out
              try go_wp2_with fail
              go_meet
              case rel => exact ⟨rfl, HWC24⟩
          case rest =>
            as_aux_lemma =>
              obtain ⟨rfl, HWC24⟩ := hcut
              rename World => W27
              have hd := HWC24.out
              replace HOA := Lib.hid (HOA.out.below hd)
              replace HD := Lib.hid (HD.out.trans (hd.mono HD.out.size))
              clear hd
              go_upto_if 24 with (fail)
              go_cut [8] (fun q29 wr => ∃ (V28 : Value), V28 = q29 ∧ Hid (Below w.heap.size w wr) ∧ Hid (HP wr w.heap.size [.fl (owI V28 (x20))]) ∧ Hid (Below W27.heap.size W27 wr))
              case first =>
                have HWC30 := Lib.hid (Below.refl W27.heap.size W27)
                cases b22
                · replace HJ21 := Lib.hid (ifF Bool.false_ne_true HJ21.out)
                  try go_wp2_with fail
                  cases Option.some.inj HJ21.out
                  go_meet
                  case rel => exact ⟨(.slice none 0 0), rfl, HD, HOA, HWC30⟩
                · replace HJ21 := Lib.hid (ifT rfl HJ21.out)
                  obtain ⟨y33, hy31, hm⟩ := obind HJ21.out
                  replace HJ21 := Lib.hid hm; clear hm
                  have HC32 := R3_Prufer_ok W27 cap1 (rdL HD.out HR1.out) hy31
                  clear hy31
                  replace HC32 := Lib.hid HC32
                  go_wp2_with fail
                  refine HC32.out.mono ?_; rintro e W34 ⟨V35, rfl, ho, hd⟩
                  replace HOA := Lib.hid (HOA.out.call hd HD.out.size ho); clear ho
                  replace HD := Lib.hid (HD.out.trans (hd.mono HD.out.size))
                  replace HWC30 := Lib.hid (HWC30.out.trans (hd.mono HWC30.out.size))
                  clear hd
                  try go_wp2_with fail
                  replace HOA := Lib.hid (HOA.out.sub (.cons₂ _ (.cons _ .slnil)))
                  cases Option.some.inj HJ21.out
                  go_meet
                  case rel => exact ⟨V35, rfl, HD, HOA, HWC30⟩
              case rest =>
                as_aux_lemma =>
                  obtain ⟨V28, rfl, HD, HOA, HWC30⟩ := hcut
                  rename World => W37
                  have hd := HWC30.out
                  clear hd
                  obtain ⟨⟨y40, y41⟩, hy38, hm⟩ := obind HM.out
                  dsimp only at hm
                  replace HM := Lib.hid hm; clear hm
                  have HC39 := prufer_Write_ok W37 cap1 (rdL HD.out HR1.out) hy38
                  clear hy38
                  replace HC39 := Lib.hid HC39
                  go_wp2_with fail
                  refine HC39.out.mono ?_; rintro e W42 ⟨V43, rfl, ho, hd⟩
                  replace HOA := Lib.hid (HOA.out.call hd HD.out.size ho); clear ho
                  replace HD := Lib.hid (HD.out.trans (hd.mono HD.out.size))
                  clear hd
                  go_upto_region 8 with (fail)
                  obtain ⟨b45, hb, hm⟩ := obind HM.out
                  replace HM := Lib.hid hm; have HB46 := Lib.hid hb; clear hm hb
                  go_cut [11] (fun uq wr => uq = .bool b45 ∧ Hid (Below W42.heap.size W42 wr))
                  case first =>
                    have HWC47 := Lib.hid (Below.refl W42.heap.size W42)
                    obtain ⟨y50, hy48, hm⟩ := obind HB46.out
                    replace HB46 := Lib.hid hm; clear hm
                    have HC49 := mErr_ok W42 (HTC.out.go HD.out)  hy48
                    clear hy48
                    replace HC49 := Lib.hid HC49
                    go_wp2_with fail
                    refine HC49.out.mono ?_; rintro e W51 ⟨rfl, hd⟩
                    replace HOA := Lib.hid (HOA.out.below hd)
                    replace HD := Lib.hid (HD.out.trans (hd.mono HD.out.size))
                    replace HWC47 := Lib.hid (HWC47.out.trans (hd.mono HWC47.out.size))
                    clear hd
                    cases y50
                    · replace HB46 := Lib.hid (ifF Bool.false_ne_true HB46.out)
                      cases Option.some.inj HB46.out
                      try go_wp2_with fail
                      go_meet
                      case rel => exact ⟨rfl, HWC47⟩
                    · replace HB46 := Lib.hid (ifT rfl HB46.out)
                      obtain ⟨y54, hy52, hm⟩ := obind HB46.out
                      replace HB46 := Lib.hid hm; clear hm
                      obtain ⟨A55, cap56, he, _⟩ := HP.open_I HOA.out (List.Mem.head _)
                      subst he
                      obtain ⟨A57, cap58, he, _⟩ := HP.open_I HOA.out (List.Mem.tail _ (List.Mem.head _))
                      subst he
                      have HC53 := SE_Ints_ok W51 cap56 (HP.rd_I HOA.out (List.Mem.head _)) cap58 (HP.rd_I HOA.out (List.Mem.tail _ (List.Mem.head _))) hy52
                      clear hy52
                      replace HC53 := Lib.hid HC53
                      go_wp2_with fail
                      refine HC53.out.mono ?_; rintro e W59 ⟨rfl, hd⟩
                      replace HOA := Lib.hid (HOA.out.below (hd.below _))
                      replace HD := Lib.hid (HD.out.trans ((hd.below _).mono HD.out.size))
                      replace HWC47 := Lib.hid (HWC47.out.trans ((hd.below _).mono HWC47.out.size))
                      clear hd
                      cases y54
                      · replace HB46 := Lib.hid (ifF Bool.false_ne_true HB46.out)
                        cases Option.some.inj HB46.out
                        try go_wp2_with fail
                        go_meet
                        case rel => exact ⟨rfl, HWC47⟩
                      · replace HB46 := Lib.hid (ifT rfl HB46.out)
                        cases Option.some.inj HB46.out
                        try go_wp2_with fail
                        go_meet
                        case rel => exact ⟨rfl, HWC47⟩
                  case rest =>
                    as_aux_lemma =>
                      obtain ⟨rfl, HWC47⟩ := hcut
                      rename World => W60
                      have hd := HWC47.out
                      replace HOA := Lib.hid (HOA.out.below hd)
                      replace HD := Lib.hid (HD.out.trans (hd.mono HD.out.size))
                      clear hd
                      replace HOA := Lib.hid (show HP _ _ (.fl (owL (.slice none 0 0) ([])) :: _) from HOA.out.pushNil _ _)
                      go_upto_region 11 with (fail)
                      obtain ⟨⟨x62, x63⟩, ho, hm⟩ := obind HM.out
                      try simp only [] at hm
                      replace HM := Lib.hid hm; have HJ64 := Lib.hid ho; clear hm ho
                      obtain ⟨b65, hb, hm⟩ := obind HJ64.out
                      replace HJ64 := Lib.hid hm; have HB66 := Lib.hid hb; clear hm hb
                      go_cut [44] (fun uq wr => uq = .bool b65 ∧ Hid (Below W60.heap.size W60 wr))
                      case first =>
                        have HWC67 := Lib.hid (Below.refl W60.heap.size W60)
                        by_cases hc68 : 6 < ((v2).length : Int)
                        · replace HB66 := Lib.hid (ifT hc68 HB66.out)
                          have HK69 := Lib.hid hc68
                          have hc68n := hc68; try norm_cast at hc68n
                          cases Option.some.inj HB66.out
                          try go_wp2_with fail
                          go_meet
                          case rel => exact ⟨rfl, HWC67⟩
                        · replace HB66 := Lib.hid (ifF hc68 HB66.out)
                          have hc68d := decide_eq_false hc68
                          have HK69 := Lib.hid hc68
                          have hc68n := hc68; try norm_cast at hc68n
                          cases Option.some.inj HB66.out
                          try go_wp2_with fail
                          go_meet
                          case rel => exact ⟨rfl, HWC67⟩
                      case rest =>
                        as_aux_lemma =>
                          obtain ⟨rfl, HWC67⟩ := hcut
                          rename World => W70
                          have hd := HWC67.out
                          replace HOA := Lib.hid (HOA.out.below hd)
                          replace HD := Lib.hid (HD.out.trans (hd.mono HD.out.size))
                          clear hd
                          go_upto_if 44 with (fail)
                          go_cut [7, 12] (fun q72 q73 wr => ∃ (V71 : Value), q72 = .int .i64 x62 ∧ V71 = q73 ∧ Hid (Below w.heap.size w wr) ∧ Hid (HP wr w.heap.size [.fl (owL V71 (x63)), .fl (owI V43 (y40)), .fl (owI V28 (x20))]) ∧ Hid (Below W70.heap.size W70 wr))
                          case first =>
                            have HWC74 := Lib.hid (Below.refl W70.heap.size W70)
                            cases b65
                            · replace HJ64 := Lib.hid (ifF Bool.false_ne_true HJ64.out)
                              obtain ⟨y77, hy75, hm⟩ := obind HJ64.out
                              replace HJ64 := Lib.hid hm; clear hm
                              have HC76 := R1_All_ok W70 cap2 (rdI HD.out HR2.out) hy75
                              clear hy75
                              replace HC76 := Lib.hid HC76
                              cases y77
                              · replace HJ64 := Lib.hid (ifF Bool.false_ne_true HJ64.out)
                                go_wp2_with fail
                                refine HC76.out.mono ?_; rintro e w' ⟨rfl, rfl⟩
                                try go_wp2_with fail
                                cases Option.some.inj HJ64.out
                                go_meet
                                case rel => exact ⟨(.slice none 0 0), rfl, rfl, HD, HOA, HWC74⟩
                              · replace HJ64 := Lib.hid (ifT rfl HJ64.out)
                                obtain ⟨y80, hy78, hm⟩ := obind HJ64.out
                                replace HJ64 := Lib.hid hm; clear hm
                                have HC79 := R3_Grown_ok W70 cap2 (rdI HD.out HR2.out) HCAP2.out hy78
                                clear hy78
                                replace HC79 := Lib.hid HC79
                                go_wp2_with fail
                                refine HC76.out.mono ?_; rintro e w' ⟨rfl, rfl⟩
                                go_wp2_with fail
                                refine HC79.out.mono ?_; rintro e W81 ⟨V82, rfl, ho, hd⟩
                                replace HOA := Lib.hid (HOA.out.call hd HD.out.size ho); clear ho
                                replace HD := Lib.hid (HD.out.trans (hd.mono HD.out.size))
                                replace HWC74 := Lib.hid (HWC74.out.trans (hd.mono HWC74.out.size))
                                clear hd
                                try go_wp2_with fail
                                replace HOA := Lib.hid (HOA.out.sub (.cons₂ _ (.cons _ (.cons₂ _ (.cons₂ _ .slnil)))))
                                cases Option.some.inj HJ64.out
                                go_meet
                                case rel => exact ⟨V82, rfl, rfl, HD, HOA, HWC74⟩
                            · replace HJ64 := Lib.hid (ifT rfl HJ64.out)
                              try go_wp2_with fail
                              cases Option.some.inj HJ64.out
                              go_meet
                              case rel => exact ⟨(.slice none 0 0), rfl, rfl, HD, HOA, HWC74⟩
                          case rest =>
                            as_aux_lemma =>
                              obtain ⟨V71, rfl, rfl, HD, HOA, HWC74⟩ := hcut
                              rename World => W84
                              have hd := HWC74.out
                              clear hd
                              obtain ⟨⟨y87, y88⟩, hy85, hm⟩ := obind HM.out
                              dsimp only at hm
                              replace HM := Lib.hid hm; clear hm
                              have HC86 := prufer_Read_ok W84 cap2 (rdI HD.out HR2.out) hy85
                              clear hy85
                              replace HC86 := Lib.hid HC86
                              go_wp2_with fail
                              refine HC86.out.mono ?_; rintro e W89 ⟨V90, rfl, ho, hd⟩
                              replace HOA := Lib.hid (HOA.out.call hd HD.out.size ho); clear ho
                              replace HD := Lib.hid (HD.out.trans (hd.mono HD.out.size))
                              clear hd
                              obtain ⟨b92, hb, hm⟩ := obind HM.out
                              replace HM := Lib.hid hm; have HB93 := Lib.hid hb; clear hm hb
                              obtain ⟨b94, hb, hm⟩ := obind HB93.out
                              replace HB93 := Lib.hid hm; have HB95 := Lib.hid hb; clear hm hb
                              cases b45
                              · replace HB95 := Lib.hid (ifF Bool.false_ne_true HB95.out)
                                obtain rfl := Option.some.inj HB95.out
                                replace HB93 := Lib.hid (ifF (by first | exact Bool.false_ne_true | exact not_false) HB93.out)
                                obtain rfl := Option.some.inj HB93.out
                                obtain rfl := Option.some.inj HM.out
                                go_wp2_with fail
                                go_ret
                                exact ⟨rfl, HD.out⟩
                              · replace HB95 := Lib.hid (ifT rfl HB95.out)
                                obtain ⟨y98, hy96, hm⟩ := obind HB95.out
                                replace HB95 := Lib.hid hm; clear hm
                                have HC97 := mErr_ok W89 (HTC.out.go HD.out)  hy96
                                clear hy96
                                replace HC97 := Lib.hid HC97
                                go_wp2_with fail
                                refine HC97.out.mono ?_; rintro e W99 ⟨rfl, hd⟩
                                replace HOA := Lib.hid (HOA.out.below hd)
                                replace HD := Lib.hid (HD.out.trans (hd.mono HD.out.size))
                                clear hd
                                cases y98
                                · replace HB95 := Lib.hid (ifF Bool.false_ne_true HB95.out)
                                  obtain rfl := Option.some.inj HB95.out
                                  replace HB93 := Lib.hid (ifF (by first | exact Bool.false_ne_true | exact not_false) HB93.out)
                                  obtain rfl := Option.some.inj HB93.out
                                  obtain rfl := Option.some.inj HM.out
                                  go_wp2_with fail
                                  go_ret
                                  exact ⟨rfl, HD.out⟩
                                · replace HB95 := Lib.hid (ifT rfl HB95.out)
                                  obtain rfl := Option.some.inj HB95.out
                                  replace HB93 := Lib.hid (ifT (by first | rfl | trivial) HB93.out)
                                  obtain ⟨y102, hy100, hm⟩ := obind HB93.out
                                  replace HB93 := Lib.hid hm; clear hm
                                  obtain ⟨A103, cap104, he, _⟩ := HP.open_L HOA.out (List.Mem.head _)
                                  subst he
                                  obtain ⟨A105, cap106, he, _⟩ := HP.open_L HOA.out (List.Mem.tail _ (List.Mem.head _))
                                  subst he
                                  have HC101 := SE_Lines_ok W99 cap104 (HP.rd_L HOA.out (List.Mem.head _)) cap106 (HP.rd_L HOA.out (List.Mem.tail _ (List.Mem.head _))) hy100
                                  clear hy100
                                  replace HC101 := Lib.hid HC101
                                  go_wp2_with fail
                                  refine HC101.out.mono ?_; rintro e W107 ⟨rfl, hd⟩
                                  replace HOA := Lib.hid (HOA.out.below (hd.below _))
                                  replace HD := Lib.hid (HD.out.trans ((hd.below _).mono HD.out.size))
                                  clear hd
                                  cases y102
                                  · replace HB93 := Lib.hid (ifF Bool.false_ne_true HB93.out)
                                    obtain rfl := Option.some.inj HB93.out
                                    obtain rfl := Option.some.inj HM.out
                                    go_wp2_with fail
                                    go_ret
                                    exact ⟨rfl, HD.out⟩
                                  · replace HB93 := Lib.hid (ifT rfl HB93.out)
                                    obtain rfl := Option.some.inj HB93.out
                                    obtain rfl := Option.some.inj HM.out
                                    go_wp2_with fail
                                    go_ret
                                    exact ⟨rfl, HD.out⟩
end Go.Proofs.YtpbkepajgdmbpaaDoor
