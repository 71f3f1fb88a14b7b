import Derived.Test.YtpcmofhmhggcoaaDoorK1
import Derived.Test.YtpcmofhmhggcoaaDoorErr
import Derived.Test.YtpcmofhmhggcoaaDoorCAd
set_option linter.all false
set_option maxRecDepth 100000
namespace Go.Proofs.YtpcmofhmhggcoaaDoor
open Go.RowKit
def L3_CliqueSays (F : Nat) (v0 : Int) (v1 : List (Int × Int)) : Option (Bool) := (R1_Lines F (v0) (v1)).bind fun y1 => ((if (y1 == 0) = true then some true else some false).bind fun b3 => if b3 = true then (R3_Cliques F (v0) (v1)).bind fun y4 => (R3_Biggest F (v0) (v1) (true)).bind fun y5 => (R3_Biggest F (v0) (v1) (false)).bind fun y6 => some (y4, y5, y6) else some ([], 0, 0)).bind fun o2 => (mAll (v0) (v1)).bind fun y7 => ((mErr (y7.2) (y1)).bind fun y9 => if y9 = true then (SE_Rows F (y7.1) (o2.1)).bind fun y10 => if y10 = true then some true else some false else some false).bind fun b8 => (mMost (v0) (v1)).bind fun y11 => ((mErr (y11.2) (y1)).bind fun y13 => if y13 = true then if (y11.1 == o2.2.1) = true then some true else some false else some false).bind fun b12 => (mApart (v0) (v1)).bind fun y14 => (((if b8 = true then if b12 = true then some true else some false else some false).bind fun b17 => if b17 = true then (mErr (y14.2) (y1)).bind fun y18 => if y18 = true then some true else some false else some false).bind fun b16 => if b16 = true then if (y14.1 == o2.2.2) = true then some true else some false else some false).bind fun b15 => some (b15)
set_option maxRecDepth 100000 in
set_option maxHeartbeats 4000000 in
theorem L3_CliqueSays_ok {F : Nat} {v0 : Int} {v1 : List (Int × Int)} {A1 : Option Addr} {r : Bool} (w : World) (htc : TyCell w) (cap1 : Nat) (hr1 : ReadsL w w.heap.size A1 v1) (h : L3_CliqueSays F v0 v1 = some r) :
    Calls Tryd.prog 3 #[.int .i64 v0, .slice A1 v1.length cap1] w fun e w' => e = .returned (.bool r) ∧ Below w.heap.size w w' := by
  have HTC := Lib.hid htc; clear htc
  have HR1 := Lib.hid hr1; clear hr1
  have HD := Lib.hid (Below.refl w.heap.size w)
  have HOA := Lib.hid (HP.nil (W := w) (B := w.heap.size))
  unfold L3_CliqueSays at h
  have HM := Lib.hid h; clear h
  go_enter Tryd.func3, Tryd.ntmps3
  obtain ⟨y3, hy1, hm⟩ := obind HM.out
  replace HM := Lib.hid hm; clear hm
  have HC2 := R1_Lines_ok w cap1 (rdL HD.out HR1.out) hy1
  clear hy1
  replace HC2 := Lib.hid HC2
  go_wp2_with fail
  refine HC2.out.mono ?_; rintro e W4 ⟨rfl, hd⟩
  replace HOA := Lib.hid (HOA.out.below (hd.below _))
  replace HD := Lib.hid (HD.out.trans ((hd.below _).mono HD.out.size))
  clear hd
  have HR5 := Lib.hid (readsR_nil (w := W4) (B := W4.heap.size) (A := none))
  go_upto_region 5 with (fail)
  obtain ⟨⟨x6, x7, x8⟩, ho, hm⟩ := obind HM.out
  try simp only [] at hm
  replace HM := Lib.hid hm; have HJ9 := Lib.hid ho; clear hm ho
  obtain ⟨b10, hb, hm⟩ := obind HJ9.out
  replace HJ9 := Lib.hid hm; have HB11 := Lib.hid hb; clear hm hb
  go_cut [18] (fun uq wr => uq = .bool b10 ∧ Hid (Below W4.heap.size W4 wr))
  case first =>
    have HWC12 := Lib.hid (Below.refl W4.heap.size W4)
    rcases Bool.eq_false_or_eq_true (y3 == 0) with hc13 | hc13
    · replace HB11 := Lib.hid (ifT hc13 HB11.out)
      have HK14 := Lib.hid hc13
      cases Option.some.inj HB11.out
      try go_wp2_with fail
      go_meet
      case rel => exact ⟨rfl, HWC12⟩
    · replace HB11 := Lib.hid (ifF (bF hc13) HB11.out)
      have HK14 := Lib.hid hc13
      cases Option.some.inj HB11.out
      try go_wp2_with fail
      go_meet
      case rel => exact ⟨rfl, HWC12⟩
  case rest =>
    obtain ⟨rfl, HWC12⟩ := hcut
    rename World => W15
    have hd := HWC12.out
    replace HOA := Lib.hid (HOA.out.below hd)
    replace HR5 := Lib.hid (rdR hd HR5.out)
    replace HD := Lib.hid (HD.out.trans (hd.mono HD.out.size))
    clear hd
    go_upto_if 18 with (fail)
    go_cut [6, 7, 8] (fun q17 q18 q19 wr => ∃ (V16 : Value), V16 = q17 ∧ q18 = .int .i64 x7 ∧ q19 = .int .i64 x8 ∧ Hid (Below W15.heap.size W15 wr) ∧ Hid (RdR wr V16 x6))
    case first =>
      have HWC21 := Lib.hid (Below.refl W15.heap.size W15)
      cases b10
      · replace HJ9 := Lib.hid (ifF Bool.false_ne_true HJ9.out)
        try go_wp2_with fail
        cases Option.some.inj HJ9.out
        go_meet
        case rel => exact ⟨_, rfl, rfl, rfl, HWC21, (Lib.hid ⟨_, _, rfl, HR5.out⟩)⟩
      · replace HJ9 := Lib.hid (ifT rfl HJ9.out)
        obtain ⟨y25, hy23, hm⟩ := obind HJ9.out
        replace HJ9 := Lib.hid hm; clear hm
        have HC24 := R3_Cliques_ok W15 cap1 (rdL HD.out HR1.out) hy23
        clear hy23
        replace HC24 := Lib.hid HC24
        go_wp2_with fail
        refine HC24.out.mono ?_; rintro e W26 ⟨A27, cap28, rfl, hr0, hd⟩
        replace HOA := Lib.hid (HOA.out.below hd)
        replace HR5 := Lib.hid (rdR hd HR5.out)
        replace HD := Lib.hid (HD.out.trans (hd.mono HD.out.size))
        replace HWC21 := Lib.hid (HWC21.out.trans (hd.mono HWC21.out.size))
        clear hd
        have HR29 := Lib.hid hr0; clear hr0
        obtain ⟨y32, hy30, hm⟩ := obind HJ9.out
        replace HJ9 := Lib.hid hm; clear hm
        have HC31 := R3_Biggest_ok W26 cap1 (rdL HD.out HR1.out) hy30
        clear hy30
        replace HC31 := Lib.hid HC31
        go_wp2_with fail
        refine HC31.out.mono ?_; rintro e W33 ⟨rfl, hd⟩
        replace HOA := Lib.hid (HOA.out.below hd)
        replace HR5 := Lib.hid (rdR hd HR5.out)
        replace HR29 := Lib.hid (rdR hd HR29.out)
        replace HD := Lib.hid (HD.out.trans (hd.mono HD.out.size))
        replace HWC21 := Lib.hid (HWC21.out.trans (hd.mono HWC21.out.size))
        clear hd
        obtain ⟨y36, hy34, hm⟩ := obind HJ9.out
        replace HJ9 := Lib.hid hm; clear hm
        have HC35 := R3_Biggest_ok W33 cap1 (rdL HD.out HR1.out) hy34
        clear hy34
        replace HC35 := Lib.hid HC35
        go_wp2_with fail
        refine HC35.out.mono ?_; rintro e W37 ⟨rfl, hd⟩
        replace HOA := Lib.hid (HOA.out.below hd)
        replace HR5 := Lib.hid (rdR hd HR5.out)
        replace HR29 := Lib.hid (rdR hd HR29.out)
        replace HD := Lib.hid (HD.out.trans (hd.mono HD.out.size))
        replace HWC21 := Lib.hid (HWC21.out.trans (hd.mono HWC21.out.size))
        clear hd
        try go_wp2_with fail
        cases Option.some.inj HJ9.out
        go_meet
        case rel => exact ⟨_, rfl, rfl, rfl, HWC21, (Lib.hid ⟨_, _, rfl, HR29.out⟩)⟩
    case rest =>
      obtain ⟨V16, rfl, rfl, rfl, HWC21, HRV22⟩ := hcut
      rename World => W38
      have hd := HWC21.out
      replace HOA := Lib.hid (HOA.out.below hd)
      replace HR5 := Lib.hid (rdR hd HR5.out)
      replace HD := Lib.hid (HD.out.trans (hd.mono HD.out.size))
      clear hd
      obtain ⟨A39, cap40, rfl, hr_⟩ := HRV22.out
      have HR41 := Lib.hid hr_; clear hr_
      obtain ⟨⟨y44, y45⟩, hy42, hm⟩ := obind HM.out
      dsimp only at hm
      replace HM := Lib.hid hm; clear hm
      have HC43 := mAll_ok W38 cap1 (rdL HD.out HR1.out) hy42
      clear hy42
      replace HC43 := Lib.hid HC43
      go_wp2_with fail
      refine HC43.out.mono ?_; rintro e W46 ⟨A47, cap48, rfl, hr0, hd⟩
      replace HOA := Lib.hid (HOA.out.below hd)
      replace HR41 := Lib.hid (rdR hd HR41.out)
      replace HD := Lib.hid (HD.out.trans (hd.mono HD.out.size))
      clear hd
      have HR49 := Lib.hid hr0; clear hr0
      go_upto_region 10 with (fail)
      obtain ⟨b50, hb, hm⟩ := obind HM.out
      replace HM := Lib.hid hm; have HB51 := Lib.hid hb; clear hm hb
      go_cut [11] (fun uq wr => uq = .bool b50 ∧ Hid (Below W46.heap.size W46 wr))
      case first =>
        have HWC52 := Lib.hid (Below.refl W46.heap.size W46)
        obtain ⟨y55, hy53, hm⟩ := obind HB51.out
        replace HB51 := Lib.hid hm; clear hm
        have HC54 := mErr_ok W46 (HTC.out.go HD.out)  hy53
        clear hy53
        replace HC54 := Lib.hid HC54
        go_wp2_with fail
        refine HC54.out.mono ?_; rintro e W56 ⟨rfl, hd⟩
        replace HOA := Lib.hid (HOA.out.below hd)
        replace HR41 := Lib.hid (rdR hd HR41.out)
        replace HR49 := Lib.hid (rdR hd HR49.out)
        replace HD := Lib.hid (HD.out.trans (hd.mono HD.out.size))
        replace HWC52 := Lib.hid (HWC52.out.trans (hd.mono HWC52.out.size))
        clear hd
        cases y55
        · replace HB51 := Lib.hid (ifF Bool.false_ne_true HB51.out)
          cases Option.some.inj HB51.out
          try go_wp2_with fail
          go_meet
          case rel => exact ⟨rfl, HWC52⟩
        · replace HB51 := Lib.hid (ifT rfl HB51.out)
          obtain ⟨y59, hy57, hm⟩ := obind HB51.out
          replace HB51 := Lib.hid hm; clear hm
          have HC58 := SE_Rows_ok W56 cap48 HR49.out cap40 HR41.out hy57
          clear hy57
          replace HC58 := Lib.hid HC58
          go_wp2_with fail
          refine HC58.out.mono ?_; rintro e W60 ⟨rfl, hd⟩
          replace HOA := Lib.hid (HOA.out.below (hd.below _))
          replace HR41 := Lib.hid (rdR (hd.below _) HR41.out)
          replace HR49 := Lib.hid (rdR (hd.below _) HR49.out)
          replace HD := Lib.hid (HD.out.trans ((hd.below _).mono HD.out.size))
          replace HWC52 := Lib.hid (HWC52.out.trans ((hd.below _).mono HWC52.out.size))
          clear hd
          cases y59
          · replace HB51 := Lib.hid (ifF Bool.false_ne_true HB51.out)
            cases Option.some.inj HB51.out
            try go_wp2_with fail
            go_meet
            case rel => exact ⟨rfl, HWC52⟩
          · replace HB51 := Lib.hid (ifT rfl HB51.out)
            cases Option.some.inj HB51.out
            try go_wp2_with fail
            go_meet
            case rel => exact ⟨rfl, HWC52⟩
      case rest =>
        obtain ⟨rfl, HWC52⟩ := hcut
        rename World => W61
        have hd := HWC52.out
        replace HOA := Lib.hid (HOA.out.below hd)
        replace HR41 := Lib.hid (rdR hd HR41.out)
        replace HR49 := Lib.hid (rdR hd HR49.out)
        replace HD := Lib.hid (HD.out.trans (hd.mono HD.out.size))
        clear hd
        obtain ⟨⟨y64, y65⟩, hy62, hm⟩ := obind HM.out
        dsimp only at hm
        replace HM := Lib.hid hm; clear hm
        have HC63 := mMost_ok W61 cap1 (rdL HD.out HR1.out) hy62
        clear hy62
        replace HC63 := Lib.hid HC63
        go_wp2_with fail
        refine HC63.out.mono ?_; rintro e W66 ⟨rfl, hd⟩
        replace HOA := Lib.hid (HOA.out.below hd)
        replace HR41 := Lib.hid (rdR hd HR41.out)
        replace HR49 := Lib.hid (rdR hd HR49.out)
        replace HD := Lib.hid (HD.out.trans (hd.mono HD.out.size))
        clear hd
        go_upto_region 12 with (fail)
        obtain ⟨b67, hb, hm⟩ := obind HM.out
        replace HM := Lib.hid hm; have HB68 := Lib.hid hb; clear hm hb
        go_cut [13] (fun uq wr => uq = .bool b67 ∧ Hid (Below W66.heap.size W66 wr))
        case first =>
          have HWC69 := Lib.hid (Below.refl W66.heap.size W66)
          obtain ⟨y72, hy70, hm⟩ := obind HB68.out
          replace HB68 := Lib.hid hm; clear hm
          have HC71 := mErr_ok W66 (HTC.out.go HD.out)  hy70
          clear hy70
          replace HC71 := Lib.hid HC71
          go_wp2_with fail
          refine HC71.out.mono ?_; rintro e W73 ⟨rfl, hd⟩
          replace HOA := Lib.hid (HOA.out.below hd)
          replace HR41 := Lib.hid (rdR hd HR41.out)
          replace HR49 := Lib.hid (rdR hd HR49.out)
          replace HD := Lib.hid (HD.out.trans (hd.mono HD.out.size))
          replace HWC69 := Lib.hid (HWC69.out.trans (hd.mono HWC69.out.size))
          clear hd
          cases y72
          · replace HB68 := Lib.hid (ifF Bool.false_ne_true HB68.out)
            cases Option.some.inj HB68.out
            try go_wp2_with fail
            go_meet
            case rel => exact ⟨rfl, HWC69⟩
          · replace HB68 := Lib.hid (ifT rfl HB68.out)
            rcases Bool.eq_false_or_eq_true (y64 == x7) with hc74 | hc74
            · replace HB68 := Lib.hid (ifT hc74 HB68.out)
              have HK75 := Lib.hid hc74
              cases Option.some.inj HB68.out
              try go_wp2_with fail
              go_meet
              case rel => exact ⟨rfl, HWC69⟩
            · replace HB68 := Lib.hid (ifF (bF hc74) HB68.out)
              have HK75 := Lib.hid hc74
              cases Option.some.inj HB68.out
              try go_wp2_with fail
              go_meet
              case rel => exact ⟨rfl, HWC69⟩
        case rest =>
          obtain ⟨rfl, HWC69⟩ := hcut
          rename World => W76
          have hd := HWC69.out
          replace HOA := Lib.hid (HOA.out.below hd)
          replace HR41 := Lib.hid (rdR hd HR41.out)
          replace HR49 := Lib.hid (rdR hd HR49.out)
          replace HD := Lib.hid (HD.out.trans (hd.mono HD.out.size))
          clear hd
          obtain ⟨⟨y79, y80⟩, hy77, hm⟩ := obind HM.out
          dsimp only at hm
          replace HM := Lib.hid hm; clear hm
          have HC78 := mApart_ok W76 cap1 (rdL HD.out HR1.out) hy77
          clear hy77
          replace HC78 := Lib.hid HC78
          go_wp2_with fail
          refine HC78.out.mono ?_; rintro e W81 ⟨rfl, hd⟩
          replace HOA := Lib.hid (HOA.out.below hd)
          replace HR41 := Lib.hid (rdR hd HR41.out)
          replace HR49 := Lib.hid (rdR hd HR49.out)
          replace HD := Lib.hid (HD.out.trans (hd.mono HD.out.size))
          clear hd
          obtain ⟨b82, hb, hm⟩ := obind HM.out
          replace HM := Lib.hid hm; have HB83 := Lib.hid hb; clear hm hb
          obtain ⟨b84, hb, hm⟩ := obind HB83.out
          replace HB83 := Lib.hid hm; have HB85 := Lib.hid hb; clear hm hb
          obtain ⟨b86, hb, hm⟩ := obind HB85.out
          replace HB85 := Lib.hid hm; have HB87 := Lib.hid hb; clear hm hb
          cases b50
          · replace HB87 := Lib.hid (ifF Bool.false_ne_true HB87.out)
            obtain rfl := Option.some.inj HB87.out
            replace HB85 := Lib.hid (ifF (by first | exact Bool.false_ne_true | exact not_false) HB85.out)
            obtain rfl := Option.some.inj HB85.out
            replace HB83 := Lib.hid (ifF (by first | exact Bool.false_ne_true | exact not_false) HB83.out)
            obtain rfl := Option.some.inj HB83.out
            obtain rfl := Option.some.inj HM.out
            go_wp2_with fail
            go_ret
            exact ⟨rfl, HD.out⟩
          · replace HB87 := Lib.hid (ifT rfl HB87.out)
            cases b67
            · replace HB87 := Lib.hid (ifF Bool.false_ne_true HB87.out)
              obtain rfl := Option.some.inj HB87.out
              replace HB85 := Lib.hid (ifF (by first | exact Bool.false_ne_true | exact not_false) HB85.out)
              obtain rfl := Option.some.inj HB85.out
              replace HB83 := Lib.hid (ifF (by first | exact Bool.false_ne_true | exact not_false) HB83.out)
              obtain rfl := Option.some.inj HB83.out
              obtain rfl := Option.some.inj HM.out
              go_wp2_with fail
              go_ret
              exact ⟨rfl, HD.out⟩
            · replace HB87 := Lib.hid (ifT rfl HB87.out)
              obtain rfl := Option.some.inj HB87.out
              replace HB85 := Lib.hid (ifT (by first | rfl | trivial) HB85.out)
              obtain ⟨y90, hy88, hm⟩ := obind HB85.out
              replace HB85 := Lib.hid hm; clear hm
              have HC89 := mErr_ok W81 (HTC.out.go HD.out)  hy88
              clear hy88
              replace HC89 := Lib.hid HC89
              go_wp2_with fail
              refine HC89.out.mono ?_; rintro e W91 ⟨rfl, hd⟩
              replace HOA := Lib.hid (HOA.out.below hd)
              replace HR41 := Lib.hid (rdR hd HR41.out)
              replace HR49 := Lib.hid (rdR hd HR49.out)
              replace HD := Lib.hid (HD.out.trans (hd.mono HD.out.size))
              clear hd
              cases y90
              · replace HB85 := Lib.hid (ifF Bool.false_ne_true HB85.out)
                obtain rfl := Option.some.inj HB85.out
                replace HB83 := Lib.hid (ifF (by first | exact Bool.false_ne_true | exact not_false) HB83.out)
                obtain rfl := Option.some.inj HB83.out
                obtain rfl := Option.some.inj HM.out
                go_wp2_with fail
                go_ret
                exact ⟨rfl, HD.out⟩
              · replace HB85 := Lib.hid (ifT rfl HB85.out)
                obtain rfl := Option.some.inj HB85.out
                replace HB83 := Lib.hid (ifT (by first | rfl | trivial) HB83.out)
                rcases Bool.eq_false_or_eq_true (y79 == x8) with hc92 | hc92
                · replace HB83 := Lib.hid (ifT hc92 HB83.out)
                  have HK93 := Lib.hid hc92
                  obtain rfl := Option.some.inj HB83.out
                  obtain rfl := Option.some.inj HM.out
                  go_wp2_with fail
                  go_ret
                  exact ⟨(by first | rfl | (refine congrArg (fun b => Ending.returned (Value.bool b)) ?_; first | (exact decide_eq_true (by omega)) | (exact decide_eq_false (by omega)) | (have q := hc92; rw [bne_iff_ne] at q ⊢; omega) | (have q := hc92; rw [bne_eq_false_iff_eq] at q ⊢; omega) | (have q := hc92; rw [beq_iff_eq] at q ⊢; omega) | (have q := hc92; rw [beq_eq_false_iff_ne] at q ⊢; omega))), HD.out⟩
                · replace HB83 := Lib.hid (ifF (bF hc92) HB83.out)
                  have HK93 := Lib.hid hc92
                  obtain rfl := Option.some.inj HB83.out
                  obtain rfl := Option.some.inj HM.out
                  go_wp2_with fail
                  go_ret
                  exact ⟨(by first | rfl | (refine congrArg (fun b => Ending.returned (Value.bool b)) ?_; first | (exact decide_eq_true (by omega)) | (exact decide_eq_false (by omega)) | (have q := hc92; rw [bne_iff_ne] at q ⊢; omega) | (have q := hc92; rw [bne_eq_false_iff_eq] at q ⊢; omega) | (have q := hc92; rw [beq_iff_eq] at q ⊢; omega) | (have q := hc92; rw [beq_eq_false_iff_ne] at q ⊢; omega))), HD.out⟩
end Go.Proofs.YtpcmofhmhggcoaaDoor
