import Derived.Test.YtcbalejnkhnppaaDoorHf
import Derived.Test.YtcbalejnkhnppaaDoorHa
import Derived.Test.YtcbalejnkhnppaaDoorWi
import Derived.Test.YtcbalejnkhnppaaDoorTCk
import Derived.Test.YtcbalejnkhnppaaDoorGR
import Derived.Test.YtcbalejnkhnppaaDoorSlc
import Derived.Test.YtcbalejnkhnppaaDoorCh
import Derived.Test.YtcbalejnkhnppaaDoorCh2
import Derived.Test.YtcbalejnkhnppaaDoorBox
import Derived.Test.YtcbalejnkhnppaaDoorErr
set_option linter.all false
set_option maxRecDepth 100000
namespace Go.Proofs.YtcbalejnkhnppaaDoor
open Go.RowKit
attribute [local go_sem] Oper.semAt_some
def L3_ChordalLess (F : Nat) (v0 : Int) (v1 : List (Int × Int)) (v2 : Int) : Option (Bool) := (L3_chordalFact F ).bind fun y1 => (if y1 = true then (chordal_Peel F (v0) (v1)).bind fun y2 => (((tree_Check F (v0) (v1)).bind fun y4 => if (y4 == 0) = true then if (y2.2 != 0) = true then some true else some false else some false).bind fun b3 => if b3 = true then some (false) else (if (y2.2 != 0) = true then (if (((y2.1).length : Int) == 0) = true then some true else some false).bind fun b5 => some (b5) else (graph_Without F (v0) (v1) (v2)).bind fun y6 => (if (y6.2 != 0) = true then (if (v0 == 1) = true then some true else (L3_in F (v2) (0) ((wrap64 (v0 - 1)))).bind fun y8 => if y8 = true then some false else some true).bind fun b7 => some (b7) else (chordal_Peel F ((wrap64 (v0 - 1))) (y6.1)).bind fun y9 => (if (y9.2 == 0) = true then some true else some false).bind fun b10 => some (b10)))) else some (false))
set_option maxRecDepth 100000 in
set_option maxHeartbeats 4000000 in
theorem L3_ChordalLess_ok {F : Nat} {v0 : Int} {v1 : List (Int × Int)} {A1 : Option Addr} {v2 : Int} {r : Bool} (w : World) (htc : TyCell w) (cap1 : Nat) (hr1 : ReadsL w w.heap.size A1 v1) (h : L3_ChordalLess F v0 v1 v2 = some r) :
    Calls Tryd.prog 6 #[.int .i64 v0, .slice A1 v1.length cap1, .int .i64 v2] w fun e w' => e = .returned (.bool r) ∧ Below w.heap.size w w' := by
  have HTC := Lib.hid htc; clear htc
  have HR1 := Lib.hid hr1; clear hr1
  have HD := Lib.hid (Below.refl w.heap.size w)
  have HOA := Lib.hid (HP.nil (W := w) (B := w.heap.size))
  unfold L3_ChordalLess at h
  have HM := Lib.hid h; clear h
  go_enter Tryd.func6, Tryd.ntmps6
  obtain ⟨y3, hy1, hm⟩ := obind HM.out
  replace HM := Lib.hid hm; clear hm
  have HC2 := L3_chordalFact_ok w (HTC.out.go HD.out)  hy1
  clear hy1
  replace HC2 := Lib.hid HC2
  go_wp2_with fail
  refine HC2.out.mono ?_; rintro e W4 ⟨rfl, hd⟩
  replace HOA := Lib.hid (HOA.out.below hd)
  replace HD := Lib.hid (HD.out.trans (hd.mono HD.out.size))
  clear hd
  cases y3
  · replace HM := Lib.hid (ifF Bool.false_ne_true HM.out)
    obtain rfl := Option.some.inj HM.out
    go_wp2_with fail
    go_ret
    exact ⟨rfl, HD.out⟩
  · replace HM := Lib.hid (ifT rfl HM.out)
    obtain ⟨⟨y7, y8⟩, hy5, hm⟩ := obind HM.out
    dsimp only at hm
    replace HM := Lib.hid hm; clear hm
    have HC6 := chordal_Peel_ok W4 cap1 (rdL HD.out HR1.out) hy5
    clear hy5
    by_cases hz9 : y8 = 0
    · subst hz9
      rw [errV_zero] at HC6; replace HC6 := Lib.hid HC6
      go_wp2_with fail
      refine HC6.out.mono ?_; rintro e W10 ⟨V11, rfl, ho, hd⟩
      replace HOA := Lib.hid (HOA.out.call hd HD.out.size ho); clear ho
      replace HD := Lib.hid (HD.out.trans (hd.mono HD.out.size))
      clear hd
      go_upto_region 5 with (fail)
      obtain ⟨b17, hb, hm⟩ := obind HM.out
      replace HM := Lib.hid hm; have HB18 := Lib.hid hb; clear hm hb
      go_cut [27] (fun uq wr => uq = .bool b17 ∧ Hid (Below W10.heap.size W10 wr))
      case first =>
        have HWC19 := Lib.hid (Below.refl W10.heap.size W10)
        obtain ⟨y22, hy20, hm⟩ := obind HB18.out
        replace HB18 := Lib.hid hm; clear hm
        have HC21 := tree_Check_ok W10 cap1 (rdL HD.out HR1.out) hy20
        clear hy20
        by_cases hz23 : y22 = 0
        · subst hz23
          rw [errV_zero] at HC21; replace HC21 := Lib.hid HC21
          go_wp2_with fail
          refine HC21.out.mono ?_; rintro e W24 ⟨rfl, hd⟩
          replace HOA := Lib.hid (HOA.out.below hd)
          replace HD := Lib.hid (HD.out.trans (hd.mono HD.out.size))
          replace HWC19 := Lib.hid (HWC19.out.trans (hd.mono HWC19.out.size))
          clear hd
          replace HB18 := Lib.hid (ifT (by decide) HB18.out)
          replace HB18 := Lib.hid (ifF (by decide) HB18.out)
          cases Option.some.inj HB18.out
          try go_wp2_with fail
          go_meet
          case rel => exact ⟨rfl, HWC19⟩
        · rw [errV_pos _ hz23] at HC21; replace HC21 := Lib.hid HC21
          go_wp2_with fail
          refine HC21.out.mono ?_; rintro e W25 ⟨rfl, hd⟩
          replace HOA := Lib.hid (HOA.out.below hd)
          replace HD := Lib.hid (HD.out.trans (hd.mono HD.out.size))
          replace HWC19 := Lib.hid (HWC19.out.trans (hd.mono HWC19.out.size))
          clear hd
          have HZ26 := Lib.hid hz23; clear hz23
          replace HB18 := Lib.hid (ifF (fun h => HZ26.out (eq_of_beq h)) HB18.out)
          cases Option.some.inj HB18.out
          try go_wp2_with fail
          go_meet
          case rel => exact ⟨rfl, HWC19⟩
      case rest =>
        obtain ⟨rfl, HWC19⟩ := hcut
        rename World => W27
        have hd := HWC19.out
        replace HOA := Lib.hid (HOA.out.below hd)
        replace HD := Lib.hid (HD.out.trans (hd.mono HD.out.size))
        clear hd
        cases b17
        · replace HM := Lib.hid (ifF Bool.false_ne_true HM.out)
          replace HM := Lib.hid (ifF (by decide) HM.out)
          obtain ⟨⟨y30, y31⟩, hy28, hm⟩ := obind HM.out
          dsimp only at hm
          replace HM := Lib.hid hm; clear hm
          have HC29 := graph_Without_ok W27 cap1 (rdL HD.out HR1.out) hy28
          clear hy28
          by_cases hz32 : y31 = 0
          · subst hz32
            rw [errV_zero] at HC29; replace HC29 := Lib.hid HC29
            go_wp2_with fail
            refine HC29.out.mono ?_; rintro e W33 ⟨V34, rfl, ho, hd⟩
            replace HOA := Lib.hid (HOA.out.call hd HD.out.size ho); clear ho
            replace HD := Lib.hid (HD.out.trans (hd.mono HD.out.size))
            clear hd
            replace HM := Lib.hid (ifF (by decide) HM.out)
            obtain ⟨⟨y42, y43⟩, hy40, hm⟩ := obind HM.out
            dsimp only at hm
            replace HM := Lib.hid hm; clear hm
            obtain ⟨A44, cap45, he, _⟩ := HP.open_L HOA.out (List.Mem.head _)
            subst he
            have HC41 := chordal_Peel_ok W33 cap45 (HP.rd_L HOA.out (List.Mem.head _)) hy40
            clear hy40
            by_cases hz46 : y43 = 0
            · subst hz46
              rw [errV_zero] at HC41; replace HC41 := Lib.hid HC41
              go_wp2_with fail
              refine HC41.out.mono ?_; rintro e W47 ⟨V48, rfl, ho, hd⟩
              replace HOA := Lib.hid (HOA.out.call hd HD.out.size ho); clear ho
              replace HD := Lib.hid (HD.out.trans (hd.mono HD.out.size))
              clear hd
              obtain ⟨b54, hb, hm⟩ := obind HM.out
              replace HM := Lib.hid hm; have HB55 := Lib.hid hb; clear hm hb
              replace HB55 := Lib.hid (ifT (by decide) HB55.out)
              obtain rfl := Option.some.inj HB55.out
              obtain rfl := Option.some.inj HM.out
              go_wp2_with fail
              go_ret
              exact ⟨rfl, HD.out⟩
            · rw [errV_pos _ hz46] at HC41; replace HC41 := Lib.hid HC41
              go_wp2_with fail
              refine HC41.out.mono ?_; rintro e W50 ⟨V51, rfl, ho, hd⟩
              replace HOA := Lib.hid (HOA.out.call hd HD.out.size ho); clear ho
              replace HD := Lib.hid (HD.out.trans (hd.mono HD.out.size))
              clear hd
              have HZ53 := Lib.hid hz46; clear hz46
              obtain ⟨b56, hb, hm⟩ := obind HM.out
              replace HM := Lib.hid hm; have HB57 := Lib.hid hb; clear hm hb
              replace HB57 := Lib.hid (ifF (fun h => HZ53.out (eq_of_beq h)) HB57.out)
              obtain rfl := Option.some.inj HB57.out
              obtain rfl := Option.some.inj HM.out
              go_wp2_with fail
              go_ret
              exact ⟨rfl, HD.out⟩
          · rw [errV_pos _ hz32] at HC29; replace HC29 := Lib.hid HC29
            go_wp2_with fail
            refine HC29.out.mono ?_; rintro e W36 ⟨V37, rfl, ho, hd⟩
            replace HOA := Lib.hid (HOA.out.call hd HD.out.size ho); clear ho
            replace HD := Lib.hid (HD.out.trans (hd.mono HD.out.size))
            clear hd
            have HZ39 := Lib.hid hz32; clear hz32
            replace HM := Lib.hid (ifT (bne_iff_ne.2 HZ39.out) HM.out)
            obtain ⟨b58, hb, hm⟩ := obind HM.out
            replace HM := Lib.hid hm; have HB59 := Lib.hid hb; clear hm hb
            rcases Bool.eq_false_or_eq_true (v0 == 1) with hc60 | hc60
            · replace HB59 := Lib.hid (ifT hc60 HB59.out)
              have HK61 := Lib.hid hc60
              obtain rfl := Option.some.inj HB59.out
              obtain rfl := Option.some.inj HM.out
              go_wp2_with fail
              go_ret
              exact ⟨(by first | rfl | (refine congrArg (fun b => Ending.returned (Value.bool b)) ?_; first | (exact decide_eq_true (by omega)) | (exact decide_eq_false (by omega)) | (have q := hc60; rw [bne_iff_ne] at q ⊢; omega) | (have q := hc60; rw [bne_eq_false_iff_eq] at q ⊢; omega) | (have q := hc60; rw [beq_iff_eq] at q ⊢; omega) | (have q := hc60; rw [beq_eq_false_iff_ne] at q ⊢; omega))), HD.out⟩
            · replace HB59 := Lib.hid (ifF (bF hc60) HB59.out)
              have HK61 := Lib.hid hc60
              obtain ⟨y64, hy62, hm⟩ := obind HB59.out
              replace HB59 := Lib.hid hm; clear hm
              have HC63 := L3_in_ok W36  hy62
              clear hy62
              replace HC63 := Lib.hid HC63
              cases y64
              · replace HB59 := Lib.hid (ifF Bool.false_ne_true HB59.out)
                obtain rfl := Option.some.inj HB59.out
                obtain rfl := Option.some.inj HM.out
                go_wp2_with fail
                refine HC63.out.mono ?_; rintro e w' ⟨rfl, rfl⟩
                go_wp2_with fail
                go_ret
                exact ⟨(by first | rfl | (refine congrArg (fun b => Ending.returned (Value.bool b)) ?_; first | (exact decide_eq_true (by omega)) | (exact decide_eq_false (by omega)) | (have q := hc60; rw [bne_iff_ne] at q ⊢; omega) | (have q := hc60; rw [bne_eq_false_iff_eq] at q ⊢; omega) | (have q := hc60; rw [beq_iff_eq] at q ⊢; omega) | (have q := hc60; rw [beq_eq_false_iff_ne] at q ⊢; omega))), HD.out⟩
              · replace HB59 := Lib.hid (ifT rfl HB59.out)
                obtain rfl := Option.some.inj HB59.out
                obtain rfl := Option.some.inj HM.out
                go_wp2_with fail
                refine HC63.out.mono ?_; rintro e w' ⟨rfl, rfl⟩
                go_wp2_with fail
                go_ret
                exact ⟨(by first | rfl | (refine congrArg (fun b => Ending.returned (Value.bool b)) ?_; first | (exact decide_eq_true (by omega)) | (exact decide_eq_false (by omega)) | (have q := hc60; rw [bne_iff_ne] at q ⊢; omega) | (have q := hc60; rw [bne_eq_false_iff_eq] at q ⊢; omega) | (have q := hc60; rw [beq_iff_eq] at q ⊢; omega) | (have q := hc60; rw [beq_eq_false_iff_ne] at q ⊢; omega))), HD.out⟩
        · replace HM := Lib.hid (ifT rfl HM.out)
          obtain rfl := Option.some.inj HM.out
          go_wp2_with fail
          go_ret
          exact ⟨rfl, HD.out⟩
    · rw [errV_pos _ hz9] at HC6; replace HC6 := Lib.hid HC6
      go_wp2_with fail
      refine HC6.out.mono ?_; rintro e W13 ⟨V14, rfl, ho, hd⟩
      replace HOA := Lib.hid (HOA.out.call hd HD.out.size ho); clear ho
      replace HD := Lib.hid (HD.out.trans (hd.mono HD.out.size))
      clear hd
      have HZ16 := Lib.hid hz9; clear hz9
      go_upto_region 5 with (fail)
      obtain ⟨b65, hb, hm⟩ := obind HM.out
      replace HM := Lib.hid hm; have HB66 := Lib.hid hb; clear hm hb
      go_cut [27] (fun uq wr => uq = .bool b65 ∧ Hid (Below W13.heap.size W13 wr))
      case first =>
        have HWC67 := Lib.hid (Below.refl W13.heap.size W13)
        obtain ⟨y70, hy68, hm⟩ := obind HB66.out
        replace HB66 := Lib.hid hm; clear hm
        have HC69 := tree_Check_ok W13 cap1 (rdL HD.out HR1.out) hy68
        clear hy68
        by_cases hz71 : y70 = 0
        · subst hz71
          rw [errV_zero] at HC69; replace HC69 := Lib.hid HC69
          go_wp2_with fail
          refine HC69.out.mono ?_; rintro e W72 ⟨rfl, hd⟩
          replace HOA := Lib.hid (HOA.out.below hd)
          replace HD := Lib.hid (HD.out.trans (hd.mono HD.out.size))
          replace HWC67 := Lib.hid (HWC67.out.trans (hd.mono HWC67.out.size))
          clear hd
          replace HB66 := Lib.hid (ifT (by decide) HB66.out)
          replace HB66 := Lib.hid (ifT (bne_iff_ne.2 HZ16.out) HB66.out)
          cases Option.some.inj HB66.out
          try go_wp2_with fail
          go_meet
          case rel => exact ⟨rfl, HWC67⟩
        · rw [errV_pos _ hz71] at HC69; replace HC69 := Lib.hid HC69
          go_wp2_with fail
          refine HC69.out.mono ?_; rintro e W73 ⟨rfl, hd⟩
          replace HOA := Lib.hid (HOA.out.below hd)
          replace HD := Lib.hid (HD.out.trans (hd.mono HD.out.size))
          replace HWC67 := Lib.hid (HWC67.out.trans (hd.mono HWC67.out.size))
          clear hd
          have HZ74 := Lib.hid hz71; clear hz71
          replace HB66 := Lib.hid (ifF (fun h => HZ74.out (eq_of_beq h)) HB66.out)
          cases Option.some.inj HB66.out
          try go_wp2_with fail
          go_meet
          case rel => exact ⟨rfl, HWC67⟩
      case rest =>
        obtain ⟨rfl, HWC67⟩ := hcut
        rename World => W75
        have hd := HWC67.out
        replace HOA := Lib.hid (HOA.out.below hd)
        replace HD := Lib.hid (HD.out.trans (hd.mono HD.out.size))
        clear hd
        cases b65
        · replace HM := Lib.hid (ifF Bool.false_ne_true HM.out)
          replace HM := Lib.hid (ifT (bne_iff_ne.2 HZ16.out) HM.out)
          obtain ⟨b76, hb, hm⟩ := obind HM.out
          replace HM := Lib.hid hm; have HB77 := Lib.hid hb; clear hm hb
          obtain ⟨A78, cap79, he, _⟩ := HP.open_I HOA.out (List.Mem.head _)
          subst he
          rcases Bool.eq_false_or_eq_true (((y7).length : Int) == 0) with hc80 | hc80
          · replace HB77 := Lib.hid (ifT hc80 HB77.out)
            have HK81 := Lib.hid hc80
            obtain rfl := Option.some.inj HB77.out
            obtain rfl := Option.some.inj HM.out
            go_wp2_with fail
            go_ret
            exact ⟨(by first | rfl | (refine congrArg (fun b => Ending.returned (Value.bool b)) ?_; first | (exact decide_eq_true (by omega)) | (exact decide_eq_false (by omega)) | (have q := hc80; rw [bne_iff_ne] at q ⊢; omega) | (have q := hc80; rw [bne_eq_false_iff_eq] at q ⊢; omega) | (have q := hc80; rw [beq_iff_eq] at q ⊢; omega) | (have q := hc80; rw [beq_eq_false_iff_ne] at q ⊢; omega))), HD.out⟩
          · replace HB77 := Lib.hid (ifF (bF hc80) HB77.out)
            have HK81 := Lib.hid hc80
            obtain rfl := Option.some.inj HB77.out
            obtain rfl := Option.some.inj HM.out
            go_wp2_with fail
            go_ret
            exact ⟨(by first | rfl | (refine congrArg (fun b => Ending.returned (Value.bool b)) ?_; first | (exact decide_eq_true (by omega)) | (exact decide_eq_false (by omega)) | (have q := hc80; rw [bne_iff_ne] at q ⊢; omega) | (have q := hc80; rw [bne_eq_false_iff_eq] at q ⊢; omega) | (have q := hc80; rw [beq_iff_eq] at q ⊢; omega) | (have q := hc80; rw [beq_eq_false_iff_ne] at q ⊢; omega))), HD.out⟩
        · replace HM := Lib.hid (ifT rfl HM.out)
          obtain rfl := Option.some.inj HM.out
          go_wp2_with fail
          go_ret
          exact ⟨rfl, HD.out⟩
end Go.Proofs.YtcbalejnkhnppaaDoor
