import Derived.Test.YtlecmgdkoanghaaCb
import Derived.Test.YtlecmgdkoanghaaWi
import Derived.Test.YtlecmgdkoanghaaGR
import Derived.Test.YtlecmgdkoanghaaSlc
import Derived.Test.YtlecmgdkoanghaaBox
set_option linter.all false
set_option maxRecDepth 100000
namespace Go.Proofs.Ytlecmgdkoanghaa
open Go.RowKit
attribute [local go_sem] Oper.semAt_some
def L3_ColorLess (F : Nat) (v0 : Int) (v1 : List (Int × Int)) (v2 : Int) : Option (Bool) := (L3_colorFact F ).bind fun y1 => (if y1 = true then (color_Least F (v0) (v1)).bind fun y2 => (if (y2.2 != 0) = true then (if (y2.1 == 0) = true then some true else some false).bind fun b3 => some (b3) else ((L3_in F (v2) (0) ((wrap64 (((v1).length : Int) - 1)))).bind fun y4 => if y4 = true then (R1_But F (v1) (v2)).bind fun y5 => (color_Least F (v0) (y5)).bind fun y6 => ((if (y6.2 != 0) = true then some true else if (y6.1 != y2.1) = true then if (y6.1 != (wrap64 (y2.1 - 1))) = true then some true else some false else some false).bind fun b7 => if b7 = true then some (false) else (graph_Without F (v0) (v1) (v2)).bind fun y8 => (if (y8.2 != 0) = true then (if (v0 == 1) = true then some true else (L3_in F (v2) (0) ((wrap64 (v0 - 1)))).bind fun y10 => if y10 = true then some false else some true).bind fun b9 => some (b9) else (color_Least F ((wrap64 (v0 - 1))) (y8.1)).bind fun y11 => (if (y11.2 == 0) = true then if (y11.1 == y2.1) = true then some true else if (y11.1 == (wrap64 (y2.1 - 1))) = true then some true else some false else some false).bind fun b12 => some (b12))) else (graph_Without F (v0) (v1) (v2)).bind fun y13 => (if (y13.2 != 0) = true then (if (v0 == 1) = true then some true else (L3_in F (v2) (0) ((wrap64 (v0 - 1)))).bind fun y15 => if y15 = true then some false else some true).bind fun b14 => some (b14) else (color_Least F ((wrap64 (v0 - 1))) (y13.1)).bind fun y16 => (if (y16.2 == 0) = true then if (y16.1 == y2.1) = true then some true else if (y16.1 == (wrap64 (y2.1 - 1))) = true then some true else some false else some false).bind fun b17 => some (b17)))) else some (false))
set_option maxRecDepth 100000 in
set_option maxHeartbeats 4000000 in
theorem L3_ColorLess_ok {F : Nat} {v0 : Int} {v1 : List (Int × Int)} {A1 : Option Addr} {v2 : Int} {r : Bool} (w : World) (cap1 : Nat) (hr1 : ReadsL w w.heap.size A1 v1) (h : L3_ColorLess F v0 v1 v2 = some r) :
    Calls Try.prog 4 #[.int .i64 v0, .slice A1 v1.length cap1, .int .i64 v2] w fun e w' => e = .returned (.bool r) ∧ Below w.heap.size w w' := by
  have HR1 := Lib.hid hr1; clear hr1
  have HD := Lib.hid (Below.refl w.heap.size w)
  have HOA := Lib.hid (HP.nil (W := w) (B := w.heap.size))
  unfold L3_ColorLess at h
  have HM := Lib.hid h; clear h
  go_enter Try.func4, Try.ntmps4
  obtain ⟨y3, hy1, hm⟩ := obind HM.out
  replace HM := Lib.hid hm; clear hm
  have HC2 := L3_colorFact_ok w  hy1
  clear hy1
  replace HC2 := Lib.hid HC2
  go_wp2_with fail
  refine HC2.out.mono ?_; rintro e W4 ⟨rfl, hd⟩
  replace HOA := Lib.hid (HOA.out.below hd)
  replace HD := Lib.hid (HD.out.trans (hd.mono HD.out.size))
  clear hd
  cases y3
  · replace HM := Lib.hid (ifF Bool.false_ne_true HM.out)
    obtain rfl := Option.some.inj HM.out
    go_wp2_with fail
    go_ret
    exact ⟨rfl, HD.out⟩
  · replace HM := Lib.hid (ifT rfl HM.out)
    obtain ⟨⟨y7, y8⟩, hy5, hm⟩ := obind HM.out
    dsimp only at hm
    replace HM := Lib.hid hm; clear hm
    have HC6 := color_Least_ok W4 cap1 (rdL HD.out HR1.out) hy5
    clear hy5
    by_cases hz9 : y8 = 0
    · subst hz9
      rw [errV_zero] at HC6; replace HC6 := Lib.hid HC6
      go_wp2_with fail
      refine HC6.out.mono ?_; rintro e W10 ⟨rfl, hd⟩
      replace HOA := Lib.hid (HOA.out.below hd)
      replace HD := Lib.hid (HD.out.trans (hd.mono HD.out.size))
      clear hd
      replace HM := Lib.hid (ifF (by decide) HM.out)
      obtain ⟨y15, hy13, hm⟩ := obind HM.out
      replace HM := Lib.hid hm; clear hm
      have HC14 := L3_in_ok W10  hy13
      clear hy13
      replace HC14 := Lib.hid HC14
      cases y15
      · replace HM := Lib.hid (ifF Bool.false_ne_true HM.out)
        obtain ⟨⟨y18, y19⟩, hy16, hm⟩ := obind HM.out
        dsimp only at hm
        replace HM := Lib.hid hm; clear hm
        have HC17 := graph_Without_ok W10 cap1 (rdL HD.out HR1.out) hy16
        clear hy16
        by_cases hz20 : y19 = 0
        · subst hz20
          rw [errV_zero] at HC17; replace HC17 := Lib.hid HC17
          go_wp2_with fail
          refine HC14.out.mono ?_; rintro e w' ⟨rfl, rfl⟩
          go_wp2_with fail
          refine HC17.out.mono ?_; rintro e W21 ⟨V22, rfl, ho, hd⟩
          replace HOA := Lib.hid (HOA.out.call hd HD.out.size ho); clear ho
          replace HD := Lib.hid (HD.out.trans (hd.mono HD.out.size))
          clear hd
          replace HM := Lib.hid (ifF (by decide) HM.out)
          obtain ⟨⟨y30, y31⟩, hy28, hm⟩ := obind HM.out
          dsimp only at hm
          replace HM := Lib.hid hm; clear hm
          obtain ⟨A32, cap33, he, _⟩ := HP.open_L HOA.out (List.Mem.head _)
          subst he
          have HC29 := color_Least_ok W21 cap33 (HP.rd_L HOA.out (List.Mem.head _)) hy28
          clear hy28
          by_cases hz34 : y31 = 0
          · subst hz34
            rw [errV_zero] at HC29; replace HC29 := Lib.hid HC29
            go_wp2_with fail
            refine HC29.out.mono ?_; rintro e W35 ⟨rfl, hd⟩
            replace HOA := Lib.hid (HOA.out.below hd)
            replace HD := Lib.hid (HD.out.trans (hd.mono HD.out.size))
            clear hd
            obtain ⟨b38, hb, hm⟩ := obind HM.out
            replace HM := Lib.hid hm; have HB39 := Lib.hid hb; clear hm hb
            replace HB39 := Lib.hid (ifT (by decide) HB39.out)
            rcases Bool.eq_false_or_eq_true (y30 == y7) with hc40 | hc40
            · replace HB39 := Lib.hid (ifT hc40 HB39.out)
              have HK41 := Lib.hid hc40
              obtain rfl := Option.some.inj HB39.out
              obtain rfl := Option.some.inj HM.out
              go_wp2_with fail
              go_ret
              exact ⟨(by first | rfl | (refine congrArg (fun b => Ending.returned (Value.bool b)) ?_; first | (exact decide_eq_true (by omega)) | (exact decide_eq_false (by omega)) | (have q := hc40; rw [bne_iff_ne] at q ⊢; omega) | (have q := hc40; rw [bne_eq_false_iff_eq] at q ⊢; omega) | (have q := hc40; rw [beq_iff_eq] at q ⊢; omega) | (have q := hc40; rw [beq_eq_false_iff_ne] at q ⊢; omega))), HD.out⟩
            · replace HB39 := Lib.hid (ifF (bF hc40) HB39.out)
              have HK41 := Lib.hid hc40
              rcases Bool.eq_false_or_eq_true (y30 == (wrap64 (y7 - 1))) with hc42 | hc42
              · replace HB39 := Lib.hid (ifT hc42 HB39.out)
                have HK43 := Lib.hid hc42
                obtain rfl := Option.some.inj HB39.out
                obtain rfl := Option.some.inj HM.out
                go_wp2_with fail
                go_ret
                exact ⟨(by first | rfl | (refine congrArg (fun b => Ending.returned (Value.bool b)) ?_; first | (exact decide_eq_true (by omega)) | (exact decide_eq_false (by omega)) | (have q := hc40; rw [bne_iff_ne] at q ⊢; omega) | (have q := hc40; rw [bne_eq_false_iff_eq] at q ⊢; omega) | (have q := hc40; rw [beq_iff_eq] at q ⊢; omega) | (have q := hc40; rw [beq_eq_false_iff_ne] at q ⊢; omega) | (have q := hc42; rw [bne_iff_ne] at q ⊢; omega) | (have q := hc42; rw [bne_eq_false_iff_eq] at q ⊢; omega) | (have q := hc42; rw [beq_iff_eq] at q ⊢; omega) | (have q := hc42; rw [beq_eq_false_iff_ne] at q ⊢; omega))), HD.out⟩
              · replace HB39 := Lib.hid (ifF (bF hc42) HB39.out)
                have HK43 := Lib.hid hc42
                obtain rfl := Option.some.inj HB39.out
                obtain rfl := Option.some.inj HM.out
                go_wp2_with fail
                go_ret
                exact ⟨(by first | rfl | (refine congrArg (fun b => Ending.returned (Value.bool b)) ?_; first | (exact decide_eq_true (by omega)) | (exact decide_eq_false (by omega)) | (have q := hc40; rw [bne_iff_ne] at q ⊢; omega) | (have q := hc40; rw [bne_eq_false_iff_eq] at q ⊢; omega) | (have q := hc40; rw [beq_iff_eq] at q ⊢; omega) | (have q := hc40; rw [beq_eq_false_iff_ne] at q ⊢; omega) | (have q := hc42; rw [bne_iff_ne] at q ⊢; omega) | (have q := hc42; rw [bne_eq_false_iff_eq] at q ⊢; omega) | (have q := hc42; rw [beq_iff_eq] at q ⊢; omega) | (have q := hc42; rw [beq_eq_false_iff_ne] at q ⊢; omega))), HD.out⟩
          · rw [errV_pos _ hz34] at HC29; replace HC29 := Lib.hid HC29
            go_wp2_with fail
            refine HC29.out.mono ?_; rintro e W36 ⟨rfl, hd⟩
            replace HOA := Lib.hid (HOA.out.below hd)
            replace HD := Lib.hid (HD.out.trans (hd.mono HD.out.size))
            clear hd
            have HZ37 := Lib.hid hz34; clear hz34
            obtain ⟨b44, hb, hm⟩ := obind HM.out
            replace HM := Lib.hid hm; have HB45 := Lib.hid hb; clear hm hb
            replace HB45 := Lib.hid (ifF (fun h => HZ37.out (eq_of_beq h)) HB45.out)
            obtain rfl := Option.some.inj HB45.out
            obtain rfl := Option.some.inj HM.out
            go_wp2_with fail
            go_ret
            exact ⟨rfl, HD.out⟩
        · rw [errV_pos _ hz20] at HC17; replace HC17 := Lib.hid HC17
          go_wp2_with fail
          refine HC14.out.mono ?_; rintro e w' ⟨rfl, rfl⟩
          go_wp2_with fail
          refine HC17.out.mono ?_; rintro e W24 ⟨V25, rfl, ho, hd⟩
          replace HOA := Lib.hid (HOA.out.call hd HD.out.size ho); clear ho
          replace HD := Lib.hid (HD.out.trans (hd.mono HD.out.size))
          clear hd
          have HZ27 := Lib.hid hz20; clear hz20
          replace HM := Lib.hid (ifT (bne_iff_ne.2 HZ27.out) HM.out)
          obtain ⟨b46, hb, hm⟩ := obind HM.out
          replace HM := Lib.hid hm; have HB47 := Lib.hid hb; clear hm hb
          rcases Bool.eq_false_or_eq_true (v0 == 1) with hc48 | hc48
          · replace HB47 := Lib.hid (ifT hc48 HB47.out)
            have HK49 := Lib.hid hc48
            obtain rfl := Option.some.inj HB47.out
            obtain rfl := Option.some.inj HM.out
            go_wp2_with fail
            go_ret
            exact ⟨(by first | rfl | (refine congrArg (fun b => Ending.returned (Value.bool b)) ?_; first | (exact decide_eq_true (by omega)) | (exact decide_eq_false (by omega)) | (have q := hc48; rw [bne_iff_ne] at q ⊢; omega) | (have q := hc48; rw [bne_eq_false_iff_eq] at q ⊢; omega) | (have q := hc48; rw [beq_iff_eq] at q ⊢; omega) | (have q := hc48; rw [beq_eq_false_iff_ne] at q ⊢; omega))), HD.out⟩
          · replace HB47 := Lib.hid (ifF (bF hc48) HB47.out)
            have HK49 := Lib.hid hc48
            obtain ⟨y52, hy50, hm⟩ := obind HB47.out
            replace HB47 := Lib.hid hm; clear hm
            have HC51 := L3_in_ok W24  hy50
            clear hy50
            replace HC51 := Lib.hid HC51
            cases y52
            · replace HB47 := Lib.hid (ifF Bool.false_ne_true HB47.out)
              obtain rfl := Option.some.inj HB47.out
              obtain rfl := Option.some.inj HM.out
              go_wp2_with fail
              refine HC51.out.mono ?_; rintro e w' ⟨rfl, rfl⟩
              go_wp2_with fail
              go_ret
              exact ⟨(by first | rfl | (refine congrArg (fun b => Ending.returned (Value.bool b)) ?_; first | (exact decide_eq_true (by omega)) | (exact decide_eq_false (by omega)) | (have q := hc48; rw [bne_iff_ne] at q ⊢; omega) | (have q := hc48; rw [bne_eq_false_iff_eq] at q ⊢; omega) | (have q := hc48; rw [beq_iff_eq] at q ⊢; omega) | (have q := hc48; rw [beq_eq_false_iff_ne] at q ⊢; omega))), HD.out⟩
            · replace HB47 := Lib.hid (ifT rfl HB47.out)
              obtain rfl := Option.some.inj HB47.out
              obtain rfl := Option.some.inj HM.out
              go_wp2_with fail
              refine HC51.out.mono ?_; rintro e w' ⟨rfl, rfl⟩
              go_wp2_with fail
              go_ret
              exact ⟨(by first | rfl | (refine congrArg (fun b => Ending.returned (Value.bool b)) ?_; first | (exact decide_eq_true (by omega)) | (exact decide_eq_false (by omega)) | (have q := hc48; rw [bne_iff_ne] at q ⊢; omega) | (have q := hc48; rw [bne_eq_false_iff_eq] at q ⊢; omega) | (have q := hc48; rw [beq_iff_eq] at q ⊢; omega) | (have q := hc48; rw [beq_eq_false_iff_ne] at q ⊢; omega))), HD.out⟩
      · replace HM := Lib.hid (ifT rfl HM.out)
        obtain ⟨y55, hy53, hm⟩ := obind HM.out
        replace HM := Lib.hid hm; clear hm
        have HC54 := R1_But_ok W10 cap1 (rdL HD.out HR1.out) hy53
        clear hy53
        replace HC54 := Lib.hid HC54
        go_wp2_with fail
        refine HC14.out.mono ?_; rintro e w' ⟨rfl, rfl⟩
        go_wp2_with fail
        refine HC54.out.mono ?_; rintro e W56 ⟨V57, rfl, ho, hd⟩
        replace HOA := Lib.hid (HOA.out.call hd HD.out.size ho); clear ho
        replace HD := Lib.hid (HD.out.trans (hd.mono HD.out.size))
        clear hd
        obtain ⟨⟨y61, y62⟩, hy59, hm⟩ := obind HM.out
        dsimp only at hm
        replace HM := Lib.hid hm; clear hm
        obtain ⟨A63, cap64, he, _⟩ := HP.open_L HOA.out (List.Mem.head _)
        subst he
        have HC60 := color_Least_ok W56 cap64 (HP.rd_L HOA.out (List.Mem.head _)) hy59
        clear hy59
        by_cases hz65 : y62 = 0
        · subst hz65
          rw [errV_zero] at HC60; replace HC60 := Lib.hid HC60
          go_wp2_with fail
          refine HC60.out.mono ?_; rintro e W66 ⟨rfl, hd⟩
          replace HOA := Lib.hid (HOA.out.below hd)
          replace HD := Lib.hid (HD.out.trans (hd.mono HD.out.size))
          clear hd
          go_upto_region 9 with (fail)
          obtain ⟨b69, hb, hm⟩ := obind HM.out
          replace HM := Lib.hid hm; have HB70 := Lib.hid hb; clear hm hb
          go_cut [52] (fun uq wr => uq = .bool b69 ∧ Hid (Below W66.heap.size W66 wr))
          case first =>
            have HWC71 := Lib.hid (Below.refl W66.heap.size W66)
            replace HB70 := Lib.hid (ifF (by decide) HB70.out)
            rcases Bool.eq_false_or_eq_true (y61 != y7) with hc72 | hc72
            · replace HB70 := Lib.hid (ifT hc72 HB70.out)
              have HK73 := Lib.hid hc72
              rcases Bool.eq_false_or_eq_true (y61 != (wrap64 (y7 - 1))) with hc74 | hc74
              · replace HB70 := Lib.hid (ifT hc74 HB70.out)
                have HK75 := Lib.hid hc74
                cases Option.some.inj HB70.out
                try go_wp2_with fail
                go_meet
                case rel => exact ⟨rfl, HWC71⟩
              · replace HB70 := Lib.hid (ifF (bF hc74) HB70.out)
                have HK75 := Lib.hid hc74
                cases Option.some.inj HB70.out
                try go_wp2_with fail
                go_meet
                case rel => exact ⟨rfl, HWC71⟩
            · replace HB70 := Lib.hid (ifF (bF hc72) HB70.out)
              have HK73 := Lib.hid hc72
              cases Option.some.inj HB70.out
              try go_wp2_with fail
              go_meet
              case rel => exact ⟨rfl, HWC71⟩
          case rest =>
            obtain ⟨rfl, HWC71⟩ := hcut
            rename World => W76
            have hd := HWC71.out
            replace HOA := Lib.hid (HOA.out.below hd)
            replace HD := Lib.hid (HD.out.trans (hd.mono HD.out.size))
            clear hd
            cases b69
            · replace HM := Lib.hid (ifF Bool.false_ne_true HM.out)
              obtain ⟨⟨y79, y80⟩, hy77, hm⟩ := obind HM.out
              dsimp only at hm
              replace HM := Lib.hid hm; clear hm
              have HC78 := graph_Without_ok W76 cap1 (rdL HD.out HR1.out) hy77
              clear hy77
              by_cases hz81 : y80 = 0
              · subst hz81
                rw [errV_zero] at HC78; replace HC78 := Lib.hid HC78
                go_wp2_with fail
                refine HC78.out.mono ?_; rintro e W82 ⟨V83, rfl, ho, hd⟩
                replace HOA := Lib.hid (HOA.out.call hd HD.out.size ho); clear ho
                replace HD := Lib.hid (HD.out.trans (hd.mono HD.out.size))
                clear hd
                replace HM := Lib.hid (ifF (by decide) HM.out)
                obtain ⟨⟨y91, y92⟩, hy89, hm⟩ := obind HM.out
                dsimp only at hm
                replace HM := Lib.hid hm; clear hm
                obtain ⟨A93, cap94, he, _⟩ := HP.open_L HOA.out (List.Mem.head _)
                subst he
                have HC90 := color_Least_ok W82 cap94 (HP.rd_L HOA.out (List.Mem.head _)) hy89
                clear hy89
                by_cases hz95 : y92 = 0
                · subst hz95
                  rw [errV_zero] at HC90; replace HC90 := Lib.hid HC90
                  go_wp2_with fail
                  refine HC90.out.mono ?_; rintro e W96 ⟨rfl, hd⟩
                  replace HOA := Lib.hid (HOA.out.below hd)
                  replace HD := Lib.hid (HD.out.trans (hd.mono HD.out.size))
                  clear hd
                  obtain ⟨b99, hb, hm⟩ := obind HM.out
                  replace HM := Lib.hid hm; have HB100 := Lib.hid hb; clear hm hb
                  replace HB100 := Lib.hid (ifT (by decide) HB100.out)
                  rcases Bool.eq_false_or_eq_true (y91 == y7) with hc101 | hc101
                  · replace HB100 := Lib.hid (ifT hc101 HB100.out)
                    have HK102 := Lib.hid hc101
                    obtain rfl := Option.some.inj HB100.out
                    obtain rfl := Option.some.inj HM.out
                    go_wp2_with fail
                    go_ret
                    exact ⟨(by first | rfl | (refine congrArg (fun b => Ending.returned (Value.bool b)) ?_; first | (exact decide_eq_true (by omega)) | (exact decide_eq_false (by omega)) | (have q := hc101; rw [bne_iff_ne] at q ⊢; omega) | (have q := hc101; rw [bne_eq_false_iff_eq] at q ⊢; omega) | (have q := hc101; rw [beq_iff_eq] at q ⊢; omega) | (have q := hc101; rw [beq_eq_false_iff_ne] at q ⊢; omega))), HD.out⟩
                  · replace HB100 := Lib.hid (ifF (bF hc101) HB100.out)
                    have HK102 := Lib.hid hc101
                    rcases Bool.eq_false_or_eq_true (y91 == (wrap64 (y7 - 1))) with hc103 | hc103
                    · replace HB100 := Lib.hid (ifT hc103 HB100.out)
                      have HK104 := Lib.hid hc103
                      obtain rfl := Option.some.inj HB100.out
                      obtain rfl := Option.some.inj HM.out
                      go_wp2_with fail
                      go_ret
                      exact ⟨(by first | rfl | (refine congrArg (fun b => Ending.returned (Value.bool b)) ?_; first | (exact decide_eq_true (by omega)) | (exact decide_eq_false (by omega)) | (have q := hc101; rw [bne_iff_ne] at q ⊢; omega) | (have q := hc101; rw [bne_eq_false_iff_eq] at q ⊢; omega) | (have q := hc101; rw [beq_iff_eq] at q ⊢; omega) | (have q := hc101; rw [beq_eq_false_iff_ne] at q ⊢; omega) | (have q := hc103; rw [bne_iff_ne] at q ⊢; omega) | (have q := hc103; rw [bne_eq_false_iff_eq] at q ⊢; omega) | (have q := hc103; rw [beq_iff_eq] at q ⊢; omega) | (have q := hc103; rw [beq_eq_false_iff_ne] at q ⊢; omega))), HD.out⟩
                    · replace HB100 := Lib.hid (ifF (bF hc103) HB100.out)
                      have HK104 := Lib.hid hc103
                      obtain rfl := Option.some.inj HB100.out
                      obtain rfl := Option.some.inj HM.out
                      go_wp2_with fail
                      go_ret
                      exact ⟨(by first | rfl | (refine congrArg (fun b => Ending.returned (Value.bool b)) ?_; first | (exact decide_eq_true (by omega)) | (exact decide_eq_false (by omega)) | (have q := hc101; rw [bne_iff_ne] at q ⊢; omega) | (have q := hc101; rw [bne_eq_false_iff_eq] at q ⊢; omega) | (have q := hc101; rw [beq_iff_eq] at q ⊢; omega) | (have q := hc101; rw [beq_eq_false_iff_ne] at q ⊢; omega) | (have q := hc103; rw [bne_iff_ne] at q ⊢; omega) | (have q := hc103; rw [bne_eq_false_iff_eq] at q ⊢; omega) | (have q := hc103; rw [beq_iff_eq] at q ⊢; omega) | (have q := hc103; rw [beq_eq_false_iff_ne] at q ⊢; omega))), HD.out⟩
                · rw [errV_pos _ hz95] at HC90; replace HC90 := Lib.hid HC90
                  go_wp2_with fail
                  refine HC90.out.mono ?_; rintro e W97 ⟨rfl, hd⟩
                  replace HOA := Lib.hid (HOA.out.below hd)
                  replace HD := Lib.hid (HD.out.trans (hd.mono HD.out.size))
                  clear hd
                  have HZ98 := Lib.hid hz95; clear hz95
                  obtain ⟨b105, hb, hm⟩ := obind HM.out
                  replace HM := Lib.hid hm; have HB106 := Lib.hid hb; clear hm hb
                  replace HB106 := Lib.hid (ifF (fun h => HZ98.out (eq_of_beq h)) HB106.out)
                  obtain rfl := Option.some.inj HB106.out
                  obtain rfl := Option.some.inj HM.out
                  go_wp2_with fail
                  go_ret
                  exact ⟨rfl, HD.out⟩
              · rw [errV_pos _ hz81] at HC78; replace HC78 := Lib.hid HC78
                go_wp2_with fail
                refine HC78.out.mono ?_; rintro e W85 ⟨V86, rfl, ho, hd⟩
                replace HOA := Lib.hid (HOA.out.call hd HD.out.size ho); clear ho
                replace HD := Lib.hid (HD.out.trans (hd.mono HD.out.size))
                clear hd
                have HZ88 := Lib.hid hz81; clear hz81
                replace HM := Lib.hid (ifT (bne_iff_ne.2 HZ88.out) HM.out)
                obtain ⟨b107, hb, hm⟩ := obind HM.out
                replace HM := Lib.hid hm; have HB108 := Lib.hid hb; clear hm hb
                rcases Bool.eq_false_or_eq_true (v0 == 1) with hc109 | hc109
                · replace HB108 := Lib.hid (ifT hc109 HB108.out)
                  have HK110 := Lib.hid hc109
                  obtain rfl := Option.some.inj HB108.out
                  obtain rfl := Option.some.inj HM.out
                  go_wp2_with fail
                  go_ret
                  exact ⟨(by first | rfl | (refine congrArg (fun b => Ending.returned (Value.bool b)) ?_; first | (exact decide_eq_true (by omega)) | (exact decide_eq_false (by omega)) | (have q := hc109; rw [bne_iff_ne] at q ⊢; omega) | (have q := hc109; rw [bne_eq_false_iff_eq] at q ⊢; omega) | (have q := hc109; rw [beq_iff_eq] at q ⊢; omega) | (have q := hc109; rw [beq_eq_false_iff_ne] at q ⊢; omega))), HD.out⟩
                · replace HB108 := Lib.hid (ifF (bF hc109) HB108.out)
                  have HK110 := Lib.hid hc109
                  obtain ⟨y113, hy111, hm⟩ := obind HB108.out
                  replace HB108 := Lib.hid hm; clear hm
                  have HC112 := L3_in_ok W85  hy111
                  clear hy111
                  replace HC112 := Lib.hid HC112
                  cases y113
                  · replace HB108 := Lib.hid (ifF Bool.false_ne_true HB108.out)
                    obtain rfl := Option.some.inj HB108.out
                    obtain rfl := Option.some.inj HM.out
                    go_wp2_with fail
                    refine HC112.out.mono ?_; rintro e w' ⟨rfl, rfl⟩
                    go_wp2_with fail
                    go_ret
                    exact ⟨(by first | rfl | (refine congrArg (fun b => Ending.returned (Value.bool b)) ?_; first | (exact decide_eq_true (by omega)) | (exact decide_eq_false (by omega)) | (have q := hc109; rw [bne_iff_ne] at q ⊢; omega) | (have q := hc109; rw [bne_eq_false_iff_eq] at q ⊢; omega) | (have q := hc109; rw [beq_iff_eq] at q ⊢; omega) | (have q := hc109; rw [beq_eq_false_iff_ne] at q ⊢; omega))), HD.out⟩
                  · replace HB108 := Lib.hid (ifT rfl HB108.out)
                    obtain rfl := Option.some.inj HB108.out
                    obtain rfl := Option.some.inj HM.out
                    go_wp2_with fail
                    refine HC112.out.mono ?_; rintro e w' ⟨rfl, rfl⟩
                    go_wp2_with fail
                    go_ret
                    exact ⟨(by first | rfl | (refine congrArg (fun b => Ending.returned (Value.bool b)) ?_; first | (exact decide_eq_true (by omega)) | (exact decide_eq_false (by omega)) | (have q := hc109; rw [bne_iff_ne] at q ⊢; omega) | (have q := hc109; rw [bne_eq_false_iff_eq] at q ⊢; omega) | (have q := hc109; rw [beq_iff_eq] at q ⊢; omega) | (have q := hc109; rw [beq_eq_false_iff_ne] at q ⊢; omega))), HD.out⟩
            · replace HM := Lib.hid (ifT rfl HM.out)
              obtain rfl := Option.some.inj HM.out
              go_wp2_with fail
              go_ret
              exact ⟨rfl, HD.out⟩
        · rw [errV_pos _ hz65] at HC60; replace HC60 := Lib.hid HC60
          go_wp2_with fail
          refine HC60.out.mono ?_; rintro e W67 ⟨rfl, hd⟩
          replace HOA := Lib.hid (HOA.out.below hd)
          replace HD := Lib.hid (HD.out.trans (hd.mono HD.out.size))
          clear hd
          have HZ68 := Lib.hid hz65; clear hz65
          go_upto_region 9 with (fail)
          obtain ⟨b114, hb, hm⟩ := obind HM.out
          replace HM := Lib.hid hm; have HB115 := Lib.hid hb; clear hm hb
          go_cut [52] (fun uq wr => uq = .bool b114 ∧ Hid (Below W67.heap.size W67 wr))
          case first =>
            have HWC116 := Lib.hid (Below.refl W67.heap.size W67)
            replace HB115 := Lib.hid (ifT (bne_iff_ne.2 HZ68.out) HB115.out)
            cases Option.some.inj HB115.out
            try go_wp2_with fail
            go_meet
            case rel => exact ⟨rfl, HWC116⟩
          case rest =>
            obtain ⟨rfl, HWC116⟩ := hcut
            rename World => W117
            have hd := HWC116.out
            replace HOA := Lib.hid (HOA.out.below hd)
            replace HD := Lib.hid (HD.out.trans (hd.mono HD.out.size))
            clear hd
            cases b114
            · replace HM := Lib.hid (ifF Bool.false_ne_true HM.out)
              obtain ⟨⟨y120, y121⟩, hy118, hm⟩ := obind HM.out
              dsimp only at hm
              replace HM := Lib.hid hm; clear hm
              have HC119 := graph_Without_ok W117 cap1 (rdL HD.out HR1.out) hy118
              clear hy118
              by_cases hz122 : y121 = 0
              · subst hz122
                rw [errV_zero] at HC119; replace HC119 := Lib.hid HC119
                go_wp2_with fail
                refine HC119.out.mono ?_; rintro e W123 ⟨V124, rfl, ho, hd⟩
                replace HOA := Lib.hid (HOA.out.call hd HD.out.size ho); clear ho
                replace HD := Lib.hid (HD.out.trans (hd.mono HD.out.size))
                clear hd
                replace HM := Lib.hid (ifF (by decide) HM.out)
                obtain ⟨⟨y132, y133⟩, hy130, hm⟩ := obind HM.out
                dsimp only at hm
                replace HM := Lib.hid hm; clear hm
                obtain ⟨A134, cap135, he, _⟩ := HP.open_L HOA.out (List.Mem.head _)
                subst he
                have HC131 := color_Least_ok W123 cap135 (HP.rd_L HOA.out (List.Mem.head _)) hy130
                clear hy130
                by_cases hz136 : y133 = 0
                · subst hz136
                  rw [errV_zero] at HC131; replace HC131 := Lib.hid HC131
                  go_wp2_with fail
                  refine HC131.out.mono ?_; rintro e W137 ⟨rfl, hd⟩
                  replace HOA := Lib.hid (HOA.out.below hd)
                  replace HD := Lib.hid (HD.out.trans (hd.mono HD.out.size))
                  clear hd
                  obtain ⟨b140, hb, hm⟩ := obind HM.out
                  replace HM := Lib.hid hm; have HB141 := Lib.hid hb; clear hm hb
                  replace HB141 := Lib.hid (ifT (by decide) HB141.out)
                  rcases Bool.eq_false_or_eq_true (y132 == y7) with hc142 | hc142
                  · replace HB141 := Lib.hid (ifT hc142 HB141.out)
                    have HK143 := Lib.hid hc142
                    obtain rfl := Option.some.inj HB141.out
                    obtain rfl := Option.some.inj HM.out
                    go_wp2_with fail
                    go_ret
                    exact ⟨(by first | rfl | (refine congrArg (fun b => Ending.returned (Value.bool b)) ?_; first | (exact decide_eq_true (by omega)) | (exact decide_eq_false (by omega)) | (have q := hc142; rw [bne_iff_ne] at q ⊢; omega) | (have q := hc142; rw [bne_eq_false_iff_eq] at q ⊢; omega) | (have q := hc142; rw [beq_iff_eq] at q ⊢; omega) | (have q := hc142; rw [beq_eq_false_iff_ne] at q ⊢; omega))), HD.out⟩
                  · replace HB141 := Lib.hid (ifF (bF hc142) HB141.out)
                    have HK143 := Lib.hid hc142
                    rcases Bool.eq_false_or_eq_true (y132 == (wrap64 (y7 - 1))) with hc144 | hc144
                    · replace HB141 := Lib.hid (ifT hc144 HB141.out)
                      have HK145 := Lib.hid hc144
                      obtain rfl := Option.some.inj HB141.out
                      obtain rfl := Option.some.inj HM.out
                      go_wp2_with fail
                      go_ret
                      exact ⟨(by first | rfl | (refine congrArg (fun b => Ending.returned (Value.bool b)) ?_; first | (exact decide_eq_true (by omega)) | (exact decide_eq_false (by omega)) | (have q := hc142; rw [bne_iff_ne] at q ⊢; omega) | (have q := hc142; rw [bne_eq_false_iff_eq] at q ⊢; omega) | (have q := hc142; rw [beq_iff_eq] at q ⊢; omega) | (have q := hc142; rw [beq_eq_false_iff_ne] at q ⊢; omega) | (have q := hc144; rw [bne_iff_ne] at q ⊢; omega) | (have q := hc144; rw [bne_eq_false_iff_eq] at q ⊢; omega) | (have q := hc144; rw [beq_iff_eq] at q ⊢; omega) | (have q := hc144; rw [beq_eq_false_iff_ne] at q ⊢; omega))), HD.out⟩
                    · replace HB141 := Lib.hid (ifF (bF hc144) HB141.out)
                      have HK145 := Lib.hid hc144
                      obtain rfl := Option.some.inj HB141.out
                      obtain rfl := Option.some.inj HM.out
                      go_wp2_with fail
                      go_ret
                      exact ⟨(by first | rfl | (refine congrArg (fun b => Ending.returned (Value.bool b)) ?_; first | (exact decide_eq_true (by omega)) | (exact decide_eq_false (by omega)) | (have q := hc142; rw [bne_iff_ne] at q ⊢; omega) | (have q := hc142; rw [bne_eq_false_iff_eq] at q ⊢; omega) | (have q := hc142; rw [beq_iff_eq] at q ⊢; omega) | (have q := hc142; rw [beq_eq_false_iff_ne] at q ⊢; omega) | (have q := hc144; rw [bne_iff_ne] at q ⊢; omega) | (have q := hc144; rw [bne_eq_false_iff_eq] at q ⊢; omega) | (have q := hc144; rw [beq_iff_eq] at q ⊢; omega) | (have q := hc144; rw [beq_eq_false_iff_ne] at q ⊢; omega))), HD.out⟩
                · rw [errV_pos _ hz136] at HC131; replace HC131 := Lib.hid HC131
                  go_wp2_with fail
                  refine HC131.out.mono ?_; rintro e W138 ⟨rfl, hd⟩
                  replace HOA := Lib.hid (HOA.out.below hd)
                  replace HD := Lib.hid (HD.out.trans (hd.mono HD.out.size))
                  clear hd
                  have HZ139 := Lib.hid hz136; clear hz136
                  obtain ⟨b146, hb, hm⟩ := obind HM.out
                  replace HM := Lib.hid hm; have HB147 := Lib.hid hb; clear hm hb
                  replace HB147 := Lib.hid (ifF (fun h => HZ139.out (eq_of_beq h)) HB147.out)
                  obtain rfl := Option.some.inj HB147.out
                  obtain rfl := Option.some.inj HM.out
                  go_wp2_with fail
                  go_ret
                  exact ⟨rfl, HD.out⟩
              · rw [errV_pos _ hz122] at HC119; replace HC119 := Lib.hid HC119
                go_wp2_with fail
                refine HC119.out.mono ?_; rintro e W126 ⟨V127, rfl, ho, hd⟩
                replace HOA := Lib.hid (HOA.out.call hd HD.out.size ho); clear ho
                replace HD := Lib.hid (HD.out.trans (hd.mono HD.out.size))
                clear hd
                have HZ129 := Lib.hid hz122; clear hz122
                replace HM := Lib.hid (ifT (bne_iff_ne.2 HZ129.out) HM.out)
                obtain ⟨b148, hb, hm⟩ := obind HM.out
                replace HM := Lib.hid hm; have HB149 := Lib.hid hb; clear hm hb
                rcases Bool.eq_false_or_eq_true (v0 == 1) with hc150 | hc150
                · replace HB149 := Lib.hid (ifT hc150 HB149.out)
                  have HK151 := Lib.hid hc150
                  obtain rfl := Option.some.inj HB149.out
                  obtain rfl := Option.some.inj HM.out
                  go_wp2_with fail
                  go_ret
                  exact ⟨(by first | rfl | (refine congrArg (fun b => Ending.returned (Value.bool b)) ?_; first | (exact decide_eq_true (by omega)) | (exact decide_eq_false (by omega)) | (have q := hc150; rw [bne_iff_ne] at q ⊢; omega) | (have q := hc150; rw [bne_eq_false_iff_eq] at q ⊢; omega) | (have q := hc150; rw [beq_iff_eq] at q ⊢; omega) | (have q := hc150; rw [beq_eq_false_iff_ne] at q ⊢; omega))), HD.out⟩
                · replace HB149 := Lib.hid (ifF (bF hc150) HB149.out)
                  have HK151 := Lib.hid hc150
                  obtain ⟨y154, hy152, hm⟩ := obind HB149.out
                  replace HB149 := Lib.hid hm; clear hm
                  have HC153 := L3_in_ok W126  hy152
                  clear hy152
                  replace HC153 := Lib.hid HC153
                  cases y154
                  · replace HB149 := Lib.hid (ifF Bool.false_ne_true HB149.out)
                    obtain rfl := Option.some.inj HB149.out
                    obtain rfl := Option.some.inj HM.out
                    go_wp2_with fail
                    refine HC153.out.mono ?_; rintro e w' ⟨rfl, rfl⟩
                    go_wp2_with fail
                    go_ret
                    exact ⟨(by first | rfl | (refine congrArg (fun b => Ending.returned (Value.bool b)) ?_; first | (exact decide_eq_true (by omega)) | (exact decide_eq_false (by omega)) | (have q := hc150; rw [bne_iff_ne] at q ⊢; omega) | (have q := hc150; rw [bne_eq_false_iff_eq] at q ⊢; omega) | (have q := hc150; rw [beq_iff_eq] at q ⊢; omega) | (have q := hc150; rw [beq_eq_false_iff_ne] at q ⊢; omega))), HD.out⟩
                  · replace HB149 := Lib.hid (ifT rfl HB149.out)
                    obtain rfl := Option.some.inj HB149.out
                    obtain rfl := Option.some.inj HM.out
                    go_wp2_with fail
                    refine HC153.out.mono ?_; rintro e w' ⟨rfl, rfl⟩
                    go_wp2_with fail
                    go_ret
                    exact ⟨(by first | rfl | (refine congrArg (fun b => Ending.returned (Value.bool b)) ?_; first | (exact decide_eq_true (by omega)) | (exact decide_eq_false (by omega)) | (have q := hc150; rw [bne_iff_ne] at q ⊢; omega) | (have q := hc150; rw [bne_eq_false_iff_eq] at q ⊢; omega) | (have q := hc150; rw [beq_iff_eq] at q ⊢; omega) | (have q := hc150; rw [beq_eq_false_iff_ne] at q ⊢; omega))), HD.out⟩
            · replace HM := Lib.hid (ifT rfl HM.out)
              obtain rfl := Option.some.inj HM.out
              go_wp2_with fail
              go_ret
              exact ⟨rfl, HD.out⟩
    · rw [errV_pos _ hz9] at HC6; replace HC6 := Lib.hid HC6
      go_wp2_with fail
      refine HC6.out.mono ?_; rintro e W11 ⟨rfl, hd⟩
      replace HOA := Lib.hid (HOA.out.below hd)
      replace HD := Lib.hid (HD.out.trans (hd.mono HD.out.size))
      clear hd
      have HZ12 := Lib.hid hz9; clear hz9
      replace HM := Lib.hid (ifT (bne_iff_ne.2 HZ12.out) HM.out)
      obtain ⟨b155, hb, hm⟩ := obind HM.out
      replace HM := Lib.hid hm; have HB156 := Lib.hid hb; clear hm hb
      rcases Bool.eq_false_or_eq_true (y7 == 0) with hc157 | hc157
      · replace HB156 := Lib.hid (ifT hc157 HB156.out)
        have HK158 := Lib.hid hc157
        obtain rfl := Option.some.inj HB156.out
        obtain rfl := Option.some.inj HM.out
        go_wp2_with fail
        go_ret
        exact ⟨(by first | rfl | (refine congrArg (fun b => Ending.returned (Value.bool b)) ?_; first | (exact decide_eq_true (by omega)) | (exact decide_eq_false (by omega)) | (have q := hc157; rw [bne_iff_ne] at q ⊢; omega) | (have q := hc157; rw [bne_eq_false_iff_eq] at q ⊢; omega) | (have q := hc157; rw [beq_iff_eq] at q ⊢; omega) | (have q := hc157; rw [beq_eq_false_iff_ne] at q ⊢; omega))), HD.out⟩
      · replace HB156 := Lib.hid (ifF (bF hc157) HB156.out)
        have HK158 := Lib.hid hc157
        obtain rfl := Option.some.inj HB156.out
        obtain rfl := Option.some.inj HM.out
        go_wp2_with fail
        go_ret
        exact ⟨(by first | rfl | (refine congrArg (fun b => Ending.returned (Value.bool b)) ?_; first | (exact decide_eq_true (by omega)) | (exact decide_eq_false (by omega)) | (have q := hc157; rw [bne_iff_ne] at q ⊢; omega) | (have q := hc157; rw [bne_eq_false_iff_eq] at q ⊢; omega) | (have q := hc157; rw [beq_iff_eq] at q ⊢; omega) | (have q := hc157; rw [beq_eq_false_iff_ne] at q ⊢; omega))), HD.out⟩
end Go.Proofs.Ytlecmgdkoanghaa
