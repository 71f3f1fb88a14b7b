import Derived.Test.YtlecmgdkoanghaaCb
import Derived.Test.YtlecmgdkoanghaaCr
import Derived.Test.YtlecmgdkoanghaaCh2
import Derived.Test.YtlecmgdkoanghaaGR
import Derived.Test.YtlecmgdkoanghaaSlc
import Derived.Test.YtlecmgdkoanghaaBox
set_option linter.all false
set_option maxRecDepth 100000
namespace Go.Proofs.Ytlecmgdkoanghaa
open Go.RowKit
attribute [local go_sem] Oper.semAt_some
def L3_ColorClique_L1 (F : Nat) (v0 : Int) (v1 : List (Int × Int)) : Nat → (Bool) → (Int) → Option (Bool × Int)
  | 0, _, _ => none
  | g+1, v9, v10 => if v10 ≤ v0 then (if v9 = true then some true else (R1_Ring F (v0) (v1) (v10)).bind fun y9 => if y9 = true then some true else some false).bind fun b8 => L3_ColorClique_L1 F v0 v1 g (b8) ((wrap64 (v10 + 2))) else some (v9, v10)
theorem L3_ColorClique_L1_0 (F : Nat) (v0 : Int) (v1 : List (Int × Int)) (v9 : Bool) (v10 : Int) : L3_ColorClique_L1 F v0 v1 0 v9 v10 = none := by rw [L3_ColorClique_L1]
theorem L3_ColorClique_L1_s (F g : Nat) (v0 : Int) (v1 : List (Int × Int)) (v9 : Bool) (v10 : Int) : L3_ColorClique_L1 F v0 v1 (g+1) v9 v10 = (if v10 ≤ v0 then (if v9 = true then some true else (R1_Ring F (v0) (v1) (v10)).bind fun y9 => if y9 = true then some true else some false).bind fun b8 => L3_ColorClique_L1 F v0 v1 g (b8) ((wrap64 (v10 + 2))) else some (v9, v10)) := by rw [L3_ColorClique_L1]
def L3_ColorClique (F : Nat) (v0 : Int) (v1 : List (Int × Int)) : Option (Bool) := (L3_colorFact F ).bind fun y1 => (if y1 = true then (color_Least F (v0) (v1)).bind fun y2 => (if (y2.2 != 0) = true then (if (y2.1 == 0) = true then some true else some false).bind fun b3 => some (b3) else ((R1_Lines F (v0) (v1)).bind fun y4 => if (y4 != 0) = true then some (false) else (R3_Biggest F (v0) (v1) (true)).bind fun y5 => (chordal_Peel F (v0) (v1)).bind fun y6 => ((if y2.1 < y5 then some true else if (y6.2 == 0) = true then if (y2.1 != y5) = true then some true else some false else some false).bind fun b7 => if b7 = true then some (false) else (L3_ColorClique_L1 F (v0) (v1) F (false) (3)).bind fun o10 => ((if y2.1 ≤ 2 then some true else some false).bind fun b12 => (if o10.1 = true then some false else some true).bind fun b13 => if (b12 == b13) = true then some true else some false).bind fun b11 => some (b11)))) else some (false))
set_option maxRecDepth 100000 in
set_option maxHeartbeats 4000000 in
theorem L3_ColorClique_ok {F : Nat} {v0 : Int} {v1 : List (Int × Int)} {A1 : Option Addr} {r : Bool} (w : World) (cap1 : Nat) (hr1 : ReadsL w w.heap.size A1 v1) (h : L3_ColorClique F v0 v1 = some r) :
    Calls Try.prog 6 #[.int .i64 v0, .slice A1 v1.length cap1] w fun e w' => e = .returned (.bool r) ∧ Below w.heap.size w w' := by
  have HR1 := Lib.hid hr1; clear hr1
  have HD := Lib.hid (Below.refl w.heap.size w)
  have HOA := Lib.hid (HP.nil (W := w) (B := w.heap.size))
  unfold L3_ColorClique at h
  have HM := Lib.hid h; clear h
  go_enter Try.func6, Try.ntmps6
  obtain ⟨y3, hy1, hm⟩ := obind HM.out
  replace HM := Lib.hid hm; clear hm
  have HC2 := L3_colorFact_ok w  hy1
  clear hy1
  replace HC2 := Lib.hid HC2
  go_wp2_with fail
  refine HC2.out.mono ?_; rintro e W4 ⟨rfl, hd⟩
  replace HOA := Lib.hid (HOA.out.below hd)
  replace HD := Lib.hid (HD.out.trans (hd.mono HD.out.size))
  clear hd
  cases y3
  · replace HM := Lib.hid (ifF Bool.false_ne_true HM.out)
    obtain rfl := Option.some.inj HM.out
    go_wp2_with fail
    go_ret
    exact ⟨rfl, HD.out⟩
  · replace HM := Lib.hid (ifT rfl HM.out)
    obtain ⟨⟨y7, y8⟩, hy5, hm⟩ := obind HM.out
    dsimp only at hm
    replace HM := Lib.hid hm; clear hm
    have HC6 := color_Least_ok W4 cap1 (rdL HD.out HR1.out) hy5
    clear hy5
    by_cases hz9 : y8 = 0
    · subst hz9
      rw [errV_zero] at HC6; replace HC6 := Lib.hid HC6
      go_wp2_with fail
      refine HC6.out.mono ?_; rintro e W10 ⟨rfl, hd⟩
      replace HOA := Lib.hid (HOA.out.below hd)
      replace HD := Lib.hid (HD.out.trans (hd.mono HD.out.size))
      clear hd
      replace HM := Lib.hid (ifF (by decide) HM.out)
      obtain ⟨y15, hy13, hm⟩ := obind HM.out
      replace HM := Lib.hid hm; clear hm
      have HC14 := R1_Lines_ok W10 cap1 (rdL HD.out HR1.out) hy13
      clear hy13
      replace HC14 := Lib.hid HC14
      go_wp2_with fail
      refine HC14.out.mono ?_; rintro e W16 ⟨rfl, hd⟩
      replace HOA := Lib.hid (HOA.out.below (hd.below _))
      replace HD := Lib.hid (HD.out.trans ((hd.below _).mono HD.out.size))
      clear hd
      rcases Bool.eq_false_or_eq_true (y15 != 0) with hc17 | hc17
      · replace HM := Lib.hid (ifT hc17 HM.out)
        have HK18 := Lib.hid hc17
        obtain rfl := Option.some.inj HM.out
        go_wp2_with fail
        go_ret
        exact ⟨(by first | rfl | (refine congrArg (fun b => Ending.returned (Value.bool b)) ?_; first | (exact decide_eq_true (by omega)) | (exact decide_eq_false (by omega)) | (have q := hc17; rw [bne_iff_ne] at q ⊢; omega) | (have q := hc17; rw [bne_eq_false_iff_eq] at q ⊢; omega) | (have q := hc17; rw [beq_iff_eq] at q ⊢; omega) | (have q := hc17; rw [beq_eq_false_iff_ne] at q ⊢; omega))), HD.out⟩
      · replace HM := Lib.hid (ifF (bF hc17) HM.out)
        have HK18 := Lib.hid hc17
        obtain ⟨y21, hy19, hm⟩ := obind HM.out
        replace HM := Lib.hid hm; clear hm
        have HC20 := R3_Biggest_ok W16 cap1 (rdL HD.out HR1.out) hy19
        clear hy19
        replace HC20 := Lib.hid HC20
        go_wp2_with fail
        refine HC20.out.mono ?_; rintro e W22 ⟨rfl, hd⟩
        try clear hc17
        replace HOA := Lib.hid (HOA.out.below hd)
        replace HD := Lib.hid (HD.out.trans (hd.mono HD.out.size))
        clear hd
        obtain ⟨⟨y25, y26⟩, hy23, hm⟩ := obind HM.out
        dsimp only at hm
        replace HM := Lib.hid hm; clear hm
        have HC24 := chordal_Peel_ok W22 cap1 (rdL HD.out HR1.out) hy23
        clear hy23
        by_cases hz27 : y26 = 0
        · subst hz27
          rw [errV_zero] at HC24; replace HC24 := Lib.hid HC24
          go_wp2_with fail
          refine HC24.out.mono ?_; rintro e W28 ⟨V29, rfl, ho, hd⟩
          replace HOA := Lib.hid (HOA.out.call hd HD.out.size ho); clear ho
          replace HD := Lib.hid (HD.out.trans (hd.mono HD.out.size))
          clear hd
          go_upto_region 11 with (fail)
          obtain ⟨b35, hb, hm⟩ := obind HM.out
          replace HM := Lib.hid hm; have HB36 := Lib.hid hb; clear hm hb
          go_cut [50] (fun uq wr => uq = .bool b35 ∧ Hid (Below W28.heap.size W28 wr))
          case first =>
            have HWC37 := Lib.hid (Below.refl W28.heap.size W28)
            by_cases hc38 : y7 < y21
            · replace HB36 := Lib.hid (ifT hc38 HB36.out)
              have HK39 := Lib.hid hc38
              cases Option.some.inj HB36.out
              try go_wp2_with fail
              go_meet
              case rel => exact ⟨rfl, HWC37⟩
            · replace HB36 := Lib.hid (ifF hc38 HB36.out)
              have hc38d := decide_eq_false hc38
              have HK39 := Lib.hid hc38
              replace HB36 := Lib.hid (ifT (by decide) HB36.out)
              rcases Bool.eq_false_or_eq_true (y7 != y21) with hc40 | hc40
              · replace HB36 := Lib.hid (ifT hc40 HB36.out)
                have HK41 := Lib.hid hc40
                cases Option.some.inj HB36.out
                try go_wp2_with fail
                go_meet
                case rel => exact ⟨rfl, HWC37⟩
              · replace HB36 := Lib.hid (ifF (bF hc40) HB36.out)
                have HK41 := Lib.hid hc40
                cases Option.some.inj HB36.out
                try go_wp2_with fail
                go_meet
                case rel => exact ⟨rfl, HWC37⟩
          case rest =>
            obtain ⟨rfl, HWC37⟩ := hcut
            rename World => W42
            have hd := HWC37.out
            replace HOA := Lib.hid (HOA.out.below hd)
            replace HD := Lib.hid (HD.out.trans (hd.mono HD.out.size))
            clear hd
            cases b35
            · replace HM := Lib.hid (ifF Bool.false_ne_true HM.out)
              go_wp2_with fail
              obtain ⟨o43, ho, hm⟩ := obind HM.out
              replace HM := Lib.hid hm; have HL1 := Lib.hid ho; clear hm ho
              go_loopg [11, 12] F (fun gg ux46 ux47 wr => ∃ (x44 : Bool) (x45 : Int), ux46 = .bool x44 ∧ ux47 = .int .i64 x45 ∧ Hid (Below W42.heap.size W42 wr) ∧ Hid (L3_ColorClique_L1 F (v0) (v1) gg x44 x45 = some o43))
              case atStart => exact ⟨false, 3, rfl, rfl, (Lib.hid (Below.refl _ _)), HL1⟩
              case round =>
                obtain ⟨x44, x45, rfl, rfl, HW1, HL1⟩ := hrel
                rename World => W48
                have hd := HW1.out
                replace HOA := Lib.hid (HOA.out.below hd)
                replace HD := Lib.hid (HD.out.trans (hd.mono HD.out.size))
                clear hd
                cases gk with
                | zero => exact absurd ((L3_ColorClique_L1_0 ..).symm.trans HL1.out) (by intro h; cases h)
                | succ g1 =>
                  replace HL1 := Lib.hid ((L3_ColorClique_L1_s ..).symm.trans HL1.out)
                  by_cases hc49 : x45 ≤ v0
                  · replace HL1 := Lib.hid (ifT hc49 HL1.out)
                    have HK50 := Lib.hid hc49
                    obtain ⟨b51, hb, hm⟩ := obind HL1.out
                    replace HL1 := Lib.hid hm; have HB52 := Lib.hid hb; clear hm hb
                    cases x44
                    · replace HB52 := Lib.hid (ifF Bool.false_ne_true HB52.out)
                      obtain ⟨y55, hy53, hm⟩ := obind HB52.out
                      replace HB52 := Lib.hid hm; clear hm
                      have HC54 := R1_Ring_ok W48 cap1 (rdL HD.out HR1.out) hy53
                      clear hy53
                      replace HC54 := Lib.hid HC54
                      go_wp2_with fail
                      refine HC54.out.mono ?_; rintro e W56 ⟨rfl, hd⟩
                      try clear hc49
                      replace HOA := Lib.hid (HOA.out.below hd)
                      replace HD := Lib.hid (HD.out.trans (hd.mono HD.out.size))
                      replace HW1 := Lib.hid (HW1.out.trans (hd.mono HW1.out.size))
                      clear hd
                      cases y55
                      · replace HB52 := Lib.hid (ifF Bool.false_ne_true HB52.out)
                        obtain rfl := Option.some.inj HB52.out
                        go_wp2_with fail
                        go_roundg g1
                        case measure => omega
                        case rel => exact ⟨false, (wrap64 (x45 + 2)), rfl, rfl, HW1, HL1⟩
                      · replace HB52 := Lib.hid (ifT rfl HB52.out)
                        obtain rfl := Option.some.inj HB52.out
                        go_wp2_with fail
                        go_roundg g1
                        case measure => omega
                        case rel => exact ⟨true, (wrap64 (x45 + 2)), rfl, rfl, HW1, HL1⟩
                    · replace HB52 := Lib.hid (ifT rfl HB52.out)
                      obtain rfl := Option.some.inj HB52.out
                      go_wp2_with fail
                      try clear hc49
                      go_roundg g1
                      case measure => omega
                      case rel => exact ⟨true, (wrap64 (x45 + 2)), rfl, rfl, HW1, HL1⟩
                  · replace HL1 := Lib.hid (ifF hc49 HL1.out)
                    have hc49d := decide_eq_false hc49
                    have HK50 := Lib.hid hc49
                    obtain rfl := Option.some.inj HL1.out
                    have hm := HM.out; try dsimp only at hm
                    replace HM := Lib.hid hm; clear hm
                    obtain ⟨b57, hb, hm⟩ := obind HM.out
                    replace HM := Lib.hid hm; have HB58 := Lib.hid hb; clear hm hb
                    obtain ⟨b59, hb, hm⟩ := obind HB58.out
                    replace HB58 := Lib.hid hm; have HB60 := Lib.hid hb; clear hm hb
                    by_cases hc61 : y7 ≤ 2
                    · replace HB60 := Lib.hid (ifT hc61 HB60.out)
                      have HK62 := Lib.hid hc61
                      obtain rfl := Option.some.inj HB60.out
                      obtain ⟨b63, hb, hm⟩ := obind HB58.out
                      replace HB58 := Lib.hid hm; have HB64 := Lib.hid hb; clear hm hb
                      cases x44
                      · replace HB64 := Lib.hid (ifF Bool.false_ne_true HB64.out)
                        obtain rfl := Option.some.inj HB64.out
                        replace HB58 := Lib.hid (ifT (by decide) HB58.out)
                        obtain rfl := Option.some.inj HB58.out
                        obtain rfl := Option.some.inj HM.out
                        go_wp2_with fail
                        go_ret
                        exact ⟨(by first | rfl | (refine congrArg (fun b => Ending.returned (Value.bool b)) ?_; first | (exact decide_eq_true (by omega)) | (exact decide_eq_false (by omega)) | (have q := hc49d; rw [bne_iff_ne] at q ⊢; omega) | (have q := hc49d; rw [bne_eq_false_iff_eq] at q ⊢; omega) | (have q := hc49d; rw [beq_iff_eq] at q ⊢; omega) | (have q := hc49d; rw [beq_eq_false_iff_ne] at q ⊢; omega) | (have q := hc61; rw [bne_iff_ne] at q ⊢; omega) | (have q := hc61; rw [bne_eq_false_iff_eq] at q ⊢; omega) | (have q := hc61; rw [beq_iff_eq] at q ⊢; omega) | (have q := hc61; rw [beq_eq_false_iff_ne] at q ⊢; omega))), HD.out⟩
                      · replace HB64 := Lib.hid (ifT rfl HB64.out)
                        obtain rfl := Option.some.inj HB64.out
                        replace HB58 := Lib.hid (ifF (by decide) HB58.out)
                        obtain rfl := Option.some.inj HB58.out
                        obtain rfl := Option.some.inj HM.out
                        go_wp2_with fail
                        go_ret
                        exact ⟨(by first | rfl | (refine congrArg (fun b => Ending.returned (Value.bool b)) ?_; first | (exact decide_eq_true (by omega)) | (exact decide_eq_false (by omega)) | (have q := hc49d; rw [bne_iff_ne] at q ⊢; omega) | (have q := hc49d; rw [bne_eq_false_iff_eq] at q ⊢; omega) | (have q := hc49d; rw [beq_iff_eq] at q ⊢; omega) | (have q := hc49d; rw [beq_eq_false_iff_ne] at q ⊢; omega) | (have q := hc61; rw [bne_iff_ne] at q ⊢; omega) | (have q := hc61; rw [bne_eq_false_iff_eq] at q ⊢; omega) | (have q := hc61; rw [beq_iff_eq] at q ⊢; omega) | (have q := hc61; rw [beq_eq_false_iff_ne] at q ⊢; omega))), HD.out⟩
                    · replace HB60 := Lib.hid (ifF hc61 HB60.out)
                      have hc61d := decide_eq_false hc61
                      have HK62 := Lib.hid hc61
                      obtain rfl := Option.some.inj HB60.out
                      obtain ⟨b65, hb, hm⟩ := obind HB58.out
                      replace HB58 := Lib.hid hm; have HB66 := Lib.hid hb; clear hm hb
                      cases x44
                      · replace HB66 := Lib.hid (ifF Bool.false_ne_true HB66.out)
                        obtain rfl := Option.some.inj HB66.out
                        replace HB58 := Lib.hid (ifF (by decide) HB58.out)
                        obtain rfl := Option.some.inj HB58.out
                        obtain rfl := Option.some.inj HM.out
                        go_wp2_with fail
                        go_ret
                        exact ⟨(by first | rfl | (refine congrArg (fun b => Ending.returned (Value.bool b)) ?_; first | (exact decide_eq_true (by omega)) | (exact decide_eq_false (by omega)) | (have q := hc61; rw [bne_iff_ne] at q ⊢; omega) | (have q := hc61; rw [bne_eq_false_iff_eq] at q ⊢; omega) | (have q := hc61; rw [beq_iff_eq] at q ⊢; omega) | (have q := hc61; rw [beq_eq_false_iff_ne] at q ⊢; omega) | (have q := hc61d; rw [bne_iff_ne] at q ⊢; omega) | (have q := hc61d; rw [bne_eq_false_iff_eq] at q ⊢; omega) | (have q := hc61d; rw [beq_iff_eq] at q ⊢; omega) | (have q := hc61d; rw [beq_eq_false_iff_ne] at q ⊢; omega))), HD.out⟩
                      · replace HB66 := Lib.hid (ifT rfl HB66.out)
                        obtain rfl := Option.some.inj HB66.out
                        replace HB58 := Lib.hid (ifT (by decide) HB58.out)
                        obtain rfl := Option.some.inj HB58.out
                        obtain rfl := Option.some.inj HM.out
                        go_wp2_with fail
                        go_ret
                        exact ⟨(by first | rfl | (refine congrArg (fun b => Ending.returned (Value.bool b)) ?_; first | (exact decide_eq_true (by omega)) | (exact decide_eq_false (by omega)) | (have q := hc61; rw [bne_iff_ne] at q ⊢; omega) | (have q := hc61; rw [bne_eq_false_iff_eq] at q ⊢; omega) | (have q := hc61; rw [beq_iff_eq] at q ⊢; omega) | (have q := hc61; rw [beq_eq_false_iff_ne] at q ⊢; omega) | (have q := hc61d; rw [bne_iff_ne] at q ⊢; omega) | (have q := hc61d; rw [bne_eq_false_iff_eq] at q ⊢; omega) | (have q := hc61d; rw [beq_iff_eq] at q ⊢; omega) | (have q := hc61d; rw [beq_eq_false_iff_ne] at q ⊢; omega))), HD.out⟩
            · replace HM := Lib.hid (ifT rfl HM.out)
              obtain rfl := Option.some.inj HM.out
              go_wp2_with fail
              go_ret
              exact ⟨rfl, HD.out⟩
        · rw [errV_pos _ hz27] at HC24; replace HC24 := Lib.hid HC24
          go_wp2_with fail
          refine HC24.out.mono ?_; rintro e W31 ⟨V32, rfl, ho, hd⟩
          replace HOA := Lib.hid (HOA.out.call hd HD.out.size ho); clear ho
          replace HD := Lib.hid (HD.out.trans (hd.mono HD.out.size))
          clear hd
          have HZ34 := Lib.hid hz27; clear hz27
          go_upto_region 11 with (fail)
          obtain ⟨b67, hb, hm⟩ := obind HM.out
          replace HM := Lib.hid hm; have HB68 := Lib.hid hb; clear hm hb
          go_cut [50] (fun uq wr => uq = .bool b67 ∧ Hid (Below W31.heap.size W31 wr))
          case first =>
            have HWC69 := Lib.hid (Below.refl W31.heap.size W31)
            by_cases hc70 : y7 < y21
            · replace HB68 := Lib.hid (ifT hc70 HB68.out)
              have HK71 := Lib.hid hc70
              cases Option.some.inj HB68.out
              try go_wp2_with fail
              go_meet
              case rel => exact ⟨rfl, HWC69⟩
            · replace HB68 := Lib.hid (ifF hc70 HB68.out)
              have hc70d := decide_eq_false hc70
              have HK71 := Lib.hid hc70
              replace HB68 := Lib.hid (ifF (fun h => HZ34.out (eq_of_beq h)) HB68.out)
              cases Option.some.inj HB68.out
              try go_wp2_with fail
              go_meet
              case rel => exact ⟨rfl, HWC69⟩
          case rest =>
            obtain ⟨rfl, HWC69⟩ := hcut
            rename World => W72
            have hd := HWC69.out
            replace HOA := Lib.hid (HOA.out.below hd)
            replace HD := Lib.hid (HD.out.trans (hd.mono HD.out.size))
            clear hd
            cases b67
            · replace HM := Lib.hid (ifF Bool.false_ne_true HM.out)
              go_wp2_with fail
              obtain ⟨o73, ho, hm⟩ := obind HM.out
              replace HM := Lib.hid hm; have HL1 := Lib.hid ho; clear hm ho
              go_loopg [11, 12] F (fun gg ux76 ux77 wr => ∃ (x74 : Bool) (x75 : Int), ux76 = .bool x74 ∧ ux77 = .int .i64 x75 ∧ Hid (Below W72.heap.size W72 wr) ∧ Hid (L3_ColorClique_L1 F (v0) (v1) gg x74 x75 = some o73))
              case atStart => exact ⟨false, 3, rfl, rfl, (Lib.hid (Below.refl _ _)), HL1⟩
              case round =>
                obtain ⟨x74, x75, rfl, rfl, HW1, HL1⟩ := hrel
                rename World => W78
                have hd := HW1.out
                replace HOA := Lib.hid (HOA.out.below hd)
                replace HD := Lib.hid (HD.out.trans (hd.mono HD.out.size))
                clear hd
                cases gk with
                | zero => exact absurd ((L3_ColorClique_L1_0 ..).symm.trans HL1.out) (by intro h; cases h)
                | succ g1 =>
                  replace HL1 := Lib.hid ((L3_ColorClique_L1_s ..).symm.trans HL1.out)
                  by_cases hc79 : x75 ≤ v0
                  · replace HL1 := Lib.hid (ifT hc79 HL1.out)
                    have HK80 := Lib.hid hc79
                    obtain ⟨b81, hb, hm⟩ := obind HL1.out
                    replace HL1 := Lib.hid hm; have HB82 := Lib.hid hb; clear hm hb
                    cases x74
                    · replace HB82 := Lib.hid (ifF Bool.false_ne_true HB82.out)
                      obtain ⟨y85, hy83, hm⟩ := obind HB82.out
                      replace HB82 := Lib.hid hm; clear hm
                      have HC84 := R1_Ring_ok W78 cap1 (rdL HD.out HR1.out) hy83
                      clear hy83
                      replace HC84 := Lib.hid HC84
                      go_wp2_with fail
                      refine HC84.out.mono ?_; rintro e W86 ⟨rfl, hd⟩
                      try clear hc79
                      replace HOA := Lib.hid (HOA.out.below hd)
                      replace HD := Lib.hid (HD.out.trans (hd.mono HD.out.size))
                      replace HW1 := Lib.hid (HW1.out.trans (hd.mono HW1.out.size))
                      clear hd
                      cases y85
                      · replace HB82 := Lib.hid (ifF Bool.false_ne_true HB82.out)
                        obtain rfl := Option.some.inj HB82.out
                        go_wp2_with fail
                        go_roundg g1
                        case measure => omega
                        case rel => exact ⟨false, (wrap64 (x75 + 2)), rfl, rfl, HW1, HL1⟩
                      · replace HB82 := Lib.hid (ifT rfl HB82.out)
                        obtain rfl := Option.some.inj HB82.out
                        go_wp2_with fail
                        go_roundg g1
                        case measure => omega
                        case rel => exact ⟨true, (wrap64 (x75 + 2)), rfl, rfl, HW1, HL1⟩
                    · replace HB82 := Lib.hid (ifT rfl HB82.out)
                      obtain rfl := Option.some.inj HB82.out
                      go_wp2_with fail
                      try clear hc79
                      go_roundg g1
                      case measure => omega
                      case rel => exact ⟨true, (wrap64 (x75 + 2)), rfl, rfl, HW1, HL1⟩
                  · replace HL1 := Lib.hid (ifF hc79 HL1.out)
                    have hc79d := decide_eq_false hc79
                    have HK80 := Lib.hid hc79
                    obtain rfl := Option.some.inj HL1.out
                    have hm := HM.out; try dsimp only at hm
                    replace HM := Lib.hid hm; clear hm
                    obtain ⟨b87, hb, hm⟩ := obind HM.out
                    replace HM := Lib.hid hm; have HB88 := Lib.hid hb; clear hm hb
                    obtain ⟨b89, hb, hm⟩ := obind HB88.out
                    replace HB88 := Lib.hid hm; have HB90 := Lib.hid hb; clear hm hb
                    by_cases hc91 : y7 ≤ 2
                    · replace HB90 := Lib.hid (ifT hc91 HB90.out)
                      have HK92 := Lib.hid hc91
                      obtain rfl := Option.some.inj HB90.out
                      obtain ⟨b93, hb, hm⟩ := obind HB88.out
                      replace HB88 := Lib.hid hm; have HB94 := Lib.hid hb; clear hm hb
                      cases x74
                      · replace HB94 := Lib.hid (ifF Bool.false_ne_true HB94.out)
                        obtain rfl := Option.some.inj HB94.out
                        replace HB88 := Lib.hid (ifT (by decide) HB88.out)
                        obtain rfl := Option.some.inj HB88.out
                        obtain rfl := Option.some.inj HM.out
                        go_wp2_with fail
                        go_ret
                        exact ⟨(by first | rfl | (refine congrArg (fun b => Ending.returned (Value.bool b)) ?_; first | (exact decide_eq_true (by omega)) | (exact decide_eq_false (by omega)) | (have q := hc79d; rw [bne_iff_ne] at q ⊢; omega) | (have q := hc79d; rw [bne_eq_false_iff_eq] at q ⊢; omega) | (have q := hc79d; rw [beq_iff_eq] at q ⊢; omega) | (have q := hc79d; rw [beq_eq_false_iff_ne] at q ⊢; omega) | (have q := hc91; rw [bne_iff_ne] at q ⊢; omega) | (have q := hc91; rw [bne_eq_false_iff_eq] at q ⊢; omega) | (have q := hc91; rw [beq_iff_eq] at q ⊢; omega) | (have q := hc91; rw [beq_eq_false_iff_ne] at q ⊢; omega))), HD.out⟩
                      · replace HB94 := Lib.hid (ifT rfl HB94.out)
                        obtain rfl := Option.some.inj HB94.out
                        replace HB88 := Lib.hid (ifF (by decide) HB88.out)
                        obtain rfl := Option.some.inj HB88.out
                        obtain rfl := Option.some.inj HM.out
                        go_wp2_with fail
                        go_ret
                        exact ⟨(by first | rfl | (refine congrArg (fun b => Ending.returned (Value.bool b)) ?_; first | (exact decide_eq_true (by omega)) | (exact decide_eq_false (by omega)) | (have q := hc79d; rw [bne_iff_ne] at q ⊢; omega) | (have q := hc79d; rw [bne_eq_false_iff_eq] at q ⊢; omega) | (have q := hc79d; rw [beq_iff_eq] at q ⊢; omega) | (have q := hc79d; rw [beq_eq_false_iff_ne] at q ⊢; omega) | (have q := hc91; rw [bne_iff_ne] at q ⊢; omega) | (have q := hc91; rw [bne_eq_false_iff_eq] at q ⊢; omega) | (have q := hc91; rw [beq_iff_eq] at q ⊢; omega) | (have q := hc91; rw [beq_eq_false_iff_ne] at q ⊢; omega))), HD.out⟩
                    · replace HB90 := Lib.hid (ifF hc91 HB90.out)
                      have hc91d := decide_eq_false hc91
                      have HK92 := Lib.hid hc91
                      obtain rfl := Option.some.inj HB90.out
                      obtain ⟨b95, hb, hm⟩ := obind HB88.out
                      replace HB88 := Lib.hid hm; have HB96 := Lib.hid hb; clear hm hb
                      cases x74
                      · replace HB96 := Lib.hid (ifF Bool.false_ne_true HB96.out)
                        obtain rfl := Option.some.inj HB96.out
                        replace HB88 := Lib.hid (ifF (by decide) HB88.out)
                        obtain rfl := Option.some.inj HB88.out
                        obtain rfl := Option.some.inj HM.out
                        go_wp2_with fail
                        go_ret
                        exact ⟨(by first | rfl | (refine congrArg (fun b => Ending.returned (Value.bool b)) ?_; first | (exact decide_eq_true (by omega)) | (exact decide_eq_false (by omega)) | (have q := hc91; rw [bne_iff_ne] at q ⊢; omega) | (have q := hc91; rw [bne_eq_false_iff_eq] at q ⊢; omega) | (have q := hc91; rw [beq_iff_eq] at q ⊢; omega) | (have q := hc91; rw [beq_eq_false_iff_ne] at q ⊢; omega) | (have q := hc91d; rw [bne_iff_ne] at q ⊢; omega) | (have q := hc91d; rw [bne_eq_false_iff_eq] at q ⊢; omega) | (have q := hc91d; rw [beq_iff_eq] at q ⊢; omega) | (have q := hc91d; rw [beq_eq_false_iff_ne] at q ⊢; omega))), HD.out⟩
                      · replace HB96 := Lib.hid (ifT rfl HB96.out)
                        obtain rfl := Option.some.inj HB96.out
                        replace HB88 := Lib.hid (ifT (by decide) HB88.out)
                        obtain rfl := Option.some.inj HB88.out
                        obtain rfl := Option.some.inj HM.out
                        go_wp2_with fail
                        go_ret
                        exact ⟨(by first | rfl | (refine congrArg (fun b => Ending.returned (Value.bool b)) ?_; first | (exact decide_eq_true (by omega)) | (exact decide_eq_false (by omega)) | (have q := hc91; rw [bne_iff_ne] at q ⊢; omega) | (have q := hc91; rw [bne_eq_false_iff_eq] at q ⊢; omega) | (have q := hc91; rw [beq_iff_eq] at q ⊢; omega) | (have q := hc91; rw [beq_eq_false_iff_ne] at q ⊢; omega) | (have q := hc91d; rw [bne_iff_ne] at q ⊢; omega) | (have q := hc91d; rw [bne_eq_false_iff_eq] at q ⊢; omega) | (have q := hc91d; rw [beq_iff_eq] at q ⊢; omega) | (have q := hc91d; rw [beq_eq_false_iff_ne] at q ⊢; omega))), HD.out⟩
            · replace HM := Lib.hid (ifT rfl HM.out)
              obtain rfl := Option.some.inj HM.out
              go_wp2_with fail
              go_ret
              exact ⟨rfl, HD.out⟩
    · rw [errV_pos _ hz9] at HC6; replace HC6 := Lib.hid HC6
      go_wp2_with fail
      refine HC6.out.mono ?_; rintro e W11 ⟨rfl, hd⟩
      replace HOA := Lib.hid (HOA.out.below hd)
      replace HD := Lib.hid (HD.out.trans (hd.mono HD.out.size))
      clear hd
      have HZ12 := Lib.hid hz9; clear hz9
      replace HM := Lib.hid (ifT (bne_iff_ne.2 HZ12.out) HM.out)
      obtain ⟨b97, hb, hm⟩ := obind HM.out
      replace HM := Lib.hid hm; have HB98 := Lib.hid hb; clear hm hb
      rcases Bool.eq_false_or_eq_true (y7 == 0) with hc99 | hc99
      · replace HB98 := Lib.hid (ifT hc99 HB98.out)
        have HK100 := Lib.hid hc99
        obtain rfl := Option.some.inj HB98.out
        obtain rfl := Option.some.inj HM.out
        go_wp2_with fail
        go_ret
        exact ⟨(by first | rfl | (refine congrArg (fun b => Ending.returned (Value.bool b)) ?_; first | (exact decide_eq_true (by omega)) | (exact decide_eq_false (by omega)) | (have q := hc99; rw [bne_iff_ne] at q ⊢; omega) | (have q := hc99; rw [bne_eq_false_iff_eq] at q ⊢; omega) | (have q := hc99; rw [beq_iff_eq] at q ⊢; omega) | (have q := hc99; rw [beq_eq_false_iff_ne] at q ⊢; omega))), HD.out⟩
      · replace HB98 := Lib.hid (ifF (bF hc99) HB98.out)
        have HK100 := Lib.hid hc99
        obtain rfl := Option.some.inj HB98.out
        obtain rfl := Option.some.inj HM.out
        go_wp2_with fail
        go_ret
        exact ⟨(by first | rfl | (refine congrArg (fun b => Ending.returned (Value.bool b)) ?_; first | (exact decide_eq_true (by omega)) | (exact decide_eq_false (by omega)) | (have q := hc99; rw [bne_iff_ne] at q ⊢; omega) | (have q := hc99; rw [bne_eq_false_iff_eq] at q ⊢; omega) | (have q := hc99; rw [beq_iff_eq] at q ⊢; omega) | (have q := hc99; rw [beq_eq_false_iff_ne] at q ⊢; omega))), HD.out⟩
end Go.Proofs.Ytlecmgdkoanghaa
