import Derived.Test.YtoiidngnlhhanaaBy
import Derived.Test.YtoiidngnlhhanaaCh2
import Derived.Test.YtoiidngnlhhanaaCAd
set_option linter.all false
set_option maxRecDepth 100000
namespace Go.Proofs.Ytoiidngnlhhanaa
open Go.RowKit
def LT_TopPeeled (F : Nat) (v0 : Int) (v1 : List (Int × Int)) : Option (Bool) := (chordal_Peel F (v0) (v1)).bind fun y1 => (chordal_Peel F (1) ([])).bind fun y2 => ((if (y2.2 != 0) = true then some true else (SE_Ints F (y2.1) ([0])).bind fun y4 => if y4 = true then some false else some true).bind fun b3 => if b3 = true then some (false) else (if (y1.2 != 0) = true then (if (((y1.1).length : Int) == 0) = true then some true else some false).bind fun b5 => some (b5) else (SE_Turned F (y1.1)).bind fun y6 => (color_By F (v0) (v1) (y6)).bind fun y7 => (mMost (v0) (v1)).bind fun y8 => (((if (y7.2 == 0) = true then if (y8.2 == 0) = true then some true else some false else some false).bind fun b11 => if b11 = true then if (((y7.1).length : Int) == v0) = true then some true else some false else some false).bind fun b10 => if b10 = true then (R3_Most F (y7.1)).bind fun y12 => if ((wrap64 (y12 + 1)) == y8.1) = true then some true else some false else some false).bind fun b9 => some (b9)))
set_option maxRecDepth 100000 in
set_option maxHeartbeats 4000000 in
theorem LT_TopPeeled_ok {F : Nat} {v0 : Int} {v1 : List (Int × Int)} {A1 : Option Addr} {r : Bool} (w : World) (cap1 : Nat) (hr1 : ReadsL w w.heap.size A1 v1) (h : LT_TopPeeled F v0 v1 = some r) :
    Calls Try.prog 3 #[.int .i64 v0, .slice A1 v1.length cap1] w fun e w' => e = .returned (.bool r) ∧ Below w.heap.size w w' := by
  have HR1 := Lib.hid hr1; clear hr1
  have HD := Lib.hid (Below.refl w.heap.size w)
  have HOA := Lib.hid (HP.nil (W := w) (B := w.heap.size))
  unfold LT_TopPeeled at h
  have HM := Lib.hid h; clear h
  go_enter Try.func3, Try.ntmps3
  obtain ⟨⟨y3, y4⟩, hy1, hm⟩ := obind HM.out
  dsimp only at hm
  replace HM := Lib.hid hm; clear hm
  have HC2 := chordal_Peel_ok w cap1 (rdL HD.out HR1.out) hy1
  clear hy1
  by_cases hz5 : y4 = 0
  · subst hz5
    rw [errV_zero] at HC2; replace HC2 := Lib.hid HC2
    go_wp2_with fail
    refine HC2.out.mono ?_; rintro e W6 ⟨V7, rfl, ho, hd⟩
    replace HOA := Lib.hid (HOA.out.call hd HD.out.size ho); clear ho
    replace HD := Lib.hid (HD.out.trans (hd.mono HD.out.size))
    clear hd
    obtain ⟨⟨y15, y16⟩, hy13, hm⟩ := obind HM.out
    dsimp only at hm
    replace HM := Lib.hid hm; clear hm
    have HC14 := chordal_Peel_ok W6 0 (readsL_nil (A := none)) hy13
    clear hy13
    by_cases hz17 : y16 = 0
    · subst hz17
      rw [errV_zero] at HC14; replace HC14 := Lib.hid HC14
      go_wp2_with fail
      refine HC14.out.mono ?_; rintro e W18 ⟨V19, rfl, ho, hd⟩
      replace HOA := Lib.hid (HOA.out.call hd HD.out.size ho); clear ho
      replace HD := Lib.hid (HD.out.trans (hd.mono HD.out.size))
      clear hd
      go_upto_region 3 with (fail)
      obtain ⟨b25, hb, hm⟩ := obind HM.out
      replace HM := Lib.hid hm; have HB26 := Lib.hid hb; clear hm hb
      go_cut [30] (fun uq wr => uq = .bool b25 ∧ Hid (Below W18.heap.size W18 wr))
      case first =>
        have HWC27 := Lib.hid (Below.refl W18.heap.size W18)
        replace HB26 := Lib.hid (ifF (by decide) HB26.out)
        have hd : Below W18.heap.size W18 (World.alloc W18 (.cells #[Value.int .i64 (0)] 3)) := (Below.refl _ _).alloc (Nat.le_refl _) _
        have ho : (owI (.slice (some ⟨W18.heap.size, 0, none⟩) 1 1) [0]).ok (World.alloc W18 (.cells #[Value.int .i64 (0)] 3)) W18.heap.size := litI_ok W18 [0] (by unfold maxLen; simp)
        replace HOA := Lib.hid (HOA.out.call hd HD.out.size ho); clear ho
        replace HD := Lib.hid (HD.out.trans (hd.mono HD.out.size))
        replace HWC27 := Lib.hid (HWC27.out.trans (hd.mono HWC27.out.size))
        clear hd
        obtain ⟨y32, hy30, hm⟩ := obind HB26.out
        replace HB26 := Lib.hid hm; clear hm
        obtain ⟨A33, cap34, he, _⟩ := HP.open_I HOA.out (List.Mem.tail _ (List.Mem.head _))
        subst he
        have HC31 := SE_Ints_ok (World.alloc W18 (.cells #[Value.int .i64 (0)] 3)) cap34 (HP.rd_I HOA.out (List.Mem.tail _ (List.Mem.head _))) 1 (HP.rd_I HOA.out (List.Mem.head _)) hy30
        clear hy30
        try rw [← HP.len_I HOA.out (List.Mem.head _)] at HC31
        replace HC31 := Lib.hid HC31
        go_wp2_with fail
        refine HC31.out.mono ?_; rintro e W35 ⟨rfl, hd⟩
        replace HOA := Lib.hid (HOA.out.below (hd.below _))
        replace HD := Lib.hid (HD.out.trans ((hd.below _).mono HD.out.size))
        replace HWC27 := Lib.hid (HWC27.out.trans ((hd.below _).mono HWC27.out.size))
        clear hd
        cases y32
        · replace HB26 := Lib.hid (ifF Bool.false_ne_true HB26.out)
          cases Option.some.inj HB26.out
          try go_wp2_with fail
          go_meet
          case rel => exact ⟨rfl, HWC27⟩
        · replace HB26 := Lib.hid (ifT rfl HB26.out)
          cases Option.some.inj HB26.out
          try go_wp2_with fail
          go_meet
          case rel => exact ⟨rfl, HWC27⟩
      case rest =>
        obtain ⟨rfl, HWC27⟩ := hcut
        rename World => W36
        have hd := HWC27.out
        replace HOA := Lib.hid (HOA.out.below hd)
        replace HD := Lib.hid (HD.out.trans (hd.mono HD.out.size))
        clear hd
        cases b25
        · replace HM := Lib.hid (ifF Bool.false_ne_true HM.out)
          replace HM := Lib.hid (ifF (by decide) HM.out)
          obtain ⟨y39, hy37, hm⟩ := obind HM.out
          replace HM := Lib.hid hm; clear hm
          obtain ⟨A40, cap41, he, _⟩ := HP.open_I HOA.out (List.Mem.tail _ (List.Mem.head _))
          subst he
          have HC38 := SE_Turned_ok W36 cap41 (HP.rd_I HOA.out (List.Mem.tail _ (List.Mem.head _))) hy37
          clear hy37
          replace HC38 := Lib.hid HC38
          go_wp2_with fail
          refine HC38.out.mono ?_; rintro e W42 ⟨V43, rfl, ho, hd⟩
          replace HOA := Lib.hid (HOA.out.call hd HD.out.size ho); clear ho
          replace HD := Lib.hid (HD.out.trans (hd.mono HD.out.size))
          clear hd
          obtain ⟨⟨y47, y48⟩, hy45, hm⟩ := obind HM.out
          dsimp only at hm
          replace HM := Lib.hid hm; clear hm
          obtain ⟨A49, cap50, he, _⟩ := HP.open_I HOA.out (List.Mem.head _)
          subst he
          have HC46 := color_By_ok W42 cap1 (rdL HD.out HR1.out) cap50 (HP.rd_I HOA.out (List.Mem.head _)) (HP.cap_I HOA.out (List.Mem.head _)) hy45
          clear hy45
          by_cases hz51 : y48 = 0
          · subst hz51
            rw [errV_zero] at HC46; replace HC46 := Lib.hid HC46
            go_wp2_with fail
            refine HC46.out.mono ?_; rintro e W52 ⟨V53, rfl, ho, hd⟩
            replace HOA := Lib.hid (HOA.out.call hd HD.out.size ho); clear ho
            replace HD := Lib.hid (HD.out.trans (hd.mono HD.out.size))
            clear hd
            obtain ⟨⟨y61, y62⟩, hy59, hm⟩ := obind HM.out
            dsimp only at hm
            replace HM := Lib.hid hm; clear hm
            have HC60 := mMost_ok W52 cap1 (rdL HD.out HR1.out) hy59
            clear hy59
            by_cases hz63 : y62 = 0
            · subst hz63
              rw [errV_zero] at HC60; replace HC60 := Lib.hid HC60
              go_wp2_with fail
              refine HC60.out.mono ?_; rintro e W64 ⟨rfl, hd⟩
              replace HOA := Lib.hid (HOA.out.below hd)
              replace HD := Lib.hid (HD.out.trans (hd.mono HD.out.size))
              clear hd
              obtain ⟨b67, hb, hm⟩ := obind HM.out
              replace HM := Lib.hid hm; have HB68 := Lib.hid hb; clear hm hb
              obtain ⟨b69, hb, hm⟩ := obind HB68.out
              replace HB68 := Lib.hid hm; have HB70 := Lib.hid hb; clear hm hb
              obtain ⟨b71, hb, hm⟩ := obind HB70.out
              replace HB70 := Lib.hid hm; have HB72 := Lib.hid hb; clear hm hb
              replace HB72 := Lib.hid (ifT (by decide) HB72.out)
              replace HB72 := Lib.hid (ifT (by decide) HB72.out)
              obtain rfl := Option.some.inj HB72.out
              replace HB70 := Lib.hid (ifT (by first | rfl | trivial) HB70.out)
              obtain ⟨A73, cap74, he, _⟩ := HP.open_I HOA.out (List.Mem.head _)
              subst he
              rcases Bool.eq_false_or_eq_true (((y47).length : Int) == v0) with hc75 | hc75
              · replace HB70 := Lib.hid (ifT hc75 HB70.out)
                have HK76 := Lib.hid hc75
                obtain rfl := Option.some.inj HB70.out
                replace HB68 := Lib.hid (ifT (by first | rfl | trivial) HB68.out)
                obtain ⟨y79, hy77, hm⟩ := obind HB68.out
                replace HB68 := Lib.hid hm; clear hm
                have HC78 := R3_Most_ok W64 cap74 (HP.rd_I HOA.out (List.Mem.head _)) hy77
                clear hy77
                replace HC78 := Lib.hid HC78
                rcases Bool.eq_false_or_eq_true ((wrap64 (y79 + 1)) == y61) with hc80 | hc80
                · replace HB68 := Lib.hid (ifT hc80 HB68.out)
                  have HK81 := Lib.hid hc80
                  obtain rfl := Option.some.inj HB68.out
                  obtain rfl := Option.some.inj HM.out
                  go_wp2_with fail
                  refine HC78.out.mono ?_; rintro e w' ⟨rfl, rfl⟩
                  go_wp2_with fail
                  go_ret
                  exact ⟨(by first | rfl | (refine congrArg (fun b => Ending.returned (Value.bool b)) ?_; first | (exact decide_eq_true (by omega)) | (exact decide_eq_false (by omega)) | (have q := hc75; rw [bne_iff_ne] at q ⊢; omega) | (have q := hc75; rw [bne_eq_false_iff_eq] at q ⊢; omega) | (have q := hc75; rw [beq_iff_eq] at q ⊢; omega) | (have q := hc75; rw [beq_eq_false_iff_ne] at q ⊢; omega) | (have q := hc80; rw [bne_iff_ne] at q ⊢; omega) | (have q := hc80; rw [bne_eq_false_iff_eq] at q ⊢; omega) | (have q := hc80; rw [beq_iff_eq] at q ⊢; omega) | (have q := hc80; rw [beq_eq_false_iff_ne] at q ⊢; omega))), HD.out⟩
                · replace HB68 := Lib.hid (ifF (bF hc80) HB68.out)
                  have HK81 := Lib.hid hc80
                  obtain rfl := Option.some.inj HB68.out
                  obtain rfl := Option.some.inj HM.out
                  go_wp2_with fail
                  refine HC78.out.mono ?_; rintro e w' ⟨rfl, rfl⟩
                  go_wp2_with fail
                  go_ret
                  exact ⟨(by first | rfl | (refine congrArg (fun b => Ending.returned (Value.bool b)) ?_; first | (exact decide_eq_true (by omega)) | (exact decide_eq_false (by omega)) | (have q := hc75; rw [bne_iff_ne] at q ⊢; omega) | (have q := hc75; rw [bne_eq_false_iff_eq] at q ⊢; omega) | (have q := hc75; rw [beq_iff_eq] at q ⊢; omega) | (have q := hc75; rw [beq_eq_false_iff_ne] at q ⊢; omega) | (have q := hc80; rw [bne_iff_ne] at q ⊢; omega) | (have q := hc80; rw [bne_eq_false_iff_eq] at q ⊢; omega) | (have q := hc80; rw [beq_iff_eq] at q ⊢; omega) | (have q := hc80; rw [beq_eq_false_iff_ne] at q ⊢; omega))), HD.out⟩
              · replace HB70 := Lib.hid (ifF (bF hc75) HB70.out)
                have HK76 := Lib.hid hc75
                obtain rfl := Option.some.inj HB70.out
                replace HB68 := Lib.hid (ifF (by first | exact Bool.false_ne_true | exact not_false) HB68.out)
                obtain rfl := Option.some.inj HB68.out
                obtain rfl := Option.some.inj HM.out
                go_wp2_with fail
                go_ret
                exact ⟨(by first | rfl | (refine congrArg (fun b => Ending.returned (Value.bool b)) ?_; first | (exact decide_eq_true (by omega)) | (exact decide_eq_false (by omega)) | (have q := hc75; rw [bne_iff_ne] at q ⊢; omega) | (have q := hc75; rw [bne_eq_false_iff_eq] at q ⊢; omega) | (have q := hc75; rw [beq_iff_eq] at q ⊢; omega) | (have q := hc75; rw [beq_eq_false_iff_ne] at q ⊢; omega))), HD.out⟩
            · rw [errV_pos _ hz63] at HC60; replace HC60 := Lib.hid HC60
              go_wp2_with fail
              refine HC60.out.mono ?_; rintro e W65 ⟨rfl, hd⟩
              replace HOA := Lib.hid (HOA.out.below hd)
              replace HD := Lib.hid (HD.out.trans (hd.mono HD.out.size))
              clear hd
              have HZ66 := Lib.hid hz63; clear hz63
              obtain ⟨b82, hb, hm⟩ := obind HM.out
              replace HM := Lib.hid hm; have HB83 := Lib.hid hb; clear hm hb
              obtain ⟨b84, hb, hm⟩ := obind HB83.out
              replace HB83 := Lib.hid hm; have HB85 := Lib.hid hb; clear hm hb
              obtain ⟨b86, hb, hm⟩ := obind HB85.out
              replace HB85 := Lib.hid hm; have HB87 := Lib.hid hb; clear hm hb
              replace HB87 := Lib.hid (ifT (by decide) HB87.out)
              replace HB87 := Lib.hid (ifF (fun h => HZ66.out (eq_of_beq h)) HB87.out)
              obtain rfl := Option.some.inj HB87.out
              replace HB85 := Lib.hid (ifF (by first | exact Bool.false_ne_true | exact not_false) HB85.out)
              obtain rfl := Option.some.inj HB85.out
              replace HB83 := Lib.hid (ifF (by first | exact Bool.false_ne_true | exact not_false) HB83.out)
              obtain rfl := Option.some.inj HB83.out
              obtain rfl := Option.some.inj HM.out
              go_wp2_with fail
              go_ret
              exact ⟨rfl, HD.out⟩
          · rw [errV_pos _ hz51] at HC46; replace HC46 := Lib.hid HC46
            go_wp2_with fail
            refine HC46.out.mono ?_; rintro e W55 ⟨V56, rfl, ho, hd⟩
            replace HOA := Lib.hid (HOA.out.call hd HD.out.size ho); clear ho
            replace HD := Lib.hid (HD.out.trans (hd.mono HD.out.size))
            clear hd
            have HZ58 := Lib.hid hz51; clear hz51
            obtain ⟨⟨y90, y91⟩, hy88, hm⟩ := obind HM.out
            dsimp only at hm
            replace HM := Lib.hid hm; clear hm
            have HC89 := mMost_ok W55 cap1 (rdL HD.out HR1.out) hy88
            clear hy88
            by_cases hz92 : y91 = 0
            · subst hz92
              rw [errV_zero] at HC89; replace HC89 := Lib.hid HC89
              go_wp2_with fail
              refine HC89.out.mono ?_; rintro e W93 ⟨rfl, hd⟩
              replace HOA := Lib.hid (HOA.out.below hd)
              replace HD := Lib.hid (HD.out.trans (hd.mono HD.out.size))
              clear hd
              obtain ⟨b96, hb, hm⟩ := obind HM.out
              replace HM := Lib.hid hm; have HB97 := Lib.hid hb; clear hm hb
              obtain ⟨b98, hb, hm⟩ := obind HB97.out
              replace HB97 := Lib.hid hm; have HB99 := Lib.hid hb; clear hm hb
              obtain ⟨b100, hb, hm⟩ := obind HB99.out
              replace HB99 := Lib.hid hm; have HB101 := Lib.hid hb; clear hm hb
              replace HB101 := Lib.hid (ifF (fun h => HZ58.out (eq_of_beq h)) HB101.out)
              obtain rfl := Option.some.inj HB101.out
              replace HB99 := Lib.hid (ifF (by first | exact Bool.false_ne_true | exact not_false) HB99.out)
              obtain rfl := Option.some.inj HB99.out
              replace HB97 := Lib.hid (ifF (by first | exact Bool.false_ne_true | exact not_false) HB97.out)
              obtain rfl := Option.some.inj HB97.out
              obtain rfl := Option.some.inj HM.out
              go_wp2_with fail
              go_ret
              exact ⟨rfl, HD.out⟩
            · rw [errV_pos _ hz92] at HC89; replace HC89 := Lib.hid HC89
              go_wp2_with fail
              refine HC89.out.mono ?_; rintro e W94 ⟨rfl, hd⟩
              replace HOA := Lib.hid (HOA.out.below hd)
              replace HD := Lib.hid (HD.out.trans (hd.mono HD.out.size))
              clear hd
              have HZ95 := Lib.hid hz92; clear hz92
              obtain ⟨b102, hb, hm⟩ := obind HM.out
              replace HM := Lib.hid hm; have HB103 := Lib.hid hb; clear hm hb
              obtain ⟨b104, hb, hm⟩ := obind HB103.out
              replace HB103 := Lib.hid hm; have HB105 := Lib.hid hb; clear hm hb
              obtain ⟨b106, hb, hm⟩ := obind HB105.out
              replace HB105 := Lib.hid hm; have HB107 := Lib.hid hb; clear hm hb
              replace HB107 := Lib.hid (ifF (fun h => HZ58.out (eq_of_beq h)) HB107.out)
              obtain rfl := Option.some.inj HB107.out
              replace HB105 := Lib.hid (ifF (by first | exact Bool.false_ne_true | exact not_false) HB105.out)
              obtain rfl := Option.some.inj HB105.out
              replace HB103 := Lib.hid (ifF (by first | exact Bool.false_ne_true | exact not_false) HB103.out)
              obtain rfl := Option.some.inj HB103.out
              obtain rfl := Option.some.inj HM.out
              go_wp2_with fail
              go_ret
              exact ⟨rfl, HD.out⟩
        · replace HM := Lib.hid (ifT rfl HM.out)
          obtain rfl := Option.some.inj HM.out
          go_wp2_with fail
          go_ret
          exact ⟨rfl, HD.out⟩
    · rw [errV_pos _ hz17] at HC14; replace HC14 := Lib.hid HC14
      go_wp2_with fail
      refine HC14.out.mono ?_; rintro e W21 ⟨V22, rfl, ho, hd⟩
      replace HOA := Lib.hid (HOA.out.call hd HD.out.size ho); clear ho
      replace HD := Lib.hid (HD.out.trans (hd.mono HD.out.size))
      clear hd
      have HZ24 := Lib.hid hz17; clear hz17
      go_upto_region 3 with (fail)
      obtain ⟨b108, hb, hm⟩ := obind HM.out
      replace HM := Lib.hid hm; have HB109 := Lib.hid hb; clear hm hb
      go_cut [30] (fun uq wr => uq = .bool b108 ∧ Hid (Below W21.heap.size W21 wr))
      case first =>
        have HWC110 := Lib.hid (Below.refl W21.heap.size W21)
        replace HB109 := Lib.hid (ifT (bne_iff_ne.2 HZ24.out) HB109.out)
        cases Option.some.inj HB109.out
        try go_wp2_with fail
        go_meet
        case rel => exact ⟨rfl, HWC110⟩
      case rest =>
        obtain ⟨rfl, HWC110⟩ := hcut
        rename World => W111
        have hd := HWC110.out
        replace HOA := Lib.hid (HOA.out.below hd)
        replace HD := Lib.hid (HD.out.trans (hd.mono HD.out.size))
        clear hd
        cases b108
        · replace HM := Lib.hid (ifF Bool.false_ne_true HM.out)
          replace HM := Lib.hid (ifF (by decide) HM.out)
          obtain ⟨y114, hy112, hm⟩ := obind HM.out
          replace HM := Lib.hid hm; clear hm
          obtain ⟨A115, cap116, he, _⟩ := HP.open_I HOA.out (List.Mem.tail _ (List.Mem.head _))
          subst he
          have HC113 := SE_Turned_ok W111 cap116 (HP.rd_I HOA.out (List.Mem.tail _ (List.Mem.head _))) hy112
          clear hy112
          replace HC113 := Lib.hid HC113
          go_wp2_with fail
          refine HC113.out.mono ?_; rintro e W117 ⟨V118, rfl, ho, hd⟩
          replace HOA := Lib.hid (HOA.out.call hd HD.out.size ho); clear ho
          replace HD := Lib.hid (HD.out.trans (hd.mono HD.out.size))
          clear hd
          obtain ⟨⟨y122, y123⟩, hy120, hm⟩ := obind HM.out
          dsimp only at hm
          replace HM := Lib.hid hm; clear hm
          obtain ⟨A124, cap125, he, _⟩ := HP.open_I HOA.out (List.Mem.head _)
          subst he
          have HC121 := color_By_ok W117 cap1 (rdL HD.out HR1.out) cap125 (HP.rd_I HOA.out (List.Mem.head _)) (HP.cap_I HOA.out (List.Mem.head _)) hy120
          clear hy120
          by_cases hz126 : y123 = 0
          · subst hz126
            rw [errV_zero] at HC121; replace HC121 := Lib.hid HC121
            go_wp2_with fail
            refine HC121.out.mono ?_; rintro e W127 ⟨V128, rfl, ho, hd⟩
            replace HOA := Lib.hid (HOA.out.call hd HD.out.size ho); clear ho
            replace HD := Lib.hid (HD.out.trans (hd.mono HD.out.size))
            clear hd
            obtain ⟨⟨y136, y137⟩, hy134, hm⟩ := obind HM.out
            dsimp only at hm
            replace HM := Lib.hid hm; clear hm
            have HC135 := mMost_ok W127 cap1 (rdL HD.out HR1.out) hy134
            clear hy134
            by_cases hz138 : y137 = 0
            · subst hz138
              rw [errV_zero] at HC135; replace HC135 := Lib.hid HC135
              go_wp2_with fail
              refine HC135.out.mono ?_; rintro e W139 ⟨rfl, hd⟩
              replace HOA := Lib.hid (HOA.out.below hd)
              replace HD := Lib.hid (HD.out.trans (hd.mono HD.out.size))
              clear hd
              obtain ⟨b142, hb, hm⟩ := obind HM.out
              replace HM := Lib.hid hm; have HB143 := Lib.hid hb; clear hm hb
              obtain ⟨b144, hb, hm⟩ := obind HB143.out
              replace HB143 := Lib.hid hm; have HB145 := Lib.hid hb; clear hm hb
              obtain ⟨b146, hb, hm⟩ := obind HB145.out
              replace HB145 := Lib.hid hm; have HB147 := Lib.hid hb; clear hm hb
              replace HB147 := Lib.hid (ifT (by decide) HB147.out)
              replace HB147 := Lib.hid (ifT (by decide) HB147.out)
              obtain rfl := Option.some.inj HB147.out
              replace HB145 := Lib.hid (ifT (by first | rfl | trivial) HB145.out)
              obtain ⟨A148, cap149, he, _⟩ := HP.open_I HOA.out (List.Mem.head _)
              subst he
              rcases Bool.eq_false_or_eq_true (((y122).length : Int) == v0) with hc150 | hc150
              · replace HB145 := Lib.hid (ifT hc150 HB145.out)
                have HK151 := Lib.hid hc150
                obtain rfl := Option.some.inj HB145.out
                replace HB143 := Lib.hid (ifT (by first | rfl | trivial) HB143.out)
                obtain ⟨y154, hy152, hm⟩ := obind HB143.out
                replace HB143 := Lib.hid hm; clear hm
                have HC153 := R3_Most_ok W139 cap149 (HP.rd_I HOA.out (List.Mem.head _)) hy152
                clear hy152
                replace HC153 := Lib.hid HC153
                rcases Bool.eq_false_or_eq_true ((wrap64 (y154 + 1)) == y136) with hc155 | hc155
                · replace HB143 := Lib.hid (ifT hc155 HB143.out)
                  have HK156 := Lib.hid hc155
                  obtain rfl := Option.some.inj HB143.out
                  obtain rfl := Option.some.inj HM.out
                  go_wp2_with fail
                  refine HC153.out.mono ?_; rintro e w' ⟨rfl, rfl⟩
                  go_wp2_with fail
                  go_ret
                  exact ⟨(by first | rfl | (refine congrArg (fun b => Ending.returned (Value.bool b)) ?_; first | (exact decide_eq_true (by omega)) | (exact decide_eq_false (by omega)) | (have q := hc150; rw [bne_iff_ne] at q ⊢; omega) | (have q := hc150; rw [bne_eq_false_iff_eq] at q ⊢; omega) | (have q := hc150; rw [beq_iff_eq] at q ⊢; omega) | (have q := hc150; rw [beq_eq_false_iff_ne] at q ⊢; omega) | (have q := hc155; rw [bne_iff_ne] at q ⊢; omega) | (have q := hc155; rw [bne_eq_false_iff_eq] at q ⊢; omega) | (have q := hc155; rw [beq_iff_eq] at q ⊢; omega) | (have q := hc155; rw [beq_eq_false_iff_ne] at q ⊢; omega))), HD.out⟩
                · replace HB143 := Lib.hid (ifF (bF hc155) HB143.out)
                  have HK156 := Lib.hid hc155
                  obtain rfl := Option.some.inj HB143.out
                  obtain rfl := Option.some.inj HM.out
                  go_wp2_with fail
                  refine HC153.out.mono ?_; rintro e w' ⟨rfl, rfl⟩
                  go_wp2_with fail
                  go_ret
                  exact ⟨(by first | rfl | (refine congrArg (fun b => Ending.returned (Value.bool b)) ?_; first | (exact decide_eq_true (by omega)) | (exact decide_eq_false (by omega)) | (have q := hc150; rw [bne_iff_ne] at q ⊢; omega) | (have q := hc150; rw [bne_eq_false_iff_eq] at q ⊢; omega) | (have q := hc150; rw [beq_iff_eq] at q ⊢; omega) | (have q := hc150; rw [beq_eq_false_iff_ne] at q ⊢; omega) | (have q := hc155; rw [bne_iff_ne] at q ⊢; omega) | (have q := hc155; rw [bne_eq_false_iff_eq] at q ⊢; omega) | (have q := hc155; rw [beq_iff_eq] at q ⊢; omega) | (have q := hc155; rw [beq_eq_false_iff_ne] at q ⊢; omega))), HD.out⟩
              · replace HB145 := Lib.hid (ifF (bF hc150) HB145.out)
                have HK151 := Lib.hid hc150
                obtain rfl := Option.some.inj HB145.out
                replace HB143 := Lib.hid (ifF (by first | exact Bool.false_ne_true | exact not_false) HB143.out)
                obtain rfl := Option.some.inj HB143.out
                obtain rfl := Option.some.inj HM.out
                go_wp2_with fail
                go_ret
                exact ⟨(by first | rfl | (refine congrArg (fun b => Ending.returned (Value.bool b)) ?_; first | (exact decide_eq_true (by omega)) | (exact decide_eq_false (by omega)) | (have q := hc150; rw [bne_iff_ne] at q ⊢; omega) | (have q := hc150; rw [bne_eq_false_iff_eq] at q ⊢; omega) | (have q := hc150; rw [beq_iff_eq] at q ⊢; omega) | (have q := hc150; rw [beq_eq_false_iff_ne] at q ⊢; omega))), HD.out⟩
            · rw [errV_pos _ hz138] at HC135; replace HC135 := Lib.hid HC135
              go_wp2_with fail
              refine HC135.out.mono ?_; rintro e W140 ⟨rfl, hd⟩
              replace HOA := Lib.hid (HOA.out.below hd)
              replace HD := Lib.hid (HD.out.trans (hd.mono HD.out.size))
              clear hd
              have HZ141 := Lib.hid hz138; clear hz138
              obtain ⟨b157, hb, hm⟩ := obind HM.out
              replace HM := Lib.hid hm; have HB158 := Lib.hid hb; clear hm hb
              obtain ⟨b159, hb, hm⟩ := obind HB158.out
              replace HB158 := Lib.hid hm; have HB160 := Lib.hid hb; clear hm hb
              obtain ⟨b161, hb, hm⟩ := obind HB160.out
              replace HB160 := Lib.hid hm; have HB162 := Lib.hid hb; clear hm hb
              replace HB162 := Lib.hid (ifT (by decide) HB162.out)
              replace HB162 := Lib.hid (ifF (fun h => HZ141.out (eq_of_beq h)) HB162.out)
              obtain rfl := Option.some.inj HB162.out
              replace HB160 := Lib.hid (ifF (by first | exact Bool.false_ne_true | exact not_false) HB160.out)
              obtain rfl := Option.some.inj HB160.out
              replace HB158 := Lib.hid (ifF (by first | exact Bool.false_ne_true | exact not_false) HB158.out)
              obtain rfl := Option.some.inj HB158.out
              obtain rfl := Option.some.inj HM.out
              go_wp2_with fail
              go_ret
              exact ⟨rfl, HD.out⟩
          · rw [errV_pos _ hz126] at HC121; replace HC121 := Lib.hid HC121
            go_wp2_with fail
            refine HC121.out.mono ?_; rintro e W130 ⟨V131, rfl, ho, hd⟩
            replace HOA := Lib.hid (HOA.out.call hd HD.out.size ho); clear ho
            replace HD := Lib.hid (HD.out.trans (hd.mono HD.out.size))
            clear hd
            have HZ133 := Lib.hid hz126; clear hz126
            obtain ⟨⟨y165, y166⟩, hy163, hm⟩ := obind HM.out
            dsimp only at hm
            replace HM := Lib.hid hm; clear hm
            have HC164 := mMost_ok W130 cap1 (rdL HD.out HR1.out) hy163
            clear hy163
            by_cases hz167 : y166 = 0
            · subst hz167
              rw [errV_zero] at HC164; replace HC164 := Lib.hid HC164
              go_wp2_with fail
              refine HC164.out.mono ?_; rintro e W168 ⟨rfl, hd⟩
              replace HOA := Lib.hid (HOA.out.below hd)
              replace HD := Lib.hid (HD.out.trans (hd.mono HD.out.size))
              clear hd
              obtain ⟨b171, hb, hm⟩ := obind HM.out
              replace HM := Lib.hid hm; have HB172 := Lib.hid hb; clear hm hb
              obtain ⟨b173, hb, hm⟩ := obind HB172.out
              replace HB172 := Lib.hid hm; have HB174 := Lib.hid hb; clear hm hb
              obtain ⟨b175, hb, hm⟩ := obind HB174.out
              replace HB174 := Lib.hid hm; have HB176 := Lib.hid hb; clear hm hb
              replace HB176 := Lib.hid (ifF (fun h => HZ133.out (eq_of_beq h)) HB176.out)
              obtain rfl := Option.some.inj HB176.out
              replace HB174 := Lib.hid (ifF (by first | exact Bool.false_ne_true | exact not_false) HB174.out)
              obtain rfl := Option.some.inj HB174.out
              replace HB172 := Lib.hid (ifF (by first | exact Bool.false_ne_true | exact not_false) HB172.out)
              obtain rfl := Option.some.inj HB172.out
              obtain rfl := Option.some.inj HM.out
              go_wp2_with fail
              go_ret
              exact ⟨rfl, HD.out⟩
            · rw [errV_pos _ hz167] at HC164; replace HC164 := Lib.hid HC164
              go_wp2_with fail
              refine HC164.out.mono ?_; rintro e W169 ⟨rfl, hd⟩
              replace HOA := Lib.hid (HOA.out.below hd)
              replace HD := Lib.hid (HD.out.trans (hd.mono HD.out.size))
              clear hd
              have HZ170 := Lib.hid hz167; clear hz167
              obtain ⟨b177, hb, hm⟩ := obind HM.out
              replace HM := Lib.hid hm; have HB178 := Lib.hid hb; clear hm hb
              obtain ⟨b179, hb, hm⟩ := obind HB178.out
              replace HB178 := Lib.hid hm; have HB180 := Lib.hid hb; clear hm hb
              obtain ⟨b181, hb, hm⟩ := obind HB180.out
              replace HB180 := Lib.hid hm; have HB182 := Lib.hid hb; clear hm hb
              replace HB182 := Lib.hid (ifF (fun h => HZ133.out (eq_of_beq h)) HB182.out)
              obtain rfl := Option.some.inj HB182.out
              replace HB180 := Lib.hid (ifF (by first | exact Bool.false_ne_true | exact not_false) HB180.out)
              obtain rfl := Option.some.inj HB180.out
              replace HB178 := Lib.hid (ifF (by first | exact Bool.false_ne_true | exact not_false) HB178.out)
              obtain rfl := Option.some.inj HB178.out
              obtain rfl := Option.some.inj HM.out
              go_wp2_with fail
              go_ret
              exact ⟨rfl, HD.out⟩
        · replace HM := Lib.hid (ifT rfl HM.out)
          obtain rfl := Option.some.inj HM.out
          go_wp2_with fail
          go_ret
          exact ⟨rfl, HD.out⟩
  · rw [errV_pos _ hz5] at HC2; replace HC2 := Lib.hid HC2
    go_wp2_with fail
    refine HC2.out.mono ?_; rintro e W9 ⟨V10, rfl, ho, hd⟩
    replace HOA := Lib.hid (HOA.out.call hd HD.out.size ho); clear ho
    replace HD := Lib.hid (HD.out.trans (hd.mono HD.out.size))
    clear hd
    have HZ12 := Lib.hid hz5; clear hz5
    obtain ⟨⟨y185, y186⟩, hy183, hm⟩ := obind HM.out
    dsimp only at hm
    replace HM := Lib.hid hm; clear hm
    have HC184 := chordal_Peel_ok W9 0 (readsL_nil (A := none)) hy183
    clear hy183
    by_cases hz187 : y186 = 0
    · subst hz187
      rw [errV_zero] at HC184; replace HC184 := Lib.hid HC184
      go_wp2_with fail
      refine HC184.out.mono ?_; rintro e W188 ⟨V189, rfl, ho, hd⟩
      replace HOA := Lib.hid (HOA.out.call hd HD.out.size ho); clear ho
      replace HD := Lib.hid (HD.out.trans (hd.mono HD.out.size))
      clear hd
      go_upto_region 3 with (fail)
      obtain ⟨b195, hb, hm⟩ := obind HM.out
      replace HM := Lib.hid hm; have HB196 := Lib.hid hb; clear hm hb
      go_cut [30] (fun uq wr => uq = .bool b195 ∧ Hid (Below W188.heap.size W188 wr))
      case first =>
        have HWC197 := Lib.hid (Below.refl W188.heap.size W188)
        replace HB196 := Lib.hid (ifF (by decide) HB196.out)
        have hd : Below W188.heap.size W188 (World.alloc W188 (.cells #[Value.int .i64 (0)] 3)) := (Below.refl _ _).alloc (Nat.le_refl _) _
        have ho : (owI (.slice (some ⟨W188.heap.size, 0, none⟩) 1 1) [0]).ok (World.alloc W188 (.cells #[Value.int .i64 (0)] 3)) W188.heap.size := litI_ok W188 [0] (by unfold maxLen; simp)
        replace HOA := Lib.hid (HOA.out.call hd HD.out.size ho); clear ho
        replace HD := Lib.hid (HD.out.trans (hd.mono HD.out.size))
        replace HWC197 := Lib.hid (HWC197.out.trans (hd.mono HWC197.out.size))
        clear hd
        obtain ⟨y202, hy200, hm⟩ := obind HB196.out
        replace HB196 := Lib.hid hm; clear hm
        obtain ⟨A203, cap204, he, _⟩ := HP.open_I HOA.out (List.Mem.tail _ (List.Mem.head _))
        subst he
        have HC201 := SE_Ints_ok (World.alloc W188 (.cells #[Value.int .i64 (0)] 3)) cap204 (HP.rd_I HOA.out (List.Mem.tail _ (List.Mem.head _))) 1 (HP.rd_I HOA.out (List.Mem.head _)) hy200
        clear hy200
        try rw [← HP.len_I HOA.out (List.Mem.head _)] at HC201
        replace HC201 := Lib.hid HC201
        go_wp2_with fail
        refine HC201.out.mono ?_; rintro e W205 ⟨rfl, hd⟩
        replace HOA := Lib.hid (HOA.out.below (hd.below _))
        replace HD := Lib.hid (HD.out.trans ((hd.below _).mono HD.out.size))
        replace HWC197 := Lib.hid (HWC197.out.trans ((hd.below _).mono HWC197.out.size))
        clear hd
        cases y202
        · replace HB196 := Lib.hid (ifF Bool.false_ne_true HB196.out)
          cases Option.some.inj HB196.out
          try go_wp2_with fail
          go_meet
          case rel => exact ⟨rfl, HWC197⟩
        · replace HB196 := Lib.hid (ifT rfl HB196.out)
          cases Option.some.inj HB196.out
          try go_wp2_with fail
          go_meet
          case rel => exact ⟨rfl, HWC197⟩
      case rest =>
        obtain ⟨rfl, HWC197⟩ := hcut
        rename World => W206
        have hd := HWC197.out
        replace HOA := Lib.hid (HOA.out.below hd)
        replace HD := Lib.hid (HD.out.trans (hd.mono HD.out.size))
        clear hd
        cases b195
        · replace HM := Lib.hid (ifF Bool.false_ne_true HM.out)
          replace HM := Lib.hid (ifT (bne_iff_ne.2 HZ12.out) HM.out)
          obtain ⟨b207, hb, hm⟩ := obind HM.out
          replace HM := Lib.hid hm; have HB208 := Lib.hid hb; clear hm hb
          obtain ⟨A209, cap210, he, _⟩ := HP.open_I HOA.out (List.Mem.tail _ (List.Mem.head _))
          subst he
          rcases Bool.eq_false_or_eq_true (((y3).length : Int) == 0) with hc211 | hc211
          · replace HB208 := Lib.hid (ifT hc211 HB208.out)
            have HK212 := Lib.hid hc211
            obtain rfl := Option.some.inj HB208.out
            obtain rfl := Option.some.inj HM.out
            go_wp2_with fail
            go_ret
            exact ⟨(by first | rfl | (refine congrArg (fun b => Ending.returned (Value.bool b)) ?_; first | (exact decide_eq_true (by omega)) | (exact decide_eq_false (by omega)) | (have q := hc211; rw [bne_iff_ne] at q ⊢; omega) | (have q := hc211; rw [bne_eq_false_iff_eq] at q ⊢; omega) | (have q := hc211; rw [beq_iff_eq] at q ⊢; omega) | (have q := hc211; rw [beq_eq_false_iff_ne] at q ⊢; omega))), HD.out⟩
          · replace HB208 := Lib.hid (ifF (bF hc211) HB208.out)
            have HK212 := Lib.hid hc211
            obtain rfl := Option.some.inj HB208.out
            obtain rfl := Option.some.inj HM.out
            go_wp2_with fail
            go_ret
            exact ⟨(by first | rfl | (refine congrArg (fun b => Ending.returned (Value.bool b)) ?_; first | (exact decide_eq_true (by omega)) | (exact decide_eq_false (by omega)) | (have q := hc211; rw [bne_iff_ne] at q ⊢; omega) | (have q := hc211; rw [bne_eq_false_iff_eq] at q ⊢; omega) | (have q := hc211; rw [beq_iff_eq] at q ⊢; omega) | (have q := hc211; rw [beq_eq_false_iff_ne] at q ⊢; omega))), HD.out⟩
        · replace HM := Lib.hid (ifT rfl HM.out)
          obtain rfl := Option.some.inj HM.out
          go_wp2_with fail
          go_ret
          exact ⟨rfl, HD.out⟩
    · rw [errV_pos _ hz187] at HC184; replace HC184 := Lib.hid HC184
      go_wp2_with fail
      refine HC184.out.mono ?_; rintro e W191 ⟨V192, rfl, ho, hd⟩
      replace HOA := Lib.hid (HOA.out.call hd HD.out.size ho); clear ho
      replace HD := Lib.hid (HD.out.trans (hd.mono HD.out.size))
      clear hd
      have HZ194 := Lib.hid hz187; clear hz187
      go_upto_region 3 with (fail)
      obtain ⟨b213, hb, hm⟩ := obind HM.out
      replace HM := Lib.hid hm; have HB214 := Lib.hid hb; clear hm hb
      go_cut [30] (fun uq wr => uq = .bool b213 ∧ Hid (Below W191.heap.size W191 wr))
      case first =>
        have HWC215 := Lib.hid (Below.refl W191.heap.size W191)
        replace HB214 := Lib.hid (ifT (bne_iff_ne.2 HZ194.out) HB214.out)
        cases Option.some.inj HB214.out
        try go_wp2_with fail
        go_meet
        case rel => exact ⟨rfl, HWC215⟩
      case rest =>
        obtain ⟨rfl, HWC215⟩ := hcut
        rename World => W216
        have hd := HWC215.out
        replace HOA := Lib.hid (HOA.out.below hd)
        replace HD := Lib.hid (HD.out.trans (hd.mono HD.out.size))
        clear hd
        cases b213
        · replace HM := Lib.hid (ifF Bool.false_ne_true HM.out)
          replace HM := Lib.hid (ifT (bne_iff_ne.2 HZ12.out) HM.out)
          obtain ⟨b217, hb, hm⟩ := obind HM.out
          replace HM := Lib.hid hm; have HB218 := Lib.hid hb; clear hm hb
          obtain ⟨A219, cap220, he, _⟩ := HP.open_I HOA.out (List.Mem.tail _ (List.Mem.head _))
          subst he
          rcases Bool.eq_false_or_eq_true (((y3).length : Int) == 0) with hc221 | hc221
          · replace HB218 := Lib.hid (ifT hc221 HB218.out)
            have HK222 := Lib.hid hc221
            obtain rfl := Option.some.inj HB218.out
            obtain rfl := Option.some.inj HM.out
            go_wp2_with fail
            go_ret
            exact ⟨(by first | rfl | (refine congrArg (fun b => Ending.returned (Value.bool b)) ?_; first | (exact decide_eq_true (by omega)) | (exact decide_eq_false (by omega)) | (have q := hc221; rw [bne_iff_ne] at q ⊢; omega) | (have q := hc221; rw [bne_eq_false_iff_eq] at q ⊢; omega) | (have q := hc221; rw [beq_iff_eq] at q ⊢; omega) | (have q := hc221; rw [beq_eq_false_iff_ne] at q ⊢; omega))), HD.out⟩
          · replace HB218 := Lib.hid (ifF (bF hc221) HB218.out)
            have HK222 := Lib.hid hc221
            obtain rfl := Option.some.inj HB218.out
            obtain rfl := Option.some.inj HM.out
            go_wp2_with fail
            go_ret
            exact ⟨(by first | rfl | (refine congrArg (fun b => Ending.returned (Value.bool b)) ?_; first | (exact decide_eq_true (by omega)) | (exact decide_eq_false (by omega)) | (have q := hc221; rw [bne_iff_ne] at q ⊢; omega) | (have q := hc221; rw [bne_eq_false_iff_eq] at q ⊢; omega) | (have q := hc221; rw [beq_iff_eq] at q ⊢; omega) | (have q := hc221; rw [beq_eq_false_iff_ne] at q ⊢; omega))), HD.out⟩
        · replace HM := Lib.hid (ifT rfl HM.out)
          obtain rfl := Option.some.inj HM.out
          go_wp2_with fail
          go_ret
          exact ⟨rfl, HD.out⟩
end Go.Proofs.Ytoiidngnlhhanaa
