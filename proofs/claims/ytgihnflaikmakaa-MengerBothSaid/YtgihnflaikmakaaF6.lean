import Derived.Test.YtgihnflaikmakaaF5
set_option linter.all false
set_option maxRecDepth 100000
namespace Go.Proofs.Ytgihnflaikmakaa
open Go.RowKit
def L3_MengerThree (F : Nat) (v0 : Int) (v1 : List (Int × Int)) (v2 : Int) (v3 : Int) (v4 : Int) : Option (Bool) := (L3_mengerFact F ).bind fun y1 => (if y1 = true then (menger_Ways F (v0) (v1) (v2) (v3)).bind fun y2 => (menger_Ways F (v0) (v1) (v3) (v4)).bind fun y3 => (menger_Ways F (v0) (v1) (v2) (v4)).bind fun y4 => (((if (y2.2 != 0) = true then some true else if (y3.2 != 0) = true then some true else some false).bind fun b6 => if b6 = true then some true else if (y4.2 != 0) = true then some true else some false).bind fun b5 => if b5 = true then (if (y2.2 == 0) = true then some true else if (y2.1 == 0) = true then some true else some false).bind fun b7 => some (b7) else (if y3.1 < y2.1 then (if y3.1 ≤ y4.1 then some true else some false).bind fun b8 => some (b8) else (if y2.1 ≤ y4.1 then some true else some false).bind fun b9 => some (b9))) else some (false))
set_option maxRecDepth 100000 in
set_option maxHeartbeats 1000000 in
theorem L3_MengerThree_ok {F : Nat} {v0 : Int} {v1 : List (Int × Int)} {A1 : Option Addr} {v2 : Int} {v3 : Int} {v4 : Int} {r : Bool} (w : World) (cap1 : Nat) (hr1 : ReadsL w w.heap.size A1 v1) (h : L3_MengerThree F v0 v1 v2 v3 v4 = some r) :
    Calls Try.prog 5 #[.int .i64 v0, .slice A1 v1.length cap1, .int .i64 v2, .int .i64 v3, .int .i64 v4] w fun e w' => e = .returned (.bool r) ∧ Below w.heap.size w w' := by
  have HR1 := Lib.hid hr1; clear hr1
  have HD := Lib.hid (Below.refl w.heap.size w)
  have HOA := Lib.hid (HP.nil (W := w) (B := w.heap.size))
  unfold L3_MengerThree at h
  have HM := Lib.hid h; clear h
  go_enter Try.func5, Try.ntmps5
  obtain ⟨y3, hy1, hm⟩ := obind HM.out
  replace HM := Lib.hid hm; clear hm
  have HC2 := L3_mengerFact_ok w  hy1
  clear hy1
  replace HC2 := Lib.hid HC2
  go_wp2_with fail
  refine HC2.out.mono ?_; rintro e W4 ⟨rfl, hd⟩
  replace HOA := Lib.hid (HOA.out.below hd)
  replace HD := Lib.hid (HD.out.trans (hd.mono HD.out.size))
  clear hd
  cases y3
  · replace HM := Lib.hid (ifF Bool.false_ne_true HM.out)
    obtain rfl := Option.some.inj HM.out
    go_wp2_with fail
    go_ret
    exact ⟨rfl, HD.out⟩
  · replace HM := Lib.hid (ifT rfl HM.out)
    obtain ⟨⟨y7, y8⟩, hy5, hm⟩ := obind HM.out
    dsimp only at hm
    replace HM := Lib.hid hm; clear hm
    have HC6 := menger_Ways_ok W4 cap1 (rdL HD.out HR1.out) hy5
    clear hy5
    by_cases hz9 : y8 = 0
    · subst hz9
      rw [errV_zero] at HC6; replace HC6 := Lib.hid HC6
      go_wp2_with fail
      refine HC6.out.mono ?_; rintro e W10 ⟨rfl, hd⟩
      replace HOA := Lib.hid (HOA.out.below hd)
      replace HD := Lib.hid (HD.out.trans (hd.mono HD.out.size))
      clear hd
      obtain ⟨⟨y15, y16⟩, hy13, hm⟩ := obind HM.out
      dsimp only at hm
      replace HM := Lib.hid hm; clear hm
      have HC14 := menger_Ways_ok W10 cap1 (rdL HD.out HR1.out) hy13
      clear hy13
      by_cases hz17 : y16 = 0
      · subst hz17
        rw [errV_zero] at HC14; replace HC14 := Lib.hid HC14
        go_wp2_with fail
        refine HC14.out.mono ?_; rintro e W18 ⟨rfl, hd⟩
        replace HOA := Lib.hid (HOA.out.below hd)
        replace HD := Lib.hid (HD.out.trans (hd.mono HD.out.size))
        clear hd
        obtain ⟨⟨y23, y24⟩, hy21, hm⟩ := obind HM.out
        dsimp only at hm
        replace HM := Lib.hid hm; clear hm
        have HC22 := menger_Ways_ok W18 cap1 (rdL HD.out HR1.out) hy21
        clear hy21
        by_cases hz25 : y24 = 0
        · subst hz25
          rw [errV_zero] at HC22; replace HC22 := Lib.hid HC22
          go_wp2_with fail
          refine HC22.out.mono ?_; rintro e W26 ⟨rfl, hd⟩
          replace HOA := Lib.hid (HOA.out.below hd)
          replace HD := Lib.hid (HD.out.trans (hd.mono HD.out.size))
          clear hd
          obtain ⟨b29, hb, hm⟩ := obind HM.out
          replace HM := Lib.hid hm; have HB30 := Lib.hid hb; clear hm hb
          obtain ⟨b31, hb, hm⟩ := obind HB30.out
          replace HB30 := Lib.hid hm; have HB32 := Lib.hid hb; clear hm hb
          replace HB32 := Lib.hid (ifF (by decide) HB32.out)
          replace HB32 := Lib.hid (ifF (by decide) HB32.out)
          obtain rfl := Option.some.inj HB32.out
          replace HB30 := Lib.hid (ifF Bool.false_ne_true HB30.out)
          replace HB30 := Lib.hid (ifF (by decide) HB30.out)
          obtain rfl := Option.some.inj HB30.out
          replace HM := Lib.hid (ifF Bool.false_ne_true HM.out)
          by_cases hc33 : y15 < y7
          · replace HM := Lib.hid (ifT hc33 HM.out)
            obtain ⟨b34, hb, hm⟩ := obind HM.out
            replace HM := Lib.hid hm; have HB35 := Lib.hid hb; clear hm hb
            by_cases hc36 : y15 ≤ y23
            · replace HB35 := Lib.hid (ifT hc36 HB35.out)
              obtain rfl := Option.some.inj HB35.out
              obtain rfl := Option.some.inj HM.out
              go_wp2_with fail
              go_ret
              exact ⟨(by first | rfl | (refine congrArg (fun b => Ending.returned (Value.bool b)) ?_; first | (exact decide_eq_true (by omega)) | (exact decide_eq_false (by omega)))), HD.out⟩
            · replace HB35 := Lib.hid (ifF hc36 HB35.out)
              have hc36d := decide_eq_false hc36
              obtain rfl := Option.some.inj HB35.out
              obtain rfl := Option.some.inj HM.out
              go_wp2_with fail
              go_ret
              exact ⟨(by first | rfl | (refine congrArg (fun b => Ending.returned (Value.bool b)) ?_; first | (exact decide_eq_true (by omega)) | (exact decide_eq_false (by omega)))), HD.out⟩
          · replace HM := Lib.hid (ifF hc33 HM.out)
            have hc33d := decide_eq_false hc33
            obtain ⟨b37, hb, hm⟩ := obind HM.out
            replace HM := Lib.hid hm; have HB38 := Lib.hid hb; clear hm hb
            by_cases hc39 : y7 ≤ y23
            · replace HB38 := Lib.hid (ifT hc39 HB38.out)
              obtain rfl := Option.some.inj HB38.out
              obtain rfl := Option.some.inj HM.out
              go_wp2_with fail
              go_ret
              exact ⟨(by first | rfl | (refine congrArg (fun b => Ending.returned (Value.bool b)) ?_; first | (exact decide_eq_true (by omega)) | (exact decide_eq_false (by omega)))), HD.out⟩
            · replace HB38 := Lib.hid (ifF hc39 HB38.out)
              have hc39d := decide_eq_false hc39
              obtain rfl := Option.some.inj HB38.out
              obtain rfl := Option.some.inj HM.out
              go_wp2_with fail
              go_ret
              exact ⟨(by first | rfl | (refine congrArg (fun b => Ending.returned (Value.bool b)) ?_; first | (exact decide_eq_true (by omega)) | (exact decide_eq_false (by omega)))), HD.out⟩
        · rw [errV_pos _ hz25] at HC22; replace HC22 := Lib.hid HC22
          go_wp2_with fail
          refine HC22.out.mono ?_; rintro e W27 ⟨rfl, hd⟩
          replace HOA := Lib.hid (HOA.out.below hd)
          replace HD := Lib.hid (HD.out.trans (hd.mono HD.out.size))
          clear hd
          have HZ28 := Lib.hid hz25; clear hz25
          obtain ⟨b40, hb, hm⟩ := obind HM.out
          replace HM := Lib.hid hm; have HB41 := Lib.hid hb; clear hm hb
          obtain ⟨b42, hb, hm⟩ := obind HB41.out
          replace HB41 := Lib.hid hm; have HB43 := Lib.hid hb; clear hm hb
          replace HB43 := Lib.hid (ifF (by decide) HB43.out)
          replace HB43 := Lib.hid (ifF (by decide) HB43.out)
          obtain rfl := Option.some.inj HB43.out
          replace HB41 := Lib.hid (ifF Bool.false_ne_true HB41.out)
          replace HB41 := Lib.hid (ifT (bne_iff_ne.2 HZ28.out) HB41.out)
          obtain rfl := Option.some.inj HB41.out
          replace HM := Lib.hid (ifT rfl HM.out)
          obtain ⟨b44, hb, hm⟩ := obind HM.out
          replace HM := Lib.hid hm; have HB45 := Lib.hid hb; clear hm hb
          replace HB45 := Lib.hid (ifT (by decide) HB45.out)
          obtain rfl := Option.some.inj HB45.out
          obtain rfl := Option.some.inj HM.out
          go_wp2_with fail
          go_ret
          exact ⟨rfl, HD.out⟩
      · rw [errV_pos _ hz17] at HC14; replace HC14 := Lib.hid HC14
        go_wp2_with fail
        refine HC14.out.mono ?_; rintro e W19 ⟨rfl, hd⟩
        replace HOA := Lib.hid (HOA.out.below hd)
        replace HD := Lib.hid (HD.out.trans (hd.mono HD.out.size))
        clear hd
        have HZ20 := Lib.hid hz17; clear hz17
        obtain ⟨⟨y48, y49⟩, hy46, hm⟩ := obind HM.out
        dsimp only at hm
        replace HM := Lib.hid hm; clear hm
        have HC47 := menger_Ways_ok W19 cap1 (rdL HD.out HR1.out) hy46
        clear hy46
        by_cases hz50 : y49 = 0
        · subst hz50
          rw [errV_zero] at HC47; replace HC47 := Lib.hid HC47
          go_wp2_with fail
          refine HC47.out.mono ?_; rintro e W51 ⟨rfl, hd⟩
          replace HOA := Lib.hid (HOA.out.below hd)
          replace HD := Lib.hid (HD.out.trans (hd.mono HD.out.size))
          clear hd
          obtain ⟨b54, hb, hm⟩ := obind HM.out
          replace HM := Lib.hid hm; have HB55 := Lib.hid hb; clear hm hb
          obtain ⟨b56, hb, hm⟩ := obind HB55.out
          replace HB55 := Lib.hid hm; have HB57 := Lib.hid hb; clear hm hb
          replace HB57 := Lib.hid (ifF (by decide) HB57.out)
          replace HB57 := Lib.hid (ifT (bne_iff_ne.2 HZ20.out) HB57.out)
          obtain rfl := Option.some.inj HB57.out
          replace HB55 := Lib.hid (ifT rfl HB55.out)
          obtain rfl := Option.some.inj HB55.out
          replace HM := Lib.hid (ifT rfl HM.out)
          obtain ⟨b58, hb, hm⟩ := obind HM.out
          replace HM := Lib.hid hm; have HB59 := Lib.hid hb; clear hm hb
          replace HB59 := Lib.hid (ifT (by decide) HB59.out)
          obtain rfl := Option.some.inj HB59.out
          obtain rfl := Option.some.inj HM.out
          go_wp2_with fail
          go_ret
          exact ⟨rfl, HD.out⟩
        · rw [errV_pos _ hz50] at HC47; replace HC47 := Lib.hid HC47
          go_wp2_with fail
          refine HC47.out.mono ?_; rintro e W52 ⟨rfl, hd⟩
          replace HOA := Lib.hid (HOA.out.below hd)
          replace HD := Lib.hid (HD.out.trans (hd.mono HD.out.size))
          clear hd
          have HZ53 := Lib.hid hz50; clear hz50
          obtain ⟨b60, hb, hm⟩ := obind HM.out
          replace HM := Lib.hid hm; have HB61 := Lib.hid hb; clear hm hb
          obtain ⟨b62, hb, hm⟩ := obind HB61.out
          replace HB61 := Lib.hid hm; have HB63 := Lib.hid hb; clear hm hb
          replace HB63 := Lib.hid (ifF (by decide) HB63.out)
          replace HB63 := Lib.hid (ifT (bne_iff_ne.2 HZ20.out) HB63.out)
          obtain rfl := Option.some.inj HB63.out
          replace HB61 := Lib.hid (ifT rfl HB61.out)
          obtain rfl := Option.some.inj HB61.out
          replace HM := Lib.hid (ifT rfl HM.out)
          obtain ⟨b64, hb, hm⟩ := obind HM.out
          replace HM := Lib.hid hm; have HB65 := Lib.hid hb; clear hm hb
          replace HB65 := Lib.hid (ifT (by decide) HB65.out)
          obtain rfl := Option.some.inj HB65.out
          obtain rfl := Option.some.inj HM.out
          go_wp2_with fail
          go_ret
          exact ⟨rfl, HD.out⟩
    · rw [errV_pos _ hz9] at HC6; replace HC6 := Lib.hid HC6
      go_wp2_with fail
      refine HC6.out.mono ?_; rintro e W11 ⟨rfl, hd⟩
      replace HOA := Lib.hid (HOA.out.below hd)
      replace HD := Lib.hid (HD.out.trans (hd.mono HD.out.size))
      clear hd
      have HZ12 := Lib.hid hz9; clear hz9
      obtain ⟨⟨y68, y69⟩, hy66, hm⟩ := obind HM.out
      dsimp only at hm
      replace HM := Lib.hid hm; clear hm
      have HC67 := menger_Ways_ok W11 cap1 (rdL HD.out HR1.out) hy66
      clear hy66
      by_cases hz70 : y69 = 0
      · subst hz70
        rw [errV_zero] at HC67; replace HC67 := Lib.hid HC67
        go_wp2_with fail
        refine HC67.out.mono ?_; rintro e W71 ⟨rfl, hd⟩
        replace HOA := Lib.hid (HOA.out.below hd)
        replace HD := Lib.hid (HD.out.trans (hd.mono HD.out.size))
        clear hd
        obtain ⟨⟨y76, y77⟩, hy74, hm⟩ := obind HM.out
        dsimp only at hm
        replace HM := Lib.hid hm; clear hm
        have HC75 := menger_Ways_ok W71 cap1 (rdL HD.out HR1.out) hy74
        clear hy74
        by_cases hz78 : y77 = 0
        · subst hz78
          rw [errV_zero] at HC75; replace HC75 := Lib.hid HC75
          go_wp2_with fail
          refine HC75.out.mono ?_; rintro e W79 ⟨rfl, hd⟩
          replace HOA := Lib.hid (HOA.out.below hd)
          replace HD := Lib.hid (HD.out.trans (hd.mono HD.out.size))
          clear hd
          obtain ⟨b82, hb, hm⟩ := obind HM.out
          replace HM := Lib.hid hm; have HB83 := Lib.hid hb; clear hm hb
          obtain ⟨b84, hb, hm⟩ := obind HB83.out
          replace HB83 := Lib.hid hm; have HB85 := Lib.hid hb; clear hm hb
          replace HB85 := Lib.hid (ifT (bne_iff_ne.2 HZ12.out) HB85.out)
          obtain rfl := Option.some.inj HB85.out
          replace HB83 := Lib.hid (ifT rfl HB83.out)
          obtain rfl := Option.some.inj HB83.out
          replace HM := Lib.hid (ifT rfl HM.out)
          obtain ⟨b86, hb, hm⟩ := obind HM.out
          replace HM := Lib.hid hm; have HB87 := Lib.hid hb; clear hm hb
          replace HB87 := Lib.hid (ifF (fun h => HZ12.out (eq_of_beq h)) HB87.out)
          rcases Bool.eq_false_or_eq_true (y7 == 0) with hc88 | hc88
          · replace HB87 := Lib.hid (ifT hc88 HB87.out)
            obtain rfl := Option.some.inj HB87.out
            obtain rfl := Option.some.inj HM.out
            go_wp2_with fail
            go_ret
            exact ⟨(by first | rfl | (refine congrArg (fun b => Ending.returned (Value.bool b)) ?_; first | (exact decide_eq_true (by omega)) | (exact decide_eq_false (by omega)))), HD.out⟩
          · replace HB87 := Lib.hid (ifF (bF hc88) HB87.out)
            obtain rfl := Option.some.inj HB87.out
            obtain rfl := Option.some.inj HM.out
            go_wp2_with fail
            go_ret
            exact ⟨(by first | rfl | (refine congrArg (fun b => Ending.returned (Value.bool b)) ?_; first | (exact decide_eq_true (by omega)) | (exact decide_eq_false (by omega)))), HD.out⟩
        · rw [errV_pos _ hz78] at HC75; replace HC75 := Lib.hid HC75
          go_wp2_with fail
          refine HC75.out.mono ?_; rintro e W80 ⟨rfl, hd⟩
          replace HOA := Lib.hid (HOA.out.below hd)
          replace HD := Lib.hid (HD.out.trans (hd.mono HD.out.size))
          clear hd
          have HZ81 := Lib.hid hz78; clear hz78
          obtain ⟨b89, hb, hm⟩ := obind HM.out
          replace HM := Lib.hid hm; have HB90 := Lib.hid hb; clear hm hb
          obtain ⟨b91, hb, hm⟩ := obind HB90.out
          replace HB90 := Lib.hid hm; have HB92 := Lib.hid hb; clear hm hb
          replace HB92 := Lib.hid (ifT (bne_iff_ne.2 HZ12.out) HB92.out)
          obtain rfl := Option.some.inj HB92.out
          replace HB90 := Lib.hid (ifT rfl HB90.out)
          obtain rfl := Option.some.inj HB90.out
          replace HM := Lib.hid (ifT rfl HM.out)
          obtain ⟨b93, hb, hm⟩ := obind HM.out
          replace HM := Lib.hid hm; have HB94 := Lib.hid hb; clear hm hb
          replace HB94 := Lib.hid (ifF (fun h => HZ12.out (eq_of_beq h)) HB94.out)
          rcases Bool.eq_false_or_eq_true (y7 == 0) with hc95 | hc95
          · replace HB94 := Lib.hid (ifT hc95 HB94.out)
            obtain rfl := Option.some.inj HB94.out
            obtain rfl := Option.some.inj HM.out
            go_wp2_with fail
            go_ret
            exact ⟨(by first | rfl | (refine congrArg (fun b => Ending.returned (Value.bool b)) ?_; first | (exact decide_eq_true (by omega)) | (exact decide_eq_false (by omega)))), HD.out⟩
          · replace HB94 := Lib.hid (ifF (bF hc95) HB94.out)
            obtain rfl := Option.some.inj HB94.out
            obtain rfl := Option.some.inj HM.out
            go_wp2_with fail
            go_ret
            exact ⟨(by first | rfl | (refine congrArg (fun b => Ending.returned (Value.bool b)) ?_; first | (exact decide_eq_true (by omega)) | (exact decide_eq_false (by omega)))), HD.out⟩
      · rw [errV_pos _ hz70] at HC67; replace HC67 := Lib.hid HC67
        go_wp2_with fail
        refine HC67.out.mono ?_; rintro e W72 ⟨rfl, hd⟩
        replace HOA := Lib.hid (HOA.out.below hd)
        replace HD := Lib.hid (HD.out.trans (hd.mono HD.out.size))
        clear hd
        have HZ73 := Lib.hid hz70; clear hz70
        obtain ⟨⟨y98, y99⟩, hy96, hm⟩ := obind HM.out
        dsimp only at hm
        replace HM := Lib.hid hm; clear hm
        have HC97 := menger_Ways_ok W72 cap1 (rdL HD.out HR1.out) hy96
        clear hy96
        by_cases hz100 : y99 = 0
        · subst hz100
          rw [errV_zero] at HC97; replace HC97 := Lib.hid HC97
          go_wp2_with fail
          refine HC97.out.mono ?_; rintro e W101 ⟨rfl, hd⟩
          replace HOA := Lib.hid (HOA.out.below hd)
          replace HD := Lib.hid (HD.out.trans (hd.mono HD.out.size))
          clear hd
          obtain ⟨b104, hb, hm⟩ := obind HM.out
          replace HM := Lib.hid hm; have HB105 := Lib.hid hb; clear hm hb
          obtain ⟨b106, hb, hm⟩ := obind HB105.out
          replace HB105 := Lib.hid hm; have HB107 := Lib.hid hb; clear hm hb
          replace HB107 := Lib.hid (ifT (bne_iff_ne.2 HZ12.out) HB107.out)
          obtain rfl := Option.some.inj HB107.out
          replace HB105 := Lib.hid (ifT rfl HB105.out)
          obtain rfl := Option.some.inj HB105.out
          replace HM := Lib.hid (ifT rfl HM.out)
          obtain ⟨b108, hb, hm⟩ := obind HM.out
          replace HM := Lib.hid hm; have HB109 := Lib.hid hb; clear hm hb
          replace HB109 := Lib.hid (ifF (fun h => HZ12.out (eq_of_beq h)) HB109.out)
          rcases Bool.eq_false_or_eq_true (y7 == 0) with hc110 | hc110
          · replace HB109 := Lib.hid (ifT hc110 HB109.out)
            obtain rfl := Option.some.inj HB109.out
            obtain rfl := Option.some.inj HM.out
            go_wp2_with fail
            go_ret
            exact ⟨(by first | rfl | (refine congrArg (fun b => Ending.returned (Value.bool b)) ?_; first | (exact decide_eq_true (by omega)) | (exact decide_eq_false (by omega)))), HD.out⟩
          · replace HB109 := Lib.hid (ifF (bF hc110) HB109.out)
            obtain rfl := Option.some.inj HB109.out
            obtain rfl := Option.some.inj HM.out
            go_wp2_with fail
            go_ret
            exact ⟨(by first | rfl | (refine congrArg (fun b => Ending.returned (Value.bool b)) ?_; first | (exact decide_eq_true (by omega)) | (exact decide_eq_false (by omega)))), HD.out⟩
        · rw [errV_pos _ hz100] at HC97; replace HC97 := Lib.hid HC97
          go_wp2_with fail
          refine HC97.out.mono ?_; rintro e W102 ⟨rfl, hd⟩
          replace HOA := Lib.hid (HOA.out.below hd)
          replace HD := Lib.hid (HD.out.trans (hd.mono HD.out.size))
          clear hd
          have HZ103 := Lib.hid hz100; clear hz100
          obtain ⟨b111, hb, hm⟩ := obind HM.out
          replace HM := Lib.hid hm; have HB112 := Lib.hid hb; clear hm hb
          obtain ⟨b113, hb, hm⟩ := obind HB112.out
          replace HB112 := Lib.hid hm; have HB114 := Lib.hid hb; clear hm hb
          replace HB114 := Lib.hid (ifT (bne_iff_ne.2 HZ12.out) HB114.out)
          obtain rfl := Option.some.inj HB114.out
          replace HB112 := Lib.hid (ifT rfl HB112.out)
          obtain rfl := Option.some.inj HB112.out
          replace HM := Lib.hid (ifT rfl HM.out)
          obtain ⟨b115, hb, hm⟩ := obind HM.out
          replace HM := Lib.hid hm; have HB116 := Lib.hid hb; clear hm hb
          replace HB116 := Lib.hid (ifF (fun h => HZ12.out (eq_of_beq h)) HB116.out)
          rcases Bool.eq_false_or_eq_true (y7 == 0) with hc117 | hc117
          · replace HB116 := Lib.hid (ifT hc117 HB116.out)
            obtain rfl := Option.some.inj HB116.out
            obtain rfl := Option.some.inj HM.out
            go_wp2_with fail
            go_ret
            exact ⟨(by first | rfl | (refine congrArg (fun b => Ending.returned (Value.bool b)) ?_; first | (exact decide_eq_true (by omega)) | (exact decide_eq_false (by omega)))), HD.out⟩
          · replace HB116 := Lib.hid (ifF (bF hc117) HB116.out)
            obtain rfl := Option.some.inj HB116.out
            obtain rfl := Option.some.inj HM.out
            go_wp2_with fail
            go_ret
            exact ⟨(by first | rfl | (refine congrArg (fun b => Ending.returned (Value.bool b)) ?_; first | (exact decide_eq_true (by omega)) | (exact decide_eq_false (by omega)))), HD.out⟩
def L3_MengerCut_L1 (F : Nat) (v1 : List (Int × Int)) (v9 : List Int) : Nat → (Int) → (Int) → Option (Int × Int)
  | 0, _, _ => none
  | g+1, v10, v11 => if v11 < ((v1).length : Int) then ((ix v1 v11).bind fun y11 => (R1_Has F (v9) (y11.1)).bind fun y12 => (ix v1 v11).bind fun y13 => (R1_Has F (v9) (y13.2)).bind fun y14 => if (y12 != y14) = true then L3_MengerCut_L1 F v1 v9 g ((wrap64 (v10 + 1))) ((wrap64 (v11 + 1))) else L3_MengerCut_L1 F v1 v9 g (v10) ((wrap64 (v11 + 1)))) else some (v10, v11)
theorem L3_MengerCut_L1_0 (F : Nat) (v1 : List (Int × Int)) (v9 : List Int) (v10 : Int) (v11 : Int) : L3_MengerCut_L1 F v1 v9 0 v10 v11 = none := by rw [L3_MengerCut_L1]
theorem L3_MengerCut_L1_s (F g : Nat) (v1 : List (Int × Int)) (v9 : List Int) (v10 : Int) (v11 : Int) : L3_MengerCut_L1 F v1 v9 (g+1) v10 v11 = (if v11 < ((v1).length : Int) then ((ix v1 v11).bind fun y11 => (R1_Has F (v9) (y11.1)).bind fun y12 => (ix v1 v11).bind fun y13 => (R1_Has F (v9) (y13.2)).bind fun y14 => if (y12 != y14) = true then L3_MengerCut_L1 F v1 v9 g ((wrap64 (v10 + 1))) ((wrap64 (v11 + 1))) else L3_MengerCut_L1 F v1 v9 g (v10) ((wrap64 (v11 + 1)))) else some (v10, v11)) := by rw [L3_MengerCut_L1]
def L3_MengerCut (F : Nat) (v0 : Int) (v1 : List (Int × Int)) (v2 : Int) (v3 : Int) (v4 : Int) : Option (Bool) := (L3_mengerFact F ).bind fun y1 => (if y1 = true then (menger_Ways F (v0) (v1) (v2) (v3)).bind fun y2 => (if (y2.2 != 0) = true then (if (y2.1 == 0) = true then some true else some false).bind fun b3 => some (b3) else (menger_Side F (v0) (v1) (v2) (v3)).bind fun y4 => ((((if (y4.2 != 0) = true then some true else (R1_All F (y4.1) (0) ((wrap64 (v0 - 1)))).bind fun y8 => if y8 = true then some false else some true).bind fun b7 => if b7 = true then some true else (R1_Has F (y4.1) (v2)).bind fun y9 => if y9 = true then some false else some true).bind fun b6 => if b6 = true then some true else (R1_Has F (y4.1) (v3)).bind fun y10 => if y10 = true then some true else some false).bind fun b5 => if b5 = true then some (false) else (L3_MengerCut_L1 F (v1) (y4.1) F (0) (0)).bind fun o15 => (if (o15.1 != y2.1) = true then some (false) else ((((L3_in F (v4) (0) (255)).bind fun y18 => if y18 = true then (R3_Member F (v4) (v2)).bind fun y19 => if y19 = true then some false else some true else some true).bind fun b17 => if b17 = true then some true else (R3_Member F (v4) (v3)).bind fun y20 => if y20 = true then some true else some false).bind fun b16 => if b16 = true then some (true) else ((R3_Away F (v1) (v4)).bind fun y22 => if y2.1 ≤ y22 then (R3_Away F (v1) (v4)).bind fun y23 => if y2.1 < y23 then some true else (R3_Members F (v4)).bind fun y24 => if ((y4.1).length : Int) ≤ (y24.length : Int) then some true else some false else some false).bind fun b21 => some (b21))))) else some (false))
set_option maxRecDepth 100000 in
set_option maxHeartbeats 1000000 in
theorem L3_MengerCut_ok {F : Nat} {v0 : Int} {v1 : List (Int × Int)} {A1 : Option Addr} {v2 : Int} {v3 : Int} {v4 : Int} {r : Bool} (w : World) (cap1 : Nat) (hr1 : ReadsL w w.heap.size A1 v1) (h : L3_MengerCut F v0 v1 v2 v3 v4 = some r) :
    Calls Try.prog 3 #[.int .i64 v0, .slice A1 v1.length cap1, .int .i64 v2, .int .i64 v3, .int .i64 v4] w fun e w' => e = .returned (.bool r) ∧ Below w.heap.size w w' := by
  have HR1 := Lib.hid hr1; clear hr1
  have HD := Lib.hid (Below.refl w.heap.size w)
  have HOA := Lib.hid (HP.nil (W := w) (B := w.heap.size))
  unfold L3_MengerCut at h
  have HM := Lib.hid h; clear h
  go_enter Try.func3, Try.ntmps3
  obtain ⟨y3, hy1, hm⟩ := obind HM.out
  replace HM := Lib.hid hm; clear hm
  have HC2 := L3_mengerFact_ok w  hy1
  clear hy1
  replace HC2 := Lib.hid HC2
  go_wp2_with fail
  refine HC2.out.mono ?_; rintro e W4 ⟨rfl, hd⟩
  replace HOA := Lib.hid (HOA.out.below hd)
  replace HD := Lib.hid (HD.out.trans (hd.mono HD.out.size))
  clear hd
  cases y3
  · replace HM := Lib.hid (ifF Bool.false_ne_true HM.out)
    obtain rfl := Option.some.inj HM.out
    go_wp2_with fail
    go_ret
    exact ⟨rfl, HD.out⟩
  · replace HM := Lib.hid (ifT rfl HM.out)
    obtain ⟨⟨y7, y8⟩, hy5, hm⟩ := obind HM.out
    dsimp only at hm
    replace HM := Lib.hid hm; clear hm
    have HC6 := menger_Ways_ok W4 cap1 (rdL HD.out HR1.out) hy5
    clear hy5
    by_cases hz9 : y8 = 0
    · subst hz9
      rw [errV_zero] at HC6; replace HC6 := Lib.hid HC6
      go_wp2_with fail
      refine HC6.out.mono ?_; rintro e W10 ⟨rfl, hd⟩
      replace HOA := Lib.hid (HOA.out.below hd)
      replace HD := Lib.hid (HD.out.trans (hd.mono HD.out.size))
      clear hd
      replace HM := Lib.hid (ifF (by decide) HM.out)
      obtain ⟨⟨y15, y16⟩, hy13, hm⟩ := obind HM.out
      dsimp only at hm
      replace HM := Lib.hid hm; clear hm
      have HC14 := menger_Side_ok W10 cap1 (rdL HD.out HR1.out) hy13
      clear hy13
      by_cases hz17 : y16 = 0
      · subst hz17
        rw [errV_zero] at HC14; replace HC14 := Lib.hid HC14
        go_wp2_with fail
        refine HC14.out.mono ?_; rintro e W18 ⟨V19, rfl, ho, hd⟩
        replace HOA := Lib.hid (HOA.out.call hd HD.out.size ho); clear ho
        replace HD := Lib.hid (HD.out.trans (hd.mono HD.out.size))
        clear hd
        obtain ⟨b25, hb, hm⟩ := obind HM.out
        replace HM := Lib.hid hm; have HB26 := Lib.hid hb; clear hm hb
        obtain ⟨b27, hb, hm⟩ := obind HB26.out
        replace HB26 := Lib.hid hm; have HB28 := Lib.hid hb; clear hm hb
        obtain ⟨b29, hb, hm⟩ := obind HB28.out
        replace HB28 := Lib.hid hm; have HB30 := Lib.hid hb; clear hm hb
        replace HB30 := Lib.hid (ifF (by decide) HB30.out)
        obtain ⟨y33, hy31, hm⟩ := obind HB30.out
        replace HB30 := Lib.hid hm; clear hm
        obtain ⟨A34, cap35, he, _⟩ := HP.open_I HOA.out (List.Mem.head _)
        subst he
        have HC32 := R1_All_ok W18 cap35 (HP.rd_I HOA.out (List.Mem.head _)) hy31
        clear hy31
        replace HC32 := Lib.hid HC32
        cases y33
        · replace HB30 := Lib.hid (ifF Bool.false_ne_true HB30.out)
          obtain rfl := Option.some.inj HB30.out
          replace HB28 := Lib.hid (ifT rfl HB28.out)
          obtain rfl := Option.some.inj HB28.out
          replace HB26 := Lib.hid (ifT rfl HB26.out)
          obtain rfl := Option.some.inj HB26.out
          replace HM := Lib.hid (ifT rfl HM.out)
          obtain rfl := Option.some.inj HM.out
          go_wp2_with fail
          refine HC32.out.mono ?_; rintro e w' ⟨rfl, rfl⟩
          go_wp2_with fail
          go_ret
          exact ⟨rfl, HD.out⟩
        · replace HB30 := Lib.hid (ifT rfl HB30.out)
          obtain rfl := Option.some.inj HB30.out
          replace HB28 := Lib.hid (ifF Bool.false_ne_true HB28.out)
          obtain ⟨y38, hy36, hm⟩ := obind HB28.out
          replace HB28 := Lib.hid hm; clear hm
          have HC37 := R1_Has_ok W18 cap35 (HP.rd_I HOA.out (List.Mem.head _)) hy36
          clear hy36
          replace HC37 := Lib.hid HC37
          cases y38
          · replace HB28 := Lib.hid (ifF Bool.false_ne_true HB28.out)
            obtain rfl := Option.some.inj HB28.out
            replace HB26 := Lib.hid (ifT rfl HB26.out)
            obtain rfl := Option.some.inj HB26.out
            replace HM := Lib.hid (ifT rfl HM.out)
            obtain rfl := Option.some.inj HM.out
            go_wp2_with fail
            refine HC32.out.mono ?_; rintro e w' ⟨rfl, rfl⟩
            go_wp2_with fail
            refine HC37.out.mono ?_; rintro e w' ⟨rfl, rfl⟩
            go_wp2_with fail
            go_ret
            exact ⟨rfl, HD.out⟩
          · replace HB28 := Lib.hid (ifT rfl HB28.out)
            obtain rfl := Option.some.inj HB28.out
            replace HB26 := Lib.hid (ifF Bool.false_ne_true HB26.out)
            obtain ⟨y41, hy39, hm⟩ := obind HB26.out
            replace HB26 := Lib.hid hm; clear hm
            have HC40 := R1_Has_ok W18 cap35 (HP.rd_I HOA.out (List.Mem.head _)) hy39
            clear hy39
            replace HC40 := Lib.hid HC40
            cases y41
            · replace HB26 := Lib.hid (ifF Bool.false_ne_true HB26.out)
              obtain rfl := Option.some.inj HB26.out
              replace HM := Lib.hid (ifF Bool.false_ne_true HM.out)
              go_wp2_with fail
              refine HC32.out.mono ?_; rintro e w' ⟨rfl, rfl⟩
              go_wp2_with fail
              refine HC37.out.mono ?_; rintro e w' ⟨rfl, rfl⟩
              go_wp2_with fail
              refine HC40.out.mono ?_; rintro e w' ⟨rfl, rfl⟩
              go_wp2_with fail
              obtain ⟨o42, ho, hm⟩ := obind HM.out
              replace HM := Lib.hid hm; have HL1 := Lib.hid ho; clear hm ho
              go_loopg [15, 16] F (fun gg u45 u46 wr => ∃ (x43 : Int) (x44 : Int), u45 = .int .i64 x43 ∧ u46 = .int .i64 x44 ∧ Hid (Below W18.heap.size W18 wr) ∧ Hid (L3_MengerCut_L1 F (v1) (y15) gg x43 x44 = some o42))
              case atStart => exact ⟨0, 0, rfl, rfl, (Lib.hid (Below.refl _ _)), HL1⟩
              case round =>
                obtain ⟨x43, x44, rfl, rfl, HW1, HL1⟩ := hrel
                rename World => W47
                have hd := HW1.out
                replace HOA := Lib.hid (HOA.out.below hd)
                replace HD := Lib.hid (HD.out.trans (hd.mono HD.out.size))
                clear hd
                cases gk with
                | zero => exact absurd ((L3_MengerCut_L1_0 ..).symm.trans HL1.out) (by intro h; cases h)
                | succ g1 =>
                  replace HL1 := Lib.hid ((L3_MengerCut_L1_s ..).symm.trans HL1.out)
                  by_cases hc48 : x44 < ((v1).length : Int)
                  · replace HL1 := Lib.hid (ifT hc48 HL1.out)
                    try go_wp2_with fail
                    try clear hc48
                    obtain ⟨y49, hy50, hm⟩ := obind HL1.out
                    replace HL1 := Lib.hid hm; clear hm
                    obtain ⟨b51, o52, ea53, _, f54, f55, f56, f57⟩ := ReadsL.ix (rdL HD.out HR1.out) hy50
                    cases ea53
                    try simp only [Nat.zero_add, Nat.add_zero, Int.toNat_natCast, Int.toNat_zero, Int.toNat_one] at f56 f57
                    have HY58 := Lib.hid hy50; clear hy50
                    obtain ⟨y61, hy59, hm⟩ := obind HL1.out
                    replace HL1 := Lib.hid hm; clear hm
                    have HC60 := Lib.hid (fun m => R1_Has_ok (W47.drewN m) cap35 (ReadsI.drewN' (HP.rd_I HOA.out (List.Mem.head _)) m) hy59)
                    clear hy59
                    obtain ⟨y62, hy63, hm⟩ := obind HL1.out
                    replace HL1 := Lib.hid hm; clear hm
                    obtain rfl := Option.some.inj (HY58.out.symm.trans hy63)
                    clear hy63
                    obtain ⟨y66, hy64, hm⟩ := obind HL1.out
                    replace HL1 := Lib.hid hm; clear hm
                    have HC65 := Lib.hid (fun m => R1_Has_ok (W47.drewN m) cap35 (ReadsI.drewN' (HP.rd_I HOA.out (List.Mem.head _)) m) hy64)
                    clear hy64
                    cases y61
                    · cases y66
                      · replace HL1 := Lib.hid (ifF (by decide) HL1.out)
                        go_quiet (first | (go_at_call 10; with_reducible exact quiet_left (HC60.out _)) | (go_at_call 10; with_reducible exact quiet_left (HC65.out _)))
                        generalize hW : World.drewN W47 _ = W67
                        have hd : Dr W47 W67 := ⟨_, hW.symm⟩
                        clear hW
                        try clear f54 f55 f56 f57
                        replace HOA := Lib.hid (HOA.out.below (hd.below _))
                        replace HD := Lib.hid (HD.out.trans ((hd.below _).mono HD.out.size))
                        replace HW1 := Lib.hid (HW1.out.trans ((hd.below _).mono HW1.out.size))
                        clear hd
                        go_wp2_with fail
                        go_roundg g1
                        case measure => omega
                        case rel => exact ⟨x43, (wrap64 (x44 + 1)), rfl, rfl, HW1, HL1⟩
                      · replace HL1 := Lib.hid (ifT (by decide) HL1.out)
                        go_quiet (first | (go_at_call 10; with_reducible exact quiet_left (HC60.out _)) | (go_at_call 10; with_reducible exact quiet_left (HC65.out _)))
                        generalize hW : World.drewN W47 _ = W68
                        have hd : Dr W47 W68 := ⟨_, hW.symm⟩
                        clear hW
                        try clear f54 f55 f56 f57
                        replace HOA := Lib.hid (HOA.out.below (hd.below _))
                        replace HD := Lib.hid (HD.out.trans ((hd.below _).mono HD.out.size))
                        replace HW1 := Lib.hid (HW1.out.trans ((hd.below _).mono HW1.out.size))
                        clear hd
                        go_wp2_with fail
                        go_roundg g1
                        case measure => omega
                        case rel => exact ⟨(wrap64 (x43 + 1)), (wrap64 (x44 + 1)), rfl, rfl, HW1, HL1⟩
                    · cases y66
                      · replace HL1 := Lib.hid (ifT (by decide) HL1.out)
                        go_quiet (first | (go_at_call 10; with_reducible exact quiet_left (HC60.out _)) | (go_at_call 10; with_reducible exact quiet_left (HC65.out _)))
                        generalize hW : World.drewN W47 _ = W69
                        have hd : Dr W47 W69 := ⟨_, hW.symm⟩
                        clear hW
                        try clear f54 f55 f56 f57
                        replace HOA := Lib.hid (HOA.out.below (hd.below _))
                        replace HD := Lib.hid (HD.out.trans ((hd.below _).mono HD.out.size))
                        replace HW1 := Lib.hid (HW1.out.trans ((hd.below _).mono HW1.out.size))
                        clear hd
                        go_wp2_with fail
                        go_roundg g1
                        case measure => omega
                        case rel => exact ⟨(wrap64 (x43 + 1)), (wrap64 (x44 + 1)), rfl, rfl, HW1, HL1⟩
                      · replace HL1 := Lib.hid (ifF (by decide) HL1.out)
                        go_quiet (first | (go_at_call 10; with_reducible exact quiet_left (HC60.out _)) | (go_at_call 10; with_reducible exact quiet_left (HC65.out _)))
                        generalize hW : World.drewN W47 _ = W70
                        have hd : Dr W47 W70 := ⟨_, hW.symm⟩
                        clear hW
                        try clear f54 f55 f56 f57
                        replace HOA := Lib.hid (HOA.out.below (hd.below _))
                        replace HD := Lib.hid (HD.out.trans ((hd.below _).mono HD.out.size))
                        replace HW1 := Lib.hid (HW1.out.trans ((hd.below _).mono HW1.out.size))
                        clear hd
                        go_wp2_with fail
                        go_roundg g1
                        case measure => omega
                        case rel => exact ⟨x43, (wrap64 (x44 + 1)), rfl, rfl, HW1, HL1⟩
                  · replace HL1 := Lib.hid (ifF hc48 HL1.out)
                    have hc48d := decide_eq_false hc48
                    obtain rfl := Option.some.inj HL1.out
                    have hm := HM.out; try dsimp only at hm
                    replace HM := Lib.hid hm; clear hm
                    rcases Bool.eq_false_or_eq_true (x43 != y7) with hc71 | hc71
                    · replace HM := Lib.hid (ifT hc71 HM.out)
                      obtain rfl := Option.some.inj HM.out
                      go_wp2_with fail
                      go_ret
                      exact ⟨(by first | rfl | (refine congrArg (fun b => Ending.returned (Value.bool b)) ?_; first | (exact decide_eq_true (by omega)) | (exact decide_eq_false (by omega)))), HD.out⟩
                    · replace HM := Lib.hid (ifF (bF hc71) HM.out)
                      obtain ⟨b72, hb, hm⟩ := obind HM.out
                      replace HM := Lib.hid hm; have HB73 := Lib.hid hb; clear hm hb
                      obtain ⟨b74, hb, hm⟩ := obind HB73.out
                      replace HB73 := Lib.hid hm; have HB75 := Lib.hid hb; clear hm hb
                      obtain ⟨y78, hy76, hm⟩ := obind HB75.out
                      replace HB75 := Lib.hid hm; clear hm
                      have HC77 := L3_in_ok W47  hy76
                      clear hy76
                      replace HC77 := Lib.hid HC77
                      cases y78
                      · replace HB75 := Lib.hid (ifF Bool.false_ne_true HB75.out)
                        obtain rfl := Option.some.inj HB75.out
                        replace HB73 := Lib.hid (ifT rfl HB73.out)
                        obtain rfl := Option.some.inj HB73.out
                        replace HM := Lib.hid (ifT rfl HM.out)
                        obtain rfl := Option.some.inj HM.out
                        go_wp2_with fail
                        refine HC77.out.mono ?_; rintro e w' ⟨rfl, rfl⟩
                        go_wp2_with fail
                        go_ret
                        exact ⟨(by first | rfl | (refine congrArg (fun b => Ending.returned (Value.bool b)) ?_; first | (exact decide_eq_true (by omega)) | (exact decide_eq_false (by omega)))), HD.out⟩
                      · replace HB75 := Lib.hid (ifT rfl HB75.out)
                        obtain ⟨y81, hy79, hm⟩ := obind HB75.out
                        replace HB75 := Lib.hid hm; clear hm
                        have HC80 := R3_Member_ok W47  hy79
                        clear hy79
                        replace HC80 := Lib.hid HC80
                        cases y81
                        · replace HB75 := Lib.hid (ifF Bool.false_ne_true HB75.out)
                          obtain rfl := Option.some.inj HB75.out
                          replace HB73 := Lib.hid (ifT rfl HB73.out)
                          obtain rfl := Option.some.inj HB73.out
                          replace HM := Lib.hid (ifT rfl HM.out)
                          obtain rfl := Option.some.inj HM.out
                          go_wp2_with fail
                          refine HC77.out.mono ?_; rintro e w' ⟨rfl, rfl⟩
                          go_wp2_with fail
                          refine HC80.out.mono ?_; rintro e w' ⟨rfl, rfl⟩
                          go_wp2_with fail
                          go_ret
                          exact ⟨(by first | rfl | (refine congrArg (fun b => Ending.returned (Value.bool b)) ?_; first | (exact decide_eq_true (by omega)) | (exact decide_eq_false (by omega)))), HD.out⟩
                        · replace HB75 := Lib.hid (ifT rfl HB75.out)
                          obtain rfl := Option.some.inj HB75.out
                          replace HB73 := Lib.hid (ifF Bool.false_ne_true HB73.out)
                          obtain ⟨y84, hy82, hm⟩ := obind HB73.out
                          replace HB73 := Lib.hid hm; clear hm
                          have HC83 := R3_Member_ok W47  hy82
                          clear hy82
                          replace HC83 := Lib.hid HC83
                          cases y84
                          · replace HB73 := Lib.hid (ifF Bool.false_ne_true HB73.out)
                            obtain rfl := Option.some.inj HB73.out
                            replace HM := Lib.hid (ifF Bool.false_ne_true HM.out)
                            obtain ⟨b85, hb, hm⟩ := obind HM.out
                            replace HM := Lib.hid hm; have HB86 := Lib.hid hb; clear hm hb
                            obtain ⟨y89, hy87, hm⟩ := obind HB86.out
                            replace HB86 := Lib.hid hm; clear hm
                            have HC88 := R3_Away_ok W47 cap1 (rdL HD.out HR1.out) hy87
                            clear hy87
                            replace HC88 := Lib.hid HC88
                            go_wp2_with fail
                            refine HC77.out.mono ?_; rintro e w' ⟨rfl, rfl⟩
                            go_wp2_with fail
                            refine HC80.out.mono ?_; rintro e w' ⟨rfl, rfl⟩
                            go_wp2_with fail
                            refine HC83.out.mono ?_; rintro e w' ⟨rfl, rfl⟩
                            go_wp2_with fail
                            refine HC88.out.mono ?_; rintro e W90 ⟨rfl, hd⟩
                            try clear hc48 hc48d hc71
                            replace HOA := Lib.hid (HOA.out.below (hd.below _))
                            replace HD := Lib.hid (HD.out.trans ((hd.below _).mono HD.out.size))
                            clear hd
                            by_cases hc91 : y7 ≤ y89
                            · replace HB86 := Lib.hid (ifT hc91 HB86.out)
                              obtain ⟨y94, hy92, hm⟩ := obind HB86.out
                              replace HB86 := Lib.hid hm; clear hm
                              have HC93 := R3_Away_ok W90 cap1 (rdL HD.out HR1.out) hy92
                              clear hy92
                              replace HC93 := Lib.hid HC93
                              go_wp2_with fail
                              refine HC93.out.mono ?_; rintro e W95 ⟨rfl, hd⟩
                              try clear hc91
                              replace HOA := Lib.hid (HOA.out.below (hd.below _))
                              replace HD := Lib.hid (HD.out.trans ((hd.below _).mono HD.out.size))
                              clear hd
                              by_cases hc96 : y7 < y94
                              · replace HB86 := Lib.hid (ifT hc96 HB86.out)
                                obtain rfl := Option.some.inj HB86.out
                                obtain rfl := Option.some.inj HM.out
                                go_wp2_with fail
                                go_ret
                                exact ⟨(by first | rfl | (refine congrArg (fun b => Ending.returned (Value.bool b)) ?_; first | (exact decide_eq_true (by omega)) | (exact decide_eq_false (by omega)))), HD.out⟩
                              · replace HB86 := Lib.hid (ifF hc96 HB86.out)
                                have hc96d := decide_eq_false hc96
                                obtain ⟨y99, hy97, hm⟩ := obind HB86.out
                                replace HB86 := Lib.hid hm; clear hm
                                have HC98 := R3_Members_ok W95  hy97
                                clear hy97
                                replace HC98 := Lib.hid HC98
                                go_wp2_with fail
                                refine HC98.out.mono ?_; rintro e W100 ⟨V101, rfl, ho, hd⟩
                                try clear hc96 hc96d
                                replace HOA := Lib.hid (HOA.out.call hd HD.out.size ho); clear ho
                                replace HD := Lib.hid (HD.out.trans (hd.mono HD.out.size))
                                clear hd
                                obtain ⟨A103, cap104, he, _⟩ := HP.open_I HOA.out (List.Mem.head _)
                                subst he
                                by_cases hc105 : ((y15).length : Int) ≤ ((y99).length : Int)
                                · replace HB86 := Lib.hid (ifT hc105 HB86.out)
                                  have hc105n := hc105; try norm_cast at hc105n
                                  obtain rfl := Option.some.inj HB86.out
                                  obtain rfl := Option.some.inj HM.out
                                  go_wp2_with fail
                                  go_ret
                                  exact ⟨(by first | rfl | (refine congrArg (fun b => Ending.returned (Value.bool b)) ?_; first | (exact decide_eq_true (by omega)) | (exact decide_eq_false (by omega)))), HD.out⟩
                                · replace HB86 := Lib.hid (ifF hc105 HB86.out)
                                  have hc105d := decide_eq_false hc105
                                  have hc105n := hc105; try norm_cast at hc105n
                                  obtain rfl := Option.some.inj HB86.out
                                  obtain rfl := Option.some.inj HM.out
                                  go_wp2_with fail
                                  go_ret
                                  exact ⟨(by first | rfl | (refine congrArg (fun b => Ending.returned (Value.bool b)) ?_; first | (exact decide_eq_true (by omega)) | (exact decide_eq_false (by omega)))), HD.out⟩
                            · replace HB86 := Lib.hid (ifF hc91 HB86.out)
                              have hc91d := decide_eq_false hc91
                              obtain rfl := Option.some.inj HB86.out
                              obtain rfl := Option.some.inj HM.out
                              go_wp2_with fail
                              go_ret
                              exact ⟨(by first | rfl | (refine congrArg (fun b => Ending.returned (Value.bool b)) ?_; first | (exact decide_eq_true (by omega)) | (exact decide_eq_false (by omega)))), HD.out⟩
                          · replace HB73 := Lib.hid (ifT rfl HB73.out)
                            obtain rfl := Option.some.inj HB73.out
                            replace HM := Lib.hid (ifT rfl HM.out)
                            obtain rfl := Option.some.inj HM.out
                            go_wp2_with fail
                            refine HC77.out.mono ?_; rintro e w' ⟨rfl, rfl⟩
                            go_wp2_with fail
                            refine HC80.out.mono ?_; rintro e w' ⟨rfl, rfl⟩
                            go_wp2_with fail
                            refine HC83.out.mono ?_; rintro e w' ⟨rfl, rfl⟩
                            go_wp2_with fail
                            go_ret
                            exact ⟨(by first | rfl | (refine congrArg (fun b => Ending.returned (Value.bool b)) ?_; first | (exact decide_eq_true (by omega)) | (exact decide_eq_false (by omega)))), HD.out⟩
            · replace HB26 := Lib.hid (ifT rfl HB26.out)
              obtain rfl := Option.some.inj HB26.out
              replace HM := Lib.hid (ifT rfl HM.out)
              obtain rfl := Option.some.inj HM.out
              go_wp2_with fail
              refine HC32.out.mono ?_; rintro e w' ⟨rfl, rfl⟩
              go_wp2_with fail
              refine HC37.out.mono ?_; rintro e w' ⟨rfl, rfl⟩
              go_wp2_with fail
              refine HC40.out.mono ?_; rintro e w' ⟨rfl, rfl⟩
              go_wp2_with fail
              go_ret
              exact ⟨rfl, HD.out⟩
      · rw [errV_pos _ hz17] at HC14; replace HC14 := Lib.hid HC14
        go_wp2_with fail
        refine HC14.out.mono ?_; rintro e W21 ⟨V22, rfl, ho, hd⟩
        replace HOA := Lib.hid (HOA.out.call hd HD.out.size ho); clear ho
        replace HD := Lib.hid (HD.out.trans (hd.mono HD.out.size))
        clear hd
        have HZ24 := Lib.hid hz17; clear hz17
        obtain ⟨b106, hb, hm⟩ := obind HM.out
        replace HM := Lib.hid hm; have HB107 := Lib.hid hb; clear hm hb
        obtain ⟨b108, hb, hm⟩ := obind HB107.out
        replace HB107 := Lib.hid hm; have HB109 := Lib.hid hb; clear hm hb
        obtain ⟨b110, hb, hm⟩ := obind HB109.out
        replace HB109 := Lib.hid hm; have HB111 := Lib.hid hb; clear hm hb
        replace HB111 := Lib.hid (ifT (bne_iff_ne.2 HZ24.out) HB111.out)
        obtain rfl := Option.some.inj HB111.out
        replace HB109 := Lib.hid (ifT rfl HB109.out)
        obtain rfl := Option.some.inj HB109.out
        replace HB107 := Lib.hid (ifT rfl HB107.out)
        obtain rfl := Option.some.inj HB107.out
        replace HM := Lib.hid (ifT rfl HM.out)
        obtain rfl := Option.some.inj HM.out
        go_wp2_with fail
        go_ret
        exact ⟨rfl, HD.out⟩
    · rw [errV_pos _ hz9] at HC6; replace HC6 := Lib.hid HC6
      go_wp2_with fail
      refine HC6.out.mono ?_; rintro e W11 ⟨rfl, hd⟩
      replace HOA := Lib.hid (HOA.out.below hd)
      replace HD := Lib.hid (HD.out.trans (hd.mono HD.out.size))
      clear hd
      have HZ12 := Lib.hid hz9; clear hz9
      replace HM := Lib.hid (ifT (bne_iff_ne.2 HZ12.out) HM.out)
      obtain ⟨b112, hb, hm⟩ := obind HM.out
      replace HM := Lib.hid hm; have HB113 := Lib.hid hb; clear hm hb
      rcases Bool.eq_false_or_eq_true (y7 == 0) with hc114 | hc114
      · replace HB113 := Lib.hid (ifT hc114 HB113.out)
        obtain rfl := Option.some.inj HB113.out
        obtain rfl := Option.some.inj HM.out
        go_wp2_with fail
        go_ret
        exact ⟨(by first | rfl | (refine congrArg (fun b => Ending.returned (Value.bool b)) ?_; first | (exact decide_eq_true (by omega)) | (exact decide_eq_false (by omega)))), HD.out⟩
      · replace HB113 := Lib.hid (ifF (bF hc114) HB113.out)
        obtain rfl := Option.some.inj HB113.out
        obtain rfl := Option.some.inj HM.out
        go_wp2_with fail
        go_ret
        exact ⟨(by first | rfl | (refine congrArg (fun b => Ending.returned (Value.bool b)) ?_; first | (exact decide_eq_true (by omega)) | (exact decide_eq_false (by omega)))), HD.out⟩
def L3_MengerBoth_L1 (F : Nat) (v1 : List (Int × Int)) (v2 : Int) (v3 : Int) : Nat → (Int) → (Int) → (Int) → Option (Int × Int × Int)
  | 0, _, _, _ => none
  | g+1, v10, v11, v12 => if v12 < ((v1).length : Int) then (((ix v1 v12).bind fun y7 => if (y7.1 == v2) = true then some true else (ix v1 v12).bind fun y8 => if (y8.2 == v2) = true then some true else some false).bind fun b6 => if b6 = true then (((ix v1 v12).bind fun y10 => if (y10.1 == v3) = true then some true else (ix v1 v12).bind fun y11 => if (y11.2 == v3) = true then some true else some false).bind fun b9 => if b9 = true then L3_MengerBoth_L1 F v1 v2 v3 g ((wrap64 (v10 + 1))) ((wrap64 (v11 + 1))) ((wrap64 (v12 + 1))) else L3_MengerBoth_L1 F v1 v2 v3 g ((wrap64 (v10 + 1))) (v11) ((wrap64 (v12 + 1)))) else (((ix v1 v12).bind fun y13 => if (y13.1 == v3) = true then some true else (ix v1 v12).bind fun y14 => if (y14.2 == v3) = true then some true else some false).bind fun b12 => if b12 = true then L3_MengerBoth_L1 F v1 v2 v3 g (v10) ((wrap64 (v11 + 1))) ((wrap64 (v12 + 1))) else L3_MengerBoth_L1 F v1 v2 v3 g (v10) (v11) ((wrap64 (v12 + 1))))) else some (v10, v11, v12)
theorem L3_MengerBoth_L1_0 (F : Nat) (v1 : List (Int × Int)) (v2 : Int) (v3 : Int) (v10 : Int) (v11 : Int) (v12 : Int) : L3_MengerBoth_L1 F v1 v2 v3 0 v10 v11 v12 = none := by rw [L3_MengerBoth_L1]
theorem L3_MengerBoth_L1_s (F g : Nat) (v1 : List (Int × Int)) (v2 : Int) (v3 : Int) (v10 : Int) (v11 : Int) (v12 : Int) : L3_MengerBoth_L1 F v1 v2 v3 (g+1) v10 v11 v12 = (if v12 < ((v1).length : Int) then (((ix v1 v12).bind fun y7 => if (y7.1 == v2) = true then some true else (ix v1 v12).bind fun y8 => if (y8.2 == v2) = true then some true else some false).bind fun b6 => if b6 = true then (((ix v1 v12).bind fun y10 => if (y10.1 == v3) = true then some true else (ix v1 v12).bind fun y11 => if (y11.2 == v3) = true then some true else some false).bind fun b9 => if b9 = true then L3_MengerBoth_L1 F v1 v2 v3 g ((wrap64 (v10 + 1))) ((wrap64 (v11 + 1))) ((wrap64 (v12 + 1))) else L3_MengerBoth_L1 F v1 v2 v3 g ((wrap64 (v10 + 1))) (v11) ((wrap64 (v12 + 1)))) else (((ix v1 v12).bind fun y13 => if (y13.1 == v3) = true then some true else (ix v1 v12).bind fun y14 => if (y14.2 == v3) = true then some true else some false).bind fun b12 => if b12 = true then L3_MengerBoth_L1 F v1 v2 v3 g (v10) ((wrap64 (v11 + 1))) ((wrap64 (v12 + 1))) else L3_MengerBoth_L1 F v1 v2 v3 g (v10) (v11) ((wrap64 (v12 + 1))))) else some (v10, v11, v12)) := by rw [L3_MengerBoth_L1]
def L3_MengerBoth (F : Nat) (v0 : Int) (v1 : List (Int × Int)) (v2 : Int) (v3 : Int) (v4 : Int) : Option (Bool) := (L3_mengerFact F ).bind fun y1 => (if y1 = true then (menger_Ways F (v0) (v1) (v2) (v3)).bind fun y2 => (if (y2.2 != 0) = true then (if (y2.1 == 0) = true then some true else some false).bind fun b3 => some (b3) else (menger_Ways F (v0) (v1) (v3) (v2)).bind fun y4 => ((if (y4.2 != 0) = true then some true else if (y4.1 != y2.1) = true then some true else some false).bind fun b5 => if b5 = true then some (false) else (L3_MengerBoth_L1 F (v1) (v2) (v3) F (0) (0) (0)).bind fun o15 => (((if o15.1 < y2.1 then some true else if o15.2.1 < y2.1 then some true else some false).bind fun b17 => if b17 = true then some true else if y2.1 < 0 then some true else some false).bind fun b16 => if b16 = true then some (false) else ((L3_in F (v4) (0) ((wrap64 (((v1).length : Int) - 1)))).bind fun y18 => if y18 = true then (R1_But F (v1) (v4)).bind fun y19 => (menger_Ways F (v0) (y19) (v2) (v3)).bind fun y20 => (if (y20.2 == 0) = true then if (y20.1 == y2.1) = true then some true else if (y20.1 == (wrap64 (y2.1 - 1))) = true then some true else some false else some false).bind fun b21 => some (b21) else some (true))))) else some (false))
set_option maxRecDepth 100000 in
set_option maxHeartbeats 1000000 in
theorem L3_MengerBoth_ok {F : Nat} {v0 : Int} {v1 : List (Int × Int)} {A1 : Option Addr} {v2 : Int} {v3 : Int} {v4 : Int} {r : Bool} (w : World) (cap1 : Nat) (hr1 : ReadsL w w.heap.size A1 v1) (h : L3_MengerBoth F v0 v1 v2 v3 v4 = some r) :
    Calls Try.prog 4 #[.int .i64 v0, .slice A1 v1.length cap1, .int .i64 v2, .int .i64 v3, .int .i64 v4] w fun e w' => e = .returned (.bool r) ∧ Below w.heap.size w w' := by
  have HR1 := Lib.hid hr1; clear hr1
  have HD := Lib.hid (Below.refl w.heap.size w)
  have HOA := Lib.hid (HP.nil (W := w) (B := w.heap.size))
  unfold L3_MengerBoth at h
  have HM := Lib.hid h; clear h
  go_enter Try.func4, Try.ntmps4
  obtain ⟨y3, hy1, hm⟩ := obind HM.out
  replace HM := Lib.hid hm; clear hm
  have HC2 := L3_mengerFact_ok w  hy1
  clear hy1
  replace HC2 := Lib.hid HC2
  go_wp2_with fail
  refine HC2.out.mono ?_; rintro e W4 ⟨rfl, hd⟩
  replace HOA := Lib.hid (HOA.out.below hd)
  replace HD := Lib.hid (HD.out.trans (hd.mono HD.out.size))
  clear hd
  cases y3
  · replace HM := Lib.hid (ifF Bool.false_ne_true HM.out)
    obtain rfl := Option.some.inj HM.out
    go_wp2_with fail
    go_ret
    exact ⟨rfl, HD.out⟩
  · replace HM := Lib.hid (ifT rfl HM.out)
    obtain ⟨⟨y7, y8⟩, hy5, hm⟩ := obind HM.out
    dsimp only at hm
    replace HM := Lib.hid hm; clear hm
    have HC6 := menger_Ways_ok W4 cap1 (rdL HD.out HR1.out) hy5
    clear hy5
    by_cases hz9 : y8 = 0
    · subst hz9
      rw [errV_zero] at HC6; replace HC6 := Lib.hid HC6
      go_wp2_with fail
      refine HC6.out.mono ?_; rintro e W10 ⟨rfl, hd⟩
      replace HOA := Lib.hid (HOA.out.below hd)
      replace HD := Lib.hid (HD.out.trans (hd.mono HD.out.size))
      clear hd
      replace HM := Lib.hid (ifF (by decide) HM.out)
      obtain ⟨⟨y15, y16⟩, hy13, hm⟩ := obind HM.out
      dsimp only at hm
      replace HM := Lib.hid hm; clear hm
      have HC14 := menger_Ways_ok W10 cap1 (rdL HD.out HR1.out) hy13
      clear hy13
      by_cases hz17 : y16 = 0
      · subst hz17
        rw [errV_zero] at HC14; replace HC14 := Lib.hid HC14
        go_wp2_with fail
        refine HC14.out.mono ?_; rintro e W18 ⟨rfl, hd⟩
        replace HOA := Lib.hid (HOA.out.below hd)
        replace HD := Lib.hid (HD.out.trans (hd.mono HD.out.size))
        clear hd
        obtain ⟨b21, hb, hm⟩ := obind HM.out
        replace HM := Lib.hid hm; have HB22 := Lib.hid hb; clear hm hb
        replace HB22 := Lib.hid (ifF (by decide) HB22.out)
        rcases Bool.eq_false_or_eq_true (y15 != y7) with hc23 | hc23
        · replace HB22 := Lib.hid (ifT hc23 HB22.out)
          obtain rfl := Option.some.inj HB22.out
          replace HM := Lib.hid (ifT rfl HM.out)
          obtain rfl := Option.some.inj HM.out
          go_wp2_with fail
          go_ret
          exact ⟨(by first | rfl | (refine congrArg (fun b => Ending.returned (Value.bool b)) ?_; first | (exact decide_eq_true (by omega)) | (exact decide_eq_false (by omega)))), HD.out⟩
        · replace HB22 := Lib.hid (ifF (bF hc23) HB22.out)
          obtain rfl := Option.some.inj HB22.out
          replace HM := Lib.hid (ifF Bool.false_ne_true HM.out)
          go_wp2_with fail
          try clear hc23
          obtain ⟨o24, ho, hm⟩ := obind HM.out
          replace HM := Lib.hid hm; have HL1 := Lib.hid ho; clear hm ho
          go_loopg [15, 16, 17] F (fun gg u28 u29 u30 wr => ∃ (x25 : Int) (x26 : Int) (x27 : Int), u28 = .int .i64 x25 ∧ u29 = .int .i64 x26 ∧ u30 = .int .i64 x27 ∧ Hid (Below W18.heap.size W18 wr) ∧ Hid (L3_MengerBoth_L1 F (v1) (v2) (v3) gg x25 x26 x27 = some o24))
          case atStart => exact ⟨0, 0, 0, rfl, rfl, rfl, (Lib.hid (Below.refl _ _)), HL1⟩
          case round =>
            obtain ⟨x25, x26, x27, rfl, rfl, rfl, HW1, HL1⟩ := hrel
            rename World => W31
            have hd := HW1.out
            replace HOA := Lib.hid (HOA.out.below hd)
            replace HD := Lib.hid (HD.out.trans (hd.mono HD.out.size))
            clear hd
            cases gk with
            | zero => exact absurd ((L3_MengerBoth_L1_0 ..).symm.trans HL1.out) (by intro h; cases h)
            | succ g1 =>
              replace HL1 := Lib.hid ((L3_MengerBoth_L1_s ..).symm.trans HL1.out)
              by_cases hc32 : x27 < ((v1).length : Int)
              · replace HL1 := Lib.hid (ifT hc32 HL1.out)
                obtain ⟨b33, hb, hm⟩ := obind HL1.out
                replace HL1 := Lib.hid hm; have HB34 := Lib.hid hb; clear hm hb
                obtain ⟨y35, hy36, hm⟩ := obind HB34.out
                replace HB34 := Lib.hid hm; clear hm
                obtain ⟨b37, o38, ea39, _, f40, f41, f42, f43⟩ := ReadsL.ix (rdL HD.out HR1.out) hy36
                cases ea39
                try simp only [Nat.zero_add, Nat.add_zero, Int.toNat_natCast, Int.toNat_zero, Int.toNat_one] at f42 f43
                have HY44 := Lib.hid hy36; clear hy36
                rcases Bool.eq_false_or_eq_true (y35.1 == v2) with hc45 | hc45
                · replace HB34 := Lib.hid (ifT hc45 HB34.out)
                  obtain rfl := Option.some.inj HB34.out
                  replace HL1 := Lib.hid (ifT rfl HL1.out)
                  obtain ⟨b46, hb, hm⟩ := obind HL1.out
                  replace HL1 := Lib.hid hm; have HB47 := Lib.hid hb; clear hm hb
                  obtain ⟨y48, hy49, hm⟩ := obind HB47.out
                  replace HB47 := Lib.hid hm; clear hm
                  obtain rfl := Option.some.inj (HY44.out.symm.trans hy49)
                  clear hy49
                  rcases Bool.eq_false_or_eq_true (y35.1 == v3) with hc50 | hc50
                  · replace HB47 := Lib.hid (ifT hc50 HB47.out)
                    obtain rfl := Option.some.inj HB47.out
                    replace HL1 := Lib.hid (ifT rfl HL1.out)
                    go_wp2_with fail
                    try clear hc32 f40 f41 f42 f43 hc45 hc50
                    go_roundg g1
                    case measure => omega
                    case rel => exact ⟨(wrap64 (x25 + 1)), (wrap64 (x26 + 1)), (wrap64 (x27 + 1)), rfl, rfl, rfl, HW1, HL1⟩
                  · replace HB47 := Lib.hid (ifF (bF hc50) HB47.out)
                    obtain ⟨y51, hy52, hm⟩ := obind HB47.out
                    replace HB47 := Lib.hid hm; clear hm
                    obtain rfl := Option.some.inj (HY44.out.symm.trans hy52)
                    clear hy52
                    rcases Bool.eq_false_or_eq_true (y35.2 == v3) with hc53 | hc53
                    · replace HB47 := Lib.hid (ifT hc53 HB47.out)
                      obtain rfl := Option.some.inj HB47.out
                      replace HL1 := Lib.hid (ifT rfl HL1.out)
                      go_wp2_with fail
                      try clear hc32 f40 f41 f42 f43 hc45 hc50 hc53
                      go_roundg g1
                      case measure => omega
                      case rel => exact ⟨(wrap64 (x25 + 1)), (wrap64 (x26 + 1)), (wrap64 (x27 + 1)), rfl, rfl, rfl, HW1, HL1⟩
                    · replace HB47 := Lib.hid (ifF (bF hc53) HB47.out)
                      obtain rfl := Option.some.inj HB47.out
                      replace HL1 := Lib.hid (ifF Bool.false_ne_true HL1.out)
                      go_wp2_with fail
                      try clear hc32 f40 f41 f42 f43 hc45 hc50 hc53
                      go_roundg g1
                      case measure => omega
                      case rel => exact ⟨(wrap64 (x25 + 1)), x26, (wrap64 (x27 + 1)), rfl, rfl, rfl, HW1, HL1⟩
                · replace HB34 := Lib.hid (ifF (bF hc45) HB34.out)
                  obtain ⟨y54, hy55, hm⟩ := obind HB34.out
                  replace HB34 := Lib.hid hm; clear hm
                  obtain rfl := Option.some.inj (HY44.out.symm.trans hy55)
                  clear hy55
                  rcases Bool.eq_false_or_eq_true (y35.2 == v2) with hc56 | hc56
                  · replace HB34 := Lib.hid (ifT hc56 HB34.out)
                    obtain rfl := Option.some.inj HB34.out
                    replace HL1 := Lib.hid (ifT rfl HL1.out)
                    obtain ⟨b57, hb, hm⟩ := obind HL1.out
                    replace HL1 := Lib.hid hm; have HB58 := Lib.hid hb; clear hm hb
                    obtain ⟨y59, hy60, hm⟩ := obind HB58.out
                    replace HB58 := Lib.hid hm; clear hm
                    obtain rfl := Option.some.inj (HY44.out.symm.trans hy60)
                    clear hy60
                    rcases Bool.eq_false_or_eq_true (y35.1 == v3) with hc61 | hc61
                    · replace HB58 := Lib.hid (ifT hc61 HB58.out)
                      obtain rfl := Option.some.inj HB58.out
                      replace HL1 := Lib.hid (ifT rfl HL1.out)
                      go_wp2_with fail
                      try clear hc32 f40 f41 f42 f43 hc45 hc56 hc61
                      go_roundg g1
                      case measure => omega
                      case rel => exact ⟨(wrap64 (x25 + 1)), (wrap64 (x26 + 1)), (wrap64 (x27 + 1)), rfl, rfl, rfl, HW1, HL1⟩
                    · replace HB58 := Lib.hid (ifF (bF hc61) HB58.out)
                      obtain ⟨y62, hy63, hm⟩ := obind HB58.out
                      replace HB58 := Lib.hid hm; clear hm
                      obtain rfl := Option.some.inj (HY44.out.symm.trans hy63)
                      clear hy63
                      rcases Bool.eq_false_or_eq_true (y35.2 == v3) with hc64 | hc64
                      · replace HB58 := Lib.hid (ifT hc64 HB58.out)
                        obtain rfl := Option.some.inj HB58.out
                        replace HL1 := Lib.hid (ifT rfl HL1.out)
                        go_wp2_with fail
                        try clear hc32 f40 f41 f42 f43 hc45 hc56 hc61 hc64
                        go_roundg g1
                        case measure => omega
                        case rel => exact ⟨(wrap64 (x25 + 1)), (wrap64 (x26 + 1)), (wrap64 (x27 + 1)), rfl, rfl, rfl, HW1, HL1⟩
                      · replace HB58 := Lib.hid (ifF (bF hc64) HB58.out)
                        obtain rfl := Option.some.inj HB58.out
                        replace HL1 := Lib.hid (ifF Bool.false_ne_true HL1.out)
                        go_wp2_with fail
                        try clear hc32 f40 f41 f42 f43 hc45 hc56 hc61 hc64
                        go_roundg g1
                        case measure => omega
                        case rel => exact ⟨(wrap64 (x25 + 1)), x26, (wrap64 (x27 + 1)), rfl, rfl, rfl, HW1, HL1⟩
                  · replace HB34 := Lib.hid (ifF (bF hc56) HB34.out)
                    obtain rfl := Option.some.inj HB34.out
                    replace HL1 := Lib.hid (ifF Bool.false_ne_true HL1.out)
                    obtain ⟨b65, hb, hm⟩ := obind HL1.out
                    replace HL1 := Lib.hid hm; have HB66 := Lib.hid hb; clear hm hb
                    obtain ⟨y67, hy68, hm⟩ := obind HB66.out
                    replace HB66 := Lib.hid hm; clear hm
                    obtain rfl := Option.some.inj (HY44.out.symm.trans hy68)
                    clear hy68
                    rcases Bool.eq_false_or_eq_true (y35.1 == v3) with hc69 | hc69
                    · replace HB66 := Lib.hid (ifT hc69 HB66.out)
                      obtain rfl := Option.some.inj HB66.out
                      replace HL1 := Lib.hid (ifT rfl HL1.out)
                      go_wp2_with fail
                      try clear hc32 f40 f41 f42 f43 hc45 hc56 hc69
                      go_roundg g1
                      case measure => omega
                      case rel => exact ⟨x25, (wrap64 (x26 + 1)), (wrap64 (x27 + 1)), rfl, rfl, rfl, HW1, HL1⟩
                    · replace HB66 := Lib.hid (ifF (bF hc69) HB66.out)
                      obtain ⟨y70, hy71, hm⟩ := obind HB66.out
                      replace HB66 := Lib.hid hm; clear hm
                      obtain rfl := Option.some.inj (HY44.out.symm.trans hy71)
                      clear hy71
                      rcases Bool.eq_false_or_eq_true (y35.2 == v3) with hc72 | hc72
                      · replace HB66 := Lib.hid (ifT hc72 HB66.out)
                        obtain rfl := Option.some.inj HB66.out
                        replace HL1 := Lib.hid (ifT rfl HL1.out)
                        go_wp2_with fail
                        try clear hc32 f40 f41 f42 f43 hc45 hc56 hc69 hc72
                        go_roundg g1
                        case measure => omega
                        case rel => exact ⟨x25, (wrap64 (x26 + 1)), (wrap64 (x27 + 1)), rfl, rfl, rfl, HW1, HL1⟩
                      · replace HB66 := Lib.hid (ifF (bF hc72) HB66.out)
                        obtain rfl := Option.some.inj HB66.out
                        replace HL1 := Lib.hid (ifF Bool.false_ne_true HL1.out)
                        go_wp2_with fail
                        try clear hc32 f40 f41 f42 f43 hc45 hc56 hc69 hc72
                        go_roundg g1
                        case measure => omega
                        case rel => exact ⟨x25, x26, (wrap64 (x27 + 1)), rfl, rfl, rfl, HW1, HL1⟩
              · replace HL1 := Lib.hid (ifF hc32 HL1.out)
                have hc32d := decide_eq_false hc32
                obtain rfl := Option.some.inj HL1.out
                have hm := HM.out; try dsimp only at hm
                replace HM := Lib.hid hm; clear hm
                obtain ⟨b73, hb, hm⟩ := obind HM.out
                replace HM := Lib.hid hm; have HB74 := Lib.hid hb; clear hm hb
                obtain ⟨b75, hb, hm⟩ := obind HB74.out
                replace HB74 := Lib.hid hm; have HB76 := Lib.hid hb; clear hm hb
                by_cases hc77 : x25 < y7
                · replace HB76 := Lib.hid (ifT hc77 HB76.out)
                  obtain rfl := Option.some.inj HB76.out
                  replace HB74 := Lib.hid (ifT rfl HB74.out)
                  obtain rfl := Option.some.inj HB74.out
                  replace HM := Lib.hid (ifT rfl HM.out)
                  obtain rfl := Option.some.inj HM.out
                  go_wp2_with fail
                  go_ret
                  exact ⟨(by first | rfl | (refine congrArg (fun b => Ending.returned (Value.bool b)) ?_; first | (exact decide_eq_true (by omega)) | (exact decide_eq_false (by omega)))), HD.out⟩
                · replace HB76 := Lib.hid (ifF hc77 HB76.out)
                  have hc77d := decide_eq_false hc77
                  by_cases hc78 : x26 < y7
                  · replace HB76 := Lib.hid (ifT hc78 HB76.out)
                    obtain rfl := Option.some.inj HB76.out
                    replace HB74 := Lib.hid (ifT rfl HB74.out)
                    obtain rfl := Option.some.inj HB74.out
                    replace HM := Lib.hid (ifT rfl HM.out)
                    obtain rfl := Option.some.inj HM.out
                    go_wp2_with fail
                    go_ret
                    exact ⟨(by first | rfl | (refine congrArg (fun b => Ending.returned (Value.bool b)) ?_; first | (exact decide_eq_true (by omega)) | (exact decide_eq_false (by omega)))), HD.out⟩
                  · replace HB76 := Lib.hid (ifF hc78 HB76.out)
                    have hc78d := decide_eq_false hc78
                    obtain rfl := Option.some.inj HB76.out
                    replace HB74 := Lib.hid (ifF Bool.false_ne_true HB74.out)
                    by_cases hc79 : y7 < 0
                    · replace HB74 := Lib.hid (ifT hc79 HB74.out)
                      obtain rfl := Option.some.inj HB74.out
                      replace HM := Lib.hid (ifT rfl HM.out)
                      obtain rfl := Option.some.inj HM.out
                      go_wp2_with fail
                      go_ret
                      exact ⟨(by first | rfl | (refine congrArg (fun b => Ending.returned (Value.bool b)) ?_; first | (exact decide_eq_true (by omega)) | (exact decide_eq_false (by omega)))), HD.out⟩
                    · replace HB74 := Lib.hid (ifF hc79 HB74.out)
                      have hc79d := decide_eq_false hc79
                      obtain rfl := Option.some.inj HB74.out
                      replace HM := Lib.hid (ifF Bool.false_ne_true HM.out)
                      obtain ⟨y82, hy80, hm⟩ := obind HM.out
                      replace HM := Lib.hid hm; clear hm
                      have HC81 := L3_in_ok W31  hy80
                      clear hy80
                      replace HC81 := Lib.hid HC81
                      cases y82
                      · replace HM := Lib.hid (ifF Bool.false_ne_true HM.out)
                        obtain rfl := Option.some.inj HM.out
                        go_wp2_with fail
                        refine HC81.out.mono ?_; rintro e w' ⟨rfl, rfl⟩
                        go_wp2_with fail
                        go_ret
                        exact ⟨(by first | rfl | (refine congrArg (fun b => Ending.returned (Value.bool b)) ?_; first | (exact decide_eq_true (by omega)) | (exact decide_eq_false (by omega)))), HD.out⟩
                      · replace HM := Lib.hid (ifT rfl HM.out)
                        obtain ⟨y85, hy83, hm⟩ := obind HM.out
                        replace HM := Lib.hid hm; clear hm
                        have HC84 := R1_But_ok W31 cap1 (rdL HD.out HR1.out) hy83
                        clear hy83
                        replace HC84 := Lib.hid HC84
                        go_wp2_with fail
                        refine HC81.out.mono ?_; rintro e w' ⟨rfl, rfl⟩
                        go_wp2_with fail
                        refine HC84.out.mono ?_; rintro e W86 ⟨V87, rfl, ho, hd⟩
                        try clear hc32 hc32d hc77 hc77d hc78 hc78d hc79 hc79d
                        replace HOA := Lib.hid (HOA.out.call hd HD.out.size ho); clear ho
                        replace HD := Lib.hid (HD.out.trans (hd.mono HD.out.size))
                        clear hd
                        obtain ⟨⟨y91, y92⟩, hy89, hm⟩ := obind HM.out
                        dsimp only at hm
                        replace HM := Lib.hid hm; clear hm
                        obtain ⟨A93, cap94, he, _⟩ := HP.open_L HOA.out (List.Mem.head _)
                        subst he
                        have HC90 := menger_Ways_ok W86 cap94 (HP.rd_L HOA.out (List.Mem.head _)) hy89
                        clear hy89
                        by_cases hz95 : y92 = 0
                        · subst hz95
                          rw [errV_zero] at HC90; replace HC90 := Lib.hid HC90
                          go_wp2_with fail
                          refine HC90.out.mono ?_; rintro e W96 ⟨rfl, hd⟩
                          replace HOA := Lib.hid (HOA.out.below hd)
                          replace HD := Lib.hid (HD.out.trans (hd.mono HD.out.size))
                          clear hd
                          obtain ⟨b99, hb, hm⟩ := obind HM.out
                          replace HM := Lib.hid hm; have HB100 := Lib.hid hb; clear hm hb
                          replace HB100 := Lib.hid (ifT (by decide) HB100.out)
                          rcases Bool.eq_false_or_eq_true (y91 == y7) with hc101 | hc101
                          · replace HB100 := Lib.hid (ifT hc101 HB100.out)
                            obtain rfl := Option.some.inj HB100.out
                            obtain rfl := Option.some.inj HM.out
                            go_wp2_with fail
                            go_ret
                            exact ⟨(by first | rfl | (refine congrArg (fun b => Ending.returned (Value.bool b)) ?_; first | (exact decide_eq_true (by omega)) | (exact decide_eq_false (by omega)))), HD.out⟩
                          · replace HB100 := Lib.hid (ifF (bF hc101) HB100.out)
                            rcases Bool.eq_false_or_eq_true (y91 == (wrap64 (y7 - 1))) with hc102 | hc102
                            · replace HB100 := Lib.hid (ifT hc102 HB100.out)
                              obtain rfl := Option.some.inj HB100.out
                              obtain rfl := Option.some.inj HM.out
                              go_wp2_with fail
                              go_ret
                              exact ⟨(by first | rfl | (refine congrArg (fun b => Ending.returned (Value.bool b)) ?_; first | (exact decide_eq_true (by omega)) | (exact decide_eq_false (by omega)))), HD.out⟩
                            · replace HB100 := Lib.hid (ifF (bF hc102) HB100.out)
                              obtain rfl := Option.some.inj HB100.out
                              obtain rfl := Option.some.inj HM.out
                              go_wp2_with fail
                              go_ret
                              exact ⟨(by first | rfl | (refine congrArg (fun b => Ending.returned (Value.bool b)) ?_; first | (exact decide_eq_true (by omega)) | (exact decide_eq_false (by omega)))), HD.out⟩
                        · rw [errV_pos _ hz95] at HC90; replace HC90 := Lib.hid HC90
                          go_wp2_with fail
                          refine HC90.out.mono ?_; rintro e W97 ⟨rfl, hd⟩
                          replace HOA := Lib.hid (HOA.out.below hd)
                          replace HD := Lib.hid (HD.out.trans (hd.mono HD.out.size))
                          clear hd
                          have HZ98 := Lib.hid hz95; clear hz95
                          obtain ⟨b103, hb, hm⟩ := obind HM.out
                          replace HM := Lib.hid hm; have HB104 := Lib.hid hb; clear hm hb
                          replace HB104 := Lib.hid (ifF (fun h => HZ98.out (eq_of_beq h)) HB104.out)
                          obtain rfl := Option.some.inj HB104.out
                          obtain rfl := Option.some.inj HM.out
                          go_wp2_with fail
                          go_ret
                          exact ⟨rfl, HD.out⟩
      · rw [errV_pos _ hz17] at HC14; replace HC14 := Lib.hid HC14
        go_wp2_with fail
        refine HC14.out.mono ?_; rintro e W19 ⟨rfl, hd⟩
        replace HOA := Lib.hid (HOA.out.below hd)
        replace HD := Lib.hid (HD.out.trans (hd.mono HD.out.size))
        clear hd
        have HZ20 := Lib.hid hz17; clear hz17
        obtain ⟨b105, hb, hm⟩ := obind HM.out
        replace HM := Lib.hid hm; have HB106 := Lib.hid hb; clear hm hb
        replace HB106 := Lib.hid (ifT (bne_iff_ne.2 HZ20.out) HB106.out)
        obtain rfl := Option.some.inj HB106.out
        replace HM := Lib.hid (ifT rfl HM.out)
        obtain rfl := Option.some.inj HM.out
        go_wp2_with fail
        go_ret
        exact ⟨rfl, HD.out⟩
    · rw [errV_pos _ hz9] at HC6; replace HC6 := Lib.hid HC6
      go_wp2_with fail
      refine HC6.out.mono ?_; rintro e W11 ⟨rfl, hd⟩
      replace HOA := Lib.hid (HOA.out.below hd)
      replace HD := Lib.hid (HD.out.trans (hd.mono HD.out.size))
      clear hd
      have HZ12 := Lib.hid hz9; clear hz9
      replace HM := Lib.hid (ifT (bne_iff_ne.2 HZ12.out) HM.out)
      obtain ⟨b107, hb, hm⟩ := obind HM.out
      replace HM := Lib.hid hm; have HB108 := Lib.hid hb; clear hm hb
      rcases Bool.eq_false_or_eq_true (y7 == 0) with hc109 | hc109
      · replace HB108 := Lib.hid (ifT hc109 HB108.out)
        obtain rfl := Option.some.inj HB108.out
        obtain rfl := Option.some.inj HM.out
        go_wp2_with fail
        go_ret
        exact ⟨(by first | rfl | (refine congrArg (fun b => Ending.returned (Value.bool b)) ?_; first | (exact decide_eq_true (by omega)) | (exact decide_eq_false (by omega)))), HD.out⟩
      · replace HB108 := Lib.hid (ifF (bF hc109) HB108.out)
        obtain rfl := Option.some.inj HB108.out
        obtain rfl := Option.some.inj HM.out
        go_wp2_with fail
        go_ret
        exact ⟨(by first | rfl | (refine congrArg (fun b => Ending.returned (Value.bool b)) ?_; first | (exact decide_eq_true (by omega)) | (exact decide_eq_false (by omega)))), HD.out⟩
end Go.Proofs.Ytgihnflaikmakaa
