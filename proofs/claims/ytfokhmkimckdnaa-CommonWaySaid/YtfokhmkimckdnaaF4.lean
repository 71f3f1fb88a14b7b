import Derived.Test.YtfokhmkimckdnaaF2
import Derived.Test.YtfokhmkimckdnaaRg
set_option linter.all false
set_option maxRecDepth 100000
namespace Go.Proofs.Ytfokhmkimckdnaa
open Go.RowKit
theorem drN (W : World) (n : Nat) : Dr W (W.drewN n) := ⟨n, rfl⟩
theorem way_tail {w W W1 W2 : World} (h1 : Below w.heap.size w W) (h2 : Below (W.drewN 1).heap.size (W.drewN 1) W1) (h3 : Dr W1 W2) : Below w.heap.size w W2 := by
  have a : Below w.heap.size w (W.drewN 1) := h1.trans ((drN W 1).below _)
  exact (a.trans (h2.mono a.size)).trans (h3.below _)
theorem cell_dr {W W1 : World} {p : Addr} {v : Value} (hd : Dr W W1) (h : W.cell? p = some v) : W1.cell? p = some v := by obtain ⟨n, rfl⟩ := hd; exact h
theorem cell_up {W W1 : World} {n : Nat} {p : Addr} {v : Value} (hd : Below (W.drewN n).heap.size (W.drewN n) W1) (h : W.cell? p = some v) : W1.cell? p = some v := (hd.cell (p := p) (World.block_lt_of_cell? (W.drewN n) p (u := v) h)).trans h
def L3_CommonWay (F : Nat) (v0 : Int) (v1 : List (Int × Int)) (v2 : Int) (v3 : Int) (v4 : Int) : Option (Bool) := (L3_commonFact F ).bind fun y1 => (if y1 = true then (common_Of F (v0) (v1) (v2) (v3) (v4)).bind fun y2 => (if (y2.2 != 0) = true then (if (y2.1 == 0) = true then some true else some false).bind fun b3 => some (b3) else (common_Way F (v0) (v1) (v3) (v4)).bind fun y4 => (common_Way F (v0) (v1) (v4) (v3)).bind fun y5 => (walk_From F (v0) (v1) (y2.1)).bind fun y6 => (common_Of F (v0) (v1) (v2) (v4) (v3)).bind fun y7 => (((((((if (y4.2 != 0) = true then some true else if (y5.2 != 0) = true then some true else some false).bind fun b13 => if b13 = true then some true else if (y6.2 != 0) = true then some true else some false).bind fun b12 => if b12 = true then some true else if (y7.2 != 0) = true then some true else some false).bind fun b11 => if b11 = true then some true else if (((y6.1).length : Int) != v0) = true then some true else some false).bind fun b10 => if b10 = true then some true else (L3_in F (v3) (0) ((wrap64 (v0 - 1)))).bind fun y14 => if y14 = true then some false else some true).bind fun b9 => if b9 = true then some true else (L3_in F (v4) (0) ((wrap64 (v0 - 1)))).bind fun y15 => if y15 = true then some false else some true).bind fun b8 => if b8 = true then some (false) else ((((R1_Has F (y4.1) (y2.1)).bind fun y19 => if y19 = true then (SE_Turned F (y4.1)).bind fun y20 => (SE_Ints F (y20) (y5.1)).bind fun y21 => if y21 = true then some true else some false else some false).bind fun b18 => if b18 = true then (ix y6.1 v3).bind fun y22 => (ix y6.1 v4).bind fun y23 => if (((y4.1).length : Int) == (wrap64 ((wrap64 (y22 + y23)) + 1))) = true then some true else some false else some false).bind fun b17 => if b17 = true then if (y7.1 == y2.1) = true then some true else some false else some false).bind fun b16 => some (b16))) else some (false))
set_option maxRecDepth 100000 in
set_option maxHeartbeats 8000000 in
theorem L3_CommonWay_ok {F : Nat} {v0 : Int} {v1 : List (Int × Int)} {A1 : Option Addr} {v2 : Int} {v3 : Int} {v4 : Int} {r : Bool} (w : World) (cap1 : Nat) (hr1 : ReadsL w w.heap.size A1 v1) (h : L3_CommonWay F v0 v1 v2 v3 v4 = some r) :
    Calls Try.prog 3 #[.int .i64 v0, .slice A1 v1.length cap1, .int .i64 v2, .int .i64 v3, .int .i64 v4] w fun e w' => e = .returned (.bool r) ∧ Below w.heap.size w w' := by
  have HR1 := Lib.hid hr1; clear hr1
  have HD := Lib.hid (Below.refl w.heap.size w)
  have HOA := Lib.hid (HP.nil (W := w) (B := w.heap.size))
  unfold L3_CommonWay at h
  have HM := Lib.hid h; clear h
  go_enter Try.func3, Try.ntmps3
  obtain ⟨y3, hy1, hm⟩ := obind HM.out
  replace HM := Lib.hid hm; clear hm
  have HC2 := L3_commonFact_ok w  hy1
  clear hy1
  replace HC2 := Lib.hid HC2
  go_wp2_with fail
  refine HC2.out.mono ?_; rintro e W4 ⟨rfl, hd⟩
  replace HOA := Lib.hid (HOA.out.below hd)
  replace HD := Lib.hid (HD.out.trans (hd.mono HD.out.size))
  clear hd
  cases y3
  · replace HM := Lib.hid (ifF Bool.false_ne_true HM.out)
    obtain rfl := Option.some.inj HM.out
    go_wp2_with fail
    go_ret
    exact ⟨rfl, HD.out⟩
  · replace HM := Lib.hid (ifT rfl HM.out)
    obtain ⟨⟨y7, y8⟩, hy5, hm⟩ := obind HM.out
    dsimp only at hm
    replace HM := Lib.hid hm; clear hm
    have HC6 := common_Of_ok W4 cap1 (rdL HD.out HR1.out) hy5
    clear hy5
    by_cases hz9 : y8 = 0
    · subst hz9
      rw [errV_zero] at HC6; replace HC6 := Lib.hid HC6
      go_wp2_with fail
      refine HC6.out.mono ?_; rintro e W10 ⟨rfl, hd⟩
      replace HOA := Lib.hid (HOA.out.below hd)
      replace HD := Lib.hid (HD.out.trans (hd.mono HD.out.size))
      clear hd
      replace HM := Lib.hid (ifF (by decide) HM.out)
      obtain ⟨⟨y15, y16⟩, hy13, hm⟩ := obind HM.out
      dsimp only at hm
      replace HM := Lib.hid hm; clear hm
      have HC14 := common_Way_ok W10 cap1 (rdL HD.out HR1.out) hy13
      clear hy13
      by_cases hz17 : y16 = 0
      · subst hz17
        rw [errV_zero] at HC14; replace HC14 := Lib.hid HC14
        go_wp2_with fail
        refine HC14.out.mono ?_; rintro e W18 ⟨V19, rfl, ho, hd⟩
        replace HOA := Lib.hid (HOA.out.call hd HD.out.size ho); clear ho
        replace HD := Lib.hid (HD.out.trans (hd.mono HD.out.size))
        clear hd
        obtain ⟨⟨y27, y28⟩, hy25, hm⟩ := obind HM.out
        dsimp only at hm
        replace HM := Lib.hid hm; clear hm
        have HC26 := common_Way_ok W18 cap1 (rdL HD.out HR1.out) hy25
        clear hy25
        by_cases hz29 : y28 = 0
        · subst hz29
          rw [errV_zero] at HC26; replace HC26 := Lib.hid HC26
          go_wp2_with fail
          refine HC26.out.mono ?_; rintro e W30 ⟨V31, rfl, ho, hd⟩
          replace HOA := Lib.hid (HOA.out.call hd HD.out.size ho); clear ho
          replace HD := Lib.hid (HD.out.trans (hd.mono HD.out.size))
          clear hd
          obtain ⟨⟨y39, y40⟩, hy37, hm⟩ := obind HM.out
          dsimp only at hm
          replace HM := Lib.hid hm; clear hm
          have HC38 := walk_From_ok W30 cap1 (rdL HD.out HR1.out) hy37
          clear hy37
          by_cases hz41 : y40 = 0
          · subst hz41
            rw [errV_zero] at HC38; replace HC38 := Lib.hid HC38
            go_wp2_with fail
            refine HC38.out.mono ?_; rintro e W42 ⟨V43, rfl, ho, hd⟩
            replace HOA := Lib.hid (HOA.out.call hd HD.out.size ho); clear ho
            replace HD := Lib.hid (HD.out.trans (hd.mono HD.out.size))
            clear hd
            obtain ⟨⟨y51, y52⟩, hy49, hm⟩ := obind HM.out
            dsimp only at hm
            replace HM := Lib.hid hm; clear hm
            have HC50 := common_Of_ok W42 cap1 (rdL HD.out HR1.out) hy49
            clear hy49
            by_cases hz53 : y52 = 0
            · subst hz53
              rw [errV_zero] at HC50; replace HC50 := Lib.hid HC50
              go_wp2_with fail
              refine HC50.out.mono ?_; rintro e W54 ⟨rfl, hd⟩
              replace HOA := Lib.hid (HOA.out.below hd)
              replace HD := Lib.hid (HD.out.trans (hd.mono HD.out.size))
              clear hd
              go_upto_region 11 with (fail)
              obtain ⟨b57, hb, hm⟩ := obind HM.out
              replace HM := Lib.hid hm; have HB58 := Lib.hid hb; clear hm hb
              go_cut [103] (fun uq wr => uq = .bool b57 ∧ Hid (Below W54.heap.size W54 wr))
              case first =>
                have HWC59 := Lib.hid (Below.refl W54.heap.size W54)
                obtain ⟨b60, hb, hm⟩ := obind HB58.out
                replace HB58 := Lib.hid hm; have HB61 := Lib.hid hb; clear hm hb
                obtain ⟨b62, hb, hm⟩ := obind HB61.out
                replace HB61 := Lib.hid hm; have HB63 := Lib.hid hb; clear hm hb
                obtain ⟨b64, hb, hm⟩ := obind HB63.out
                replace HB63 := Lib.hid hm; have HB65 := Lib.hid hb; clear hm hb
                obtain ⟨b66, hb, hm⟩ := obind HB65.out
                replace HB65 := Lib.hid hm; have HB67 := Lib.hid hb; clear hm hb
                obtain ⟨b68, hb, hm⟩ := obind HB67.out
                replace HB67 := Lib.hid hm; have HB69 := Lib.hid hb; clear hm hb
                replace HB69 := Lib.hid (ifF (by decide) HB69.out)
                replace HB69 := Lib.hid (ifF (by decide) HB69.out)
                obtain rfl := Option.some.inj HB69.out
                replace HB67 := Lib.hid (ifF (by first | exact Bool.false_ne_true | exact not_false) HB67.out)
                replace HB67 := Lib.hid (ifF (by decide) HB67.out)
                obtain rfl := Option.some.inj HB67.out
                replace HB65 := Lib.hid (ifF (by first | exact Bool.false_ne_true | exact not_false) HB65.out)
                replace HB65 := Lib.hid (ifF (by decide) HB65.out)
                obtain rfl := Option.some.inj HB65.out
                replace HB63 := Lib.hid (ifF (by first | exact Bool.false_ne_true | exact not_false) HB63.out)
                obtain ⟨A70, cap71, he, _⟩ := HP.open_I HOA.out (List.Mem.head _)
                subst he
                rcases Bool.eq_false_or_eq_true (((y39).length : Int) != v0) with hc72 | hc72
                · replace HB63 := Lib.hid (ifT hc72 HB63.out)
                  have HK73 := Lib.hid hc72
                  obtain rfl := Option.some.inj HB63.out
                  replace HB61 := Lib.hid (ifT (by first | rfl | trivial) HB61.out)
                  obtain rfl := Option.some.inj HB61.out
                  replace HB58 := Lib.hid (ifT (by first | rfl | trivial) HB58.out)
                  cases Option.some.inj HB58.out
                  try go_wp2_with fail
                  go_meet
                  case rel => exact ⟨rfl, HWC59⟩
                · replace HB63 := Lib.hid (ifF (bF hc72) HB63.out)
                  have HK73 := Lib.hid hc72
                  obtain rfl := Option.some.inj HB63.out
                  replace HB61 := Lib.hid (ifF (by first | exact Bool.false_ne_true | exact not_false) HB61.out)
                  obtain ⟨y76, hy74, hm⟩ := obind HB61.out
                  replace HB61 := Lib.hid hm; clear hm
                  have HC75 := L3_in_ok W54  hy74
                  clear hy74
                  replace HC75 := Lib.hid HC75
                  cases y76
                  · replace HB61 := Lib.hid (ifF Bool.false_ne_true HB61.out)
                    obtain rfl := Option.some.inj HB61.out
                    replace HB58 := Lib.hid (ifT (by first | rfl | trivial) HB58.out)
                    cases Option.some.inj HB58.out
                    go_wp2_with fail
                    refine HC75.out.mono ?_; rintro e w' ⟨rfl, rfl⟩
                    try go_wp2_with fail
                    go_meet
                    case rel => exact ⟨rfl, HWC59⟩
                  · replace HB61 := Lib.hid (ifT rfl HB61.out)
                    obtain rfl := Option.some.inj HB61.out
                    replace HB58 := Lib.hid (ifF (by first | exact Bool.false_ne_true | exact not_false) HB58.out)
                    obtain ⟨y79, hy77, hm⟩ := obind HB58.out
                    replace HB58 := Lib.hid hm; clear hm
                    have HC78 := L3_in_ok W54  hy77
                    clear hy77
                    replace HC78 := Lib.hid HC78
                    cases y79
                    · replace HB58 := Lib.hid (ifF Bool.false_ne_true HB58.out)
                      cases Option.some.inj HB58.out
                      go_wp2_with fail
                      refine HC75.out.mono ?_; rintro e w' ⟨rfl, rfl⟩
                      go_wp2_with fail
                      refine HC78.out.mono ?_; rintro e w' ⟨rfl, rfl⟩
                      try go_wp2_with fail
                      go_meet
                      case rel => exact ⟨rfl, HWC59⟩
                    · replace HB58 := Lib.hid (ifT rfl HB58.out)
                      cases Option.some.inj HB58.out
                      go_wp2_with fail
                      refine HC75.out.mono ?_; rintro e w' ⟨rfl, rfl⟩
                      go_wp2_with fail
                      refine HC78.out.mono ?_; rintro e w' ⟨rfl, rfl⟩
                      try go_wp2_with fail
                      go_meet
                      case rel => exact ⟨rfl, HWC59⟩
              case rest =>
                obtain ⟨rfl, HWC59⟩ := hcut
                rename World => W80
                have hd := HWC59.out
                replace HOA := Lib.hid (HOA.out.below hd)
                replace HD := Lib.hid (HD.out.trans (hd.mono HD.out.size))
                clear hd
                cases b57
                · replace HM := Lib.hid (ifF Bool.false_ne_true HM.out)
                  try clear HB58
                  try clear HB61
                  try clear HB63
                  try clear HB65
                  try clear HB67
                  try clear HB69
                  try clear HC14
                  try clear HC2
                  try clear HC26
                  try clear HC38
                  try clear HC50
                  try clear HC6
                  try clear HC75
                  try clear HC78
                  try clear HK73
                  try clear HWC59
                  go_upto_region 13 with (fail)
                  obtain ⟨Am, cm, he, _⟩ := HP.open_I HOA.out (List.Mem.tail _ (List.Mem.tail _ (List.Mem.head _))); subst he
                  obtain ⟨Ax, cx, he, _⟩ := HP.open_I HOA.out (List.Mem.tail _ (List.Mem.head _)); subst he
                  obtain ⟨Ad_, cd, he, _⟩ := HP.open_I HOA.out (List.Mem.head _); subst he
                  have HRm := Lib.hid ((HP.rd_I HOA.out (List.Mem.tail _ (List.Mem.tail _ (List.Mem.head _)))))
                  have HRx := Lib.hid ((HP.rd_I HOA.out (List.Mem.tail _ (List.Mem.head _))))
                  have HRd := Lib.hid ((HP.rd_I HOA.out (List.Mem.head _)))
                  obtain ⟨bq4, hq4, hm⟩ := obind HM.out
                  have hrr := Option.some.inj hm; clear hm
                  obtain ⟨bq3, hq3, hm4⟩ := obind hq4; clear hq4
                  obtain ⟨bq2, hq2, hm3⟩ := obind hq3; clear hq3
                  obtain ⟨bq1, hq1, hm2⟩ := obind hq2; clear hq2
                  have HC1 := Lib.hid (fun mm => R1_Has_ok (W80.drewN mm) cm (ReadsI.drewN' HRm.out mm) hq1); clear hq1
                  cases bq1
                  · have e2 : false = bq2 := Option.some.inj hm2
                    subst e2
                    have e3 : false = bq3 := Option.some.inj hm3
                    subst e3
                    have e4 : false = bq4 := Option.some.inj hm4
                    subst e4; subst hrr
                    clear hm2 hm3 hm4
                    go_quiet (first | (go_at_call 11; exact quiet_left (HC1.out _)))
                    go_wp2_with fail
                    go_ret
                    exact ⟨rfl, (HD.out.trans ((drN _ _).below _))⟩
                  · obtain ⟨tq, htq, hm5⟩ := obind hm2; clear hm2
                    obtain ⟨iq, hiq, hm6⟩ := obind hm5; clear hm5
                    have HC2 := Lib.hid (SE_Turned_ok (W80.drewN 1) cm (ReadsI.drewN' HRm.out 1) htq); clear htq
                    have HIQ := Lib.hid hiq; clear hiq
                    cases iq
                    · have e2 : false = bq2 := Option.some.inj hm6
                      subst e2
                      have e3 : false = bq3 := Option.some.inj hm3
                      subst e3
                      have e4 : false = bq4 := Option.some.inj hm4
                      subst e4; subst hrr
                      clear hm3 hm4 hm6
                      refine wp_region_any (by kernel_rfl) ?_
                      try (change wpAny _ _ _ _ _ _ _ (World.drew _))
                      refine rg_take 0 (some 104) (.slice Am (List.length y15) cm) rfl rfl (by kernel_rfl) (by kernel_rfl) (by kernel_rfl) (fun _ _ _ h => h) (by kernel_rfl) (fun _ => by kernel_rfl) ?_
                      refine rg_take 1 (some 105) (.int .i64 y7) rfl rfl (by kernel_rfl) (by kernel_rfl) (by kernel_rfl) (fun _ _ _ h => h) (by kernel_rfl) (fun _ => by kernel_rfl) ?_
                      refine wpAny_ready (rs := [2]) (by kernel_rfl) (by simp) ?_
                      refine AllReady.cons rfl (fun K hK => ?_) AllReady.nil
                      go_simp
                      go_at_call 11
                      refine (HC1.out 1).mono ?_
                      rintro e w' ⟨rfl, rfl⟩
                      try go_simp
                      refine hK _ _ ?_; clear hK K
                      refine rg_take 3 (some 107) (.bool true) rfl rfl (by kernel_rfl) (by kernel_rfl) (by kernel_rfl) (fun _ _ _ h => h) (by kernel_rfl) (fun _ => by kernel_rfl) ?_
                      refine rg_take 4 (some 108) (.slice Am (List.length y15) cm) rfl rfl (by kernel_rfl) (by kernel_rfl) (by kernel_rfl) (fun _ _ _ h => h) (by kernel_rfl) (fun _ => by kernel_rfl) ?_
                      refine rg_take 6 (some 110) (.slice Ax (List.length y27) cx) rfl rfl (by kernel_rfl) (by kernel_rfl) (by kernel_rfl) (fun _ _ _ h => h) (by kernel_rfl) (fun _ => by kernel_rfl) ?_
                      refine wpAny_ready (rs := [5]) (by kernel_rfl) (by simp) ?_
                      refine AllReady.cons rfl (fun K hK => ?_) AllReady.nil
                      go_simp
                      go_at_call 13
                      refine HC2.out.mono ?_
                      rintro e W1_ ⟨V1_, rfl, ho_, hd_⟩
                      obtain ⟨A1_, c1_, he_, hr_⟩ := own_readsI ho_
                      have he2_ : V1_ = .slice A1_ tq.length c1_ := he_
                      clear he_ ho_; subst he2_
                      have HRI_ := Lib.hid hr_; have HDI_ := Lib.hid hd_; clear hr_ hd_
                      try go_simp
                      refine hK _ _ ?_; clear hK K
                      refine wpAny_ready (rs := [7]) (by kernel_rfl) (by simp) ?_
                      refine AllReady.cons rfl (fun K hK => ?_) AllReady.nil
                      go_simp
                      go_at_call 12
                      refine (SE_Ints_ok W1_ c1_ HRI_.out cx (rdI HDI_.out (ReadsI.drewN' HRx.out 1)) HIQ.out).mono ?_
                      rintro e w'' ⟨rfl, hdr_⟩
                      have HDR_ := Lib.hid hdr_; clear hdr_
                      try go_simp
                      refine hK _ _ ?_; clear hK K
                      refine rg_take 8 (some 112) (.bool false) rfl rfl (by kernel_rfl) (by kernel_rfl) (by kernel_rfl) (fun _ _ _ h => h) (by kernel_rfl) (fun _ => by kernel_rfl) ?_
                      refine rg_take 9 (some 113) (.bool false) rfl rfl (by kernel_rfl) (by kernel_rfl) (by kernel_rfl) (fun _ _ _ h => h) (by kernel_rfl) (fun _ => by kernel_rfl) ?_
                      refine rg_skip 10 (some 114) rfl rfl (by kernel_rfl) (by kernel_rfl) (by kernel_rfl) (fun _ _ _ h => h) (by kernel_rfl) ?_
                      refine rg_skip 11 (some 115) rfl rfl (by kernel_rfl) (by kernel_rfl) (by kernel_rfl) (fun _ _ _ h => h) (by kernel_rfl) ?_
                      refine rg_skip 12 (some 116) rfl rfl (by kernel_rfl) (by kernel_rfl) (by kernel_rfl) (fun _ _ _ h => h) (by kernel_rfl) ?_
                      refine rg_skip 13 (some 117) rfl rfl (by kernel_rfl) (by kernel_rfl) (by kernel_rfl) (fun _ _ _ h => h) (by kernel_rfl) ?_
                      refine rg_skip 14 (some 118) rfl rfl (by kernel_rfl) (by kernel_rfl) (by kernel_rfl) (fun _ _ _ h => h) (by kernel_rfl) ?_
                      refine rg_skip 15 (some 119) rfl rfl (by kernel_rfl) (by kernel_rfl) (by kernel_rfl) (fun _ _ _ h => h) (by kernel_rfl) ?_
                      refine rg_skip 16 (some 120) rfl rfl (by kernel_rfl) (by kernel_rfl) (by kernel_rfl) (fun _ _ _ h => h) (by kernel_rfl) ?_
                      refine rg_skip 17 (some 121) rfl rfl (by kernel_rfl) (by kernel_rfl) (by kernel_rfl) (fun _ _ _ h => h) (by kernel_rfl) ?_
                      refine rg_skip 18 (some 122) rfl rfl (by kernel_rfl) (by kernel_rfl) (by kernel_rfl) (fun _ _ _ h => h) (by kernel_rfl) ?_
                      refine rg_skip 19 (some 123) rfl rfl (by kernel_rfl) (by kernel_rfl) (by kernel_rfl) (fun _ _ _ h => h) (by kernel_rfl) ?_
                      refine rg_skip 20 (some 124) rfl rfl (by kernel_rfl) (by kernel_rfl) (by kernel_rfl) (fun _ _ _ h => h) (by kernel_rfl) ?_
                      refine rg_skip 21 (some 125) rfl rfl (by kernel_rfl) (by kernel_rfl) (by kernel_rfl) (fun _ _ _ h => h) (by kernel_rfl) ?_
                      refine rg_skip 22 (some 126) rfl rfl (by kernel_rfl) (by kernel_rfl) (by kernel_rfl) (fun _ _ _ h => h) (by kernel_rfl) ?_
                      refine rg_take 23 (some 127) (.bool false) rfl rfl (by kernel_rfl) (by kernel_rfl) (by kernel_rfl) (fun _ _ _ h => h) (by kernel_rfl) (fun _ => by kernel_rfl) ?_
                      refine rg_take 24 (some 128) (.bool false) rfl rfl (by kernel_rfl) (by kernel_rfl) (by kernel_rfl) (fun _ _ _ h => h) (by kernel_rfl) (fun _ => by kernel_rfl) ?_
                      refine rg_skip 25 (some 129) rfl rfl (by kernel_rfl) (by kernel_rfl) (by kernel_rfl) (fun _ _ _ h => h) (by kernel_rfl) ?_
                      refine rg_skip 26 (some 130) rfl rfl (by kernel_rfl) (by kernel_rfl) (by kernel_rfl) (fun _ _ _ h => h) (by kernel_rfl) ?_
                      refine rg_skip 27 (some 131) rfl rfl (by kernel_rfl) (by kernel_rfl) (by kernel_rfl) (fun _ _ _ h => h) (by kernel_rfl) ?_
                      refine rg_take 28 (some 132) (.bool false) rfl rfl (by kernel_rfl) (by kernel_rfl) (by kernel_rfl) (fun _ _ _ h => h) (by kernel_rfl) (fun _ => by kernel_rfl) ?_
                      refine rg_take 29 (some 10) (.bool false) rfl rfl (by kernel_rfl) (by kernel_rfl) (by kernel_rfl) (fun _ _ _ h => h) (by kernel_rfl) (fun _ => by kernel_rfl) ?_
                      refine wpAny_done (by kernel_rfl) ?_ _
                      go_wp2_with fail
                      go_ret
                      exact ⟨by kernel_rfl, way_tail HD.out HDI_.out HDR_.out⟩
                    · have e2 : true = bq2 := Option.some.inj hm6
                      subst e2
                      clear hm6
                      replace hm3 := Lib.hid hm3
                      obtain ⟨y22, hy22, hm⟩ := obind hm3.out
                      obtain ⟨b22, o22, ea, _, fa1, fa2, fa3⟩ := ReadsI.ix HRd.out hy22
                      cases ea
                      clear hy22
                      obtain ⟨y23, hy23, hm⟩ := obind hm
                      obtain ⟨b23, o23, ea, _, fb1, fb2, fb3⟩ := ReadsI.ix HRd.out hy23
                      cases ea
                      clear hy23 hm3
                      have go : ∀ r0 : Bool, ((List.length y15 : Int) == wrap64 (wrap64 (y22 + y23) + 1)) = r0 → ((y51 == y7) = true → r0 = true → bq4 = true) → ((y51 == y7) = false → r0 = true → bq4 = false) → (r0 = false → bq4 = false) → True := fun _ _ _ _ _ => trivial
                      clear go
                      rcases Bool.eq_false_or_eq_true ((List.length y15 : Int) == wrap64 (wrap64 (y22 + y23) + 1)) with hc3 | hc3
                      · have e3 : true = bq3 := Option.some.inj (ifT hc3 hm)
                        subst e3
                        rcases Bool.eq_false_or_eq_true (y51 == y7) with hc4 | hc4
                        · have e4 : true = bq4 := Option.some.inj (ifT hc4 hm4)
                          subst e4; subst hrr
                          clear hm hm4
                          refine wp_region_any (by kernel_rfl) ?_
                          try (change wpAny _ _ _ _ _ _ _ (World.drew _))
                          refine rg_take 0 (some 104) (.slice Am (List.length y15) cm) rfl rfl (by kernel_rfl) (by kernel_rfl) (by kernel_rfl) (fun _ _ _ h => h) (by kernel_rfl) (fun _ => by kernel_rfl) ?_
                          refine rg_take 1 (some 105) (.int .i64 y7) rfl rfl (by kernel_rfl) (by kernel_rfl) (by kernel_rfl) (fun _ _ _ h => h) (by kernel_rfl) (fun _ => by kernel_rfl) ?_
                          refine wpAny_ready (rs := [2]) (by kernel_rfl) (by simp) ?_
                          refine AllReady.cons rfl (fun K hK => ?_) AllReady.nil
                          go_simp
                          go_at_call 11
                          refine (HC1.out 1).mono ?_
                          rintro e w' ⟨rfl, rfl⟩
                          try go_simp
                          refine hK _ _ ?_; clear hK K
                          refine rg_take 3 (some 107) (.bool true) rfl rfl (by kernel_rfl) (by kernel_rfl) (by kernel_rfl) (fun _ _ _ h => h) (by kernel_rfl) (fun _ => by kernel_rfl) ?_
                          refine rg_take 4 (some 108) (.slice Am (List.length y15) cm) rfl rfl (by kernel_rfl) (by kernel_rfl) (by kernel_rfl) (fun _ _ _ h => h) (by kernel_rfl) (fun _ => by kernel_rfl) ?_
                          refine rg_take 6 (some 110) (.slice Ax (List.length y27) cx) rfl rfl (by kernel_rfl) (by kernel_rfl) (by kernel_rfl) (fun _ _ _ h => h) (by kernel_rfl) (fun _ => by kernel_rfl) ?_
                          refine wpAny_ready (rs := [5]) (by kernel_rfl) (by simp) ?_
                          refine AllReady.cons rfl (fun K hK => ?_) AllReady.nil
                          go_simp
                          go_at_call 13
                          refine HC2.out.mono ?_
                          rintro e W1_ ⟨V1_, rfl, ho_, hd_⟩
                          obtain ⟨A1_, c1_, he_, hr_⟩ := own_readsI ho_
                          have he2_ : V1_ = .slice A1_ tq.length c1_ := he_
                          clear he_ ho_; subst he2_
                          have ga_ := cell_up hd_ fa3
                          have gb_ := cell_up hd_ fb3
                          have HRI_ := Lib.hid hr_; have HDI_ := Lib.hid hd_; clear hr_ hd_
                          try go_simp
                          refine hK _ _ ?_; clear hK K
                          refine wpAny_ready (rs := [7]) (by kernel_rfl) (by simp) ?_
                          refine AllReady.cons rfl (fun K hK => ?_) AllReady.nil
                          go_simp
                          go_at_call 12
                          refine (SE_Ints_ok W1_ c1_ HRI_.out cx (rdI HDI_.out (ReadsI.drewN' HRx.out 1)) HIQ.out).mono ?_
                          rintro e w'' ⟨rfl, hdr_⟩
                          have ga2_ := cell_dr hdr_ ga_
                          have gb2_ := cell_dr hdr_ gb_
                          have HDR_ := Lib.hid hdr_; clear hdr_
                          try go_simp
                          refine hK _ _ ?_; clear hK K
                          refine rg_take 8 (some 112) (.bool true) rfl rfl (by kernel_rfl) (by kernel_rfl) (by kernel_rfl) (fun _ _ _ h => h) (by kernel_rfl) (fun _ => by kernel_rfl) ?_
                          refine rg_take 9 (some 113) (.bool true) rfl rfl (by kernel_rfl) (by kernel_rfl) (by kernel_rfl) (fun _ _ _ h => h) (by kernel_rfl) (fun _ => by kernel_rfl) ?_
                          refine rg_take 10 (some 114) (.slice Am (List.length y15) cm) rfl rfl (by kernel_rfl) (by kernel_rfl) (by kernel_rfl) (fun _ _ _ h => h) (by kernel_rfl) (fun _ => by kernel_rfl) ?_
                          refine rg_take 11 (some 115) (.int .i64 (List.length y15 : Int)) rfl rfl (by kernel_rfl) (by kernel_rfl) (by kernel_rfl) (fun _ _ _ h => h) (by kernel_rfl) (fun _ => by kernel_rfl) ?_
                          refine rg_take 12 (some 116) (.slice (some ⟨b22, o22, none⟩) (List.length y39) cd) rfl rfl (by kernel_rfl) (by kernel_rfl) (by kernel_rfl) (fun _ _ _ h => h) (by kernel_rfl) (fun _ => by kernel_rfl) ?_
                          refine rg_take 13 (some 117) (.int .i64 v3) rfl rfl (by kernel_rfl) (by kernel_rfl) (by kernel_rfl) (fun _ _ _ h => h) (by kernel_rfl) (fun _ => by kernel_rfl) ?_
                          refine rg_take 14 (some 118) (.pointer (some ⟨b22, o22 + Int.toNat v3, none⟩)) rfl rfl (by kernel_rfl) (by kernel_rfl) (by kernel_rfl) (fun _ _ _ h => h) (by kernel_rfl) (fun _ => by first | (go_simp; done) | (go_simp; exact IntWalk.i64_left _)) ?_
                          refine rg_take 16 (some 120) (.slice (some ⟨b22, o22, none⟩) (List.length y39) cd) rfl rfl (by kernel_rfl) (by kernel_rfl) (by kernel_rfl) (fun _ _ _ h => h) (by kernel_rfl) (fun _ => by kernel_rfl) ?_
                          refine rg_take 17 (some 121) (.int .i64 v4) rfl rfl (by kernel_rfl) (by kernel_rfl) (by kernel_rfl) (fun _ _ _ h => h) (by kernel_rfl) (fun _ => by kernel_rfl) ?_
                          refine rg_take 18 (some 122) (.pointer (some ⟨b22, o22 + Int.toNat v4, none⟩)) rfl rfl (by kernel_rfl) (by kernel_rfl) (by kernel_rfl) (fun _ _ _ h => h) (by kernel_rfl) (fun _ => by first | (go_simp; done) | (go_simp; exact IntWalk.i64_left _)) ?_
                          refine wpAny_ready (rs := [15, 19]) (by kernel_rfl) (by simp) ?_
                          refine AllReady.cons rfl (fun K hK => ?_) ?_
                          · go_simp
                            refine hK _ _ ?_; clear hK K
                            refine wpAny_ready (rs := [19]) (by kernel_rfl) (by simp) ?_
                            refine AllReady.cons rfl (fun K hK => ?_) AllReady.nil
                            go_simp
                            refine hK _ _ ?_; clear hK K
                            refine rg_take 20 (some 124) (.int .i64 (wrap64 (y22 + y23))) rfl rfl (by kernel_rfl) (by kernel_rfl) (by kernel_rfl) (fun _ _ _ h => h) (by kernel_rfl) (fun _ => by first | (go_simp; done) | (go_simp; exact IntWalk.i64_left _)) ?_
                            refine rg_take 21 (some 125) (.int .i64 (wrap64 (wrap64 (y22 + y23) + 1))) rfl rfl (by kernel_rfl) (by kernel_rfl) (by kernel_rfl) (fun _ _ _ h => h) (by kernel_rfl) (fun _ => by first | (go_simp; done) | (go_simp; exact IntWalk.i64_left _)) ?_
                            refine rg_take 22 (some 126) (.bool true) rfl rfl (by kernel_rfl) (by kernel_rfl) (by kernel_rfl) (fun _ _ _ h => h) (by kernel_rfl) (fun _ => by first | (go_simp; done) | (go_simp; simp [hc3])) ?_
                            refine rg_take 23 (some 127) (.bool true) rfl rfl (by kernel_rfl) (by kernel_rfl) (by kernel_rfl) (fun _ _ _ h => h) (by kernel_rfl) (fun _ => by kernel_rfl) ?_
                            refine rg_take 24 (some 128) (.bool true) rfl rfl (by kernel_rfl) (by kernel_rfl) (by kernel_rfl) (fun _ _ _ h => h) (by kernel_rfl) (fun _ => by kernel_rfl) ?_
                            refine rg_take 25 (some 129) (.int .i64 y51) rfl rfl (by kernel_rfl) (by kernel_rfl) (by kernel_rfl) (fun _ _ _ h => h) (by kernel_rfl) (fun _ => by kernel_rfl) ?_
                            refine rg_take 26 (some 130) (.int .i64 y7) rfl rfl (by kernel_rfl) (by kernel_rfl) (by kernel_rfl) (fun _ _ _ h => h) (by kernel_rfl) (fun _ => by kernel_rfl) ?_
                            refine rg_take 27 (some 131) (.bool true) rfl rfl (by kernel_rfl) (by kernel_rfl) (by kernel_rfl) (fun _ _ _ h => h) (by kernel_rfl) (fun _ => by first | (go_simp; done) | (go_simp; simp [hc4])) ?_
                            refine rg_take 28 (some 132) (.bool true) rfl rfl (by kernel_rfl) (by kernel_rfl) (by kernel_rfl) (fun _ _ _ h => h) (by kernel_rfl) (fun _ => by kernel_rfl) ?_
                            refine rg_take 29 (some 10) (.bool true) rfl rfl (by kernel_rfl) (by kernel_rfl) (by kernel_rfl) (fun _ _ _ h => h) (by kernel_rfl) (fun _ => by kernel_rfl) ?_
                            refine wpAny_done (by kernel_rfl) ?_ _
                            go_wp2_with fail
                            go_ret
                            exact ⟨by kernel_rfl, way_tail HD.out HDI_.out HDR_.out⟩
                          refine AllReady.cons rfl (fun K hK => ?_) AllReady.nil
                          go_simp
                          refine hK _ _ ?_; clear hK K
                          refine wpAny_ready (rs := [15]) (by kernel_rfl) (by simp) ?_
                          refine AllReady.cons rfl (fun K hK => ?_) AllReady.nil
                          go_simp
                          refine hK _ _ ?_; clear hK K
                          refine rg_take 20 (some 124) (.int .i64 (wrap64 (y22 + y23))) rfl rfl (by kernel_rfl) (by kernel_rfl) (by kernel_rfl) (fun _ _ _ h => h) (by kernel_rfl) (fun _ => by first | (go_simp; done) | (go_simp; exact IntWalk.i64_left _)) ?_
                          refine rg_take 21 (some 125) (.int .i64 (wrap64 (wrap64 (y22 + y23) + 1))) rfl rfl (by kernel_rfl) (by kernel_rfl) (by kernel_rfl) (fun _ _ _ h => h) (by kernel_rfl) (fun _ => by first | (go_simp; done) | (go_simp; exact IntWalk.i64_left _)) ?_
                          refine rg_take 22 (some 126) (.bool true) rfl rfl (by kernel_rfl) (by kernel_rfl) (by kernel_rfl) (fun _ _ _ h => h) (by kernel_rfl) (fun _ => by first | (go_simp; done) | (go_simp; simp [hc3])) ?_
                          refine rg_take 23 (some 127) (.bool true) rfl rfl (by kernel_rfl) (by kernel_rfl) (by kernel_rfl) (fun _ _ _ h => h) (by kernel_rfl) (fun _ => by kernel_rfl) ?_
                          refine rg_take 24 (some 128) (.bool true) rfl rfl (by kernel_rfl) (by kernel_rfl) (by kernel_rfl) (fun _ _ _ h => h) (by kernel_rfl) (fun _ => by kernel_rfl) ?_
                          refine rg_take 25 (some 129) (.int .i64 y51) rfl rfl (by kernel_rfl) (by kernel_rfl) (by kernel_rfl) (fun _ _ _ h => h) (by kernel_rfl) (fun _ => by kernel_rfl) ?_
                          refine rg_take 26 (some 130) (.int .i64 y7) rfl rfl (by kernel_rfl) (by kernel_rfl) (by kernel_rfl) (fun _ _ _ h => h) (by kernel_rfl) (fun _ => by kernel_rfl) ?_
                          refine rg_take 27 (some 131) (.bool true) rfl rfl (by kernel_rfl) (by kernel_rfl) (by kernel_rfl) (fun _ _ _ h => h) (by kernel_rfl) (fun _ => by first | (go_simp; done) | (go_simp; simp [hc4])) ?_
                          refine rg_take 28 (some 132) (.bool true) rfl rfl (by kernel_rfl) (by kernel_rfl) (by kernel_rfl) (fun _ _ _ h => h) (by kernel_rfl) (fun _ => by kernel_rfl) ?_
                          refine rg_take 29 (some 10) (.bool true) rfl rfl (by kernel_rfl) (by kernel_rfl) (by kernel_rfl) (fun _ _ _ h => h) (by kernel_rfl) (fun _ => by kernel_rfl) ?_
                          refine wpAny_done (by kernel_rfl) ?_ _
                          go_wp2_with fail
                          go_ret
                          exact ⟨by kernel_rfl, way_tail HD.out HDI_.out HDR_.out⟩
                        · have e4 : false = bq4 := Option.some.inj (ifF (bF hc4) hm4)
                          subst e4; subst hrr
                          clear hm hm4
                          refine wp_region_any (by kernel_rfl) ?_
                          try (change wpAny _ _ _ _ _ _ _ (World.drew _))
                          refine rg_take 0 (some 104) (.slice Am (List.length y15) cm) rfl rfl (by kernel_rfl) (by kernel_rfl) (by kernel_rfl) (fun _ _ _ h => h) (by kernel_rfl) (fun _ => by kernel_rfl) ?_
                          refine rg_take 1 (some 105) (.int .i64 y7) rfl rfl (by kernel_rfl) (by kernel_rfl) (by kernel_rfl) (fun _ _ _ h => h) (by kernel_rfl) (fun _ => by kernel_rfl) ?_
                          refine wpAny_ready (rs := [2]) (by kernel_rfl) (by simp) ?_
                          refine AllReady.cons rfl (fun K hK => ?_) AllReady.nil
                          go_simp
                          go_at_call 11
                          refine (HC1.out 1).mono ?_
                          rintro e w' ⟨rfl, rfl⟩
                          try go_simp
                          refine hK _ _ ?_; clear hK K
                          refine rg_take 3 (some 107) (.bool true) rfl rfl (by kernel_rfl) (by kernel_rfl) (by kernel_rfl) (fun _ _ _ h => h) (by kernel_rfl) (fun _ => by kernel_rfl) ?_
                          refine rg_take 4 (some 108) (.slice Am (List.length y15) cm) rfl rfl (by kernel_rfl) (by kernel_rfl) (by kernel_rfl) (fun _ _ _ h => h) (by kernel_rfl) (fun _ => by kernel_rfl) ?_
                          refine rg_take 6 (some 110) (.slice Ax (List.length y27) cx) rfl rfl (by kernel_rfl) (by kernel_rfl) (by kernel_rfl) (fun _ _ _ h => h) (by kernel_rfl) (fun _ => by kernel_rfl) ?_
                          refine wpAny_ready (rs := [5]) (by kernel_rfl) (by simp) ?_
                          refine AllReady.cons rfl (fun K hK => ?_) AllReady.nil
                          go_simp
                          go_at_call 13
                          refine HC2.out.mono ?_
                          rintro e W1_ ⟨V1_, rfl, ho_, hd_⟩
                          obtain ⟨A1_, c1_, he_, hr_⟩ := own_readsI ho_
                          have he2_ : V1_ = .slice A1_ tq.length c1_ := he_
                          clear he_ ho_; subst he2_
                          have ga_ := cell_up hd_ fa3
                          have gb_ := cell_up hd_ fb3
                          have HRI_ := Lib.hid hr_; have HDI_ := Lib.hid hd_; clear hr_ hd_
                          try go_simp
                          refine hK _ _ ?_; clear hK K
                          refine wpAny_ready (rs := [7]) (by kernel_rfl) (by simp) ?_
                          refine AllReady.cons rfl (fun K hK => ?_) AllReady.nil
                          go_simp
                          go_at_call 12
                          refine (SE_Ints_ok W1_ c1_ HRI_.out cx (rdI HDI_.out (ReadsI.drewN' HRx.out 1)) HIQ.out).mono ?_
                          rintro e w'' ⟨rfl, hdr_⟩
                          have ga2_ := cell_dr hdr_ ga_
                          have gb2_ := cell_dr hdr_ gb_
                          have HDR_ := Lib.hid hdr_; clear hdr_
                          try go_simp
                          refine hK _ _ ?_; clear hK K
                          refine rg_take 8 (some 112) (.bool true) rfl rfl (by kernel_rfl) (by kernel_rfl) (by kernel_rfl) (fun _ _ _ h => h) (by kernel_rfl) (fun _ => by kernel_rfl) ?_
                          refine rg_take 9 (some 113) (.bool true) rfl rfl (by kernel_rfl) (by kernel_rfl) (by kernel_rfl) (fun _ _ _ h => h) (by kernel_rfl) (fun _ => by kernel_rfl) ?_
                          refine rg_take 10 (some 114) (.slice Am (List.length y15) cm) rfl rfl (by kernel_rfl) (by kernel_rfl) (by kernel_rfl) (fun _ _ _ h => h) (by kernel_rfl) (fun _ => by kernel_rfl) ?_
                          refine rg_take 11 (some 115) (.int .i64 (List.length y15 : Int)) rfl rfl (by kernel_rfl) (by kernel_rfl) (by kernel_rfl) (fun _ _ _ h => h) (by kernel_rfl) (fun _ => by kernel_rfl) ?_
                          refine rg_take 12 (some 116) (.slice (some ⟨b22, o22, none⟩) (List.length y39) cd) rfl rfl (by kernel_rfl) (by kernel_rfl) (by kernel_rfl) (fun _ _ _ h => h) (by kernel_rfl) (fun _ => by kernel_rfl) ?_
                          refine rg_take 13 (some 117) (.int .i64 v3) rfl rfl (by kernel_rfl) (by kernel_rfl) (by kernel_rfl) (fun _ _ _ h => h) (by kernel_rfl) (fun _ => by kernel_rfl) ?_
                          refine rg_take 14 (some 118) (.pointer (some ⟨b22, o22 + Int.toNat v3, none⟩)) rfl rfl (by kernel_rfl) (by kernel_rfl) (by kernel_rfl) (fun _ _ _ h => h) (by kernel_rfl) (fun _ => by first | (go_simp; done) | (go_simp; exact IntWalk.i64_left _)) ?_
                          refine rg_take 16 (some 120) (.slice (some ⟨b22, o22, none⟩) (List.length y39) cd) rfl rfl (by kernel_rfl) (by kernel_rfl) (by kernel_rfl) (fun _ _ _ h => h) (by kernel_rfl) (fun _ => by kernel_rfl) ?_
                          refine rg_take 17 (some 121) (.int .i64 v4) rfl rfl (by kernel_rfl) (by kernel_rfl) (by kernel_rfl) (fun _ _ _ h => h) (by kernel_rfl) (fun _ => by kernel_rfl) ?_
                          refine rg_take 18 (some 122) (.pointer (some ⟨b22, o22 + Int.toNat v4, none⟩)) rfl rfl (by kernel_rfl) (by kernel_rfl) (by kernel_rfl) (fun _ _ _ h => h) (by kernel_rfl) (fun _ => by first | (go_simp; done) | (go_simp; exact IntWalk.i64_left _)) ?_
                          refine wpAny_ready (rs := [15, 19]) (by kernel_rfl) (by simp) ?_
                          refine AllReady.cons rfl (fun K hK => ?_) ?_
                          · go_simp
                            refine hK _ _ ?_; clear hK K
                            refine wpAny_ready (rs := [19]) (by kernel_rfl) (by simp) ?_
                            refine AllReady.cons rfl (fun K hK => ?_) AllReady.nil
                            go_simp
                            refine hK _ _ ?_; clear hK K
                            refine rg_take 20 (some 124) (.int .i64 (wrap64 (y22 + y23))) rfl rfl (by kernel_rfl) (by kernel_rfl) (by kernel_rfl) (fun _ _ _ h => h) (by kernel_rfl) (fun _ => by first | (go_simp; done) | (go_simp; exact IntWalk.i64_left _)) ?_
                            refine rg_take 21 (some 125) (.int .i64 (wrap64 (wrap64 (y22 + y23) + 1))) rfl rfl (by kernel_rfl) (by kernel_rfl) (by kernel_rfl) (fun _ _ _ h => h) (by kernel_rfl) (fun _ => by first | (go_simp; done) | (go_simp; exact IntWalk.i64_left _)) ?_
                            refine rg_take 22 (some 126) (.bool true) rfl rfl (by kernel_rfl) (by kernel_rfl) (by kernel_rfl) (fun _ _ _ h => h) (by kernel_rfl) (fun _ => by first | (go_simp; done) | (go_simp; simp [hc3])) ?_
                            refine rg_take 23 (some 127) (.bool true) rfl rfl (by kernel_rfl) (by kernel_rfl) (by kernel_rfl) (fun _ _ _ h => h) (by kernel_rfl) (fun _ => by kernel_rfl) ?_
                            refine rg_take 24 (some 128) (.bool true) rfl rfl (by kernel_rfl) (by kernel_rfl) (by kernel_rfl) (fun _ _ _ h => h) (by kernel_rfl) (fun _ => by kernel_rfl) ?_
                            refine rg_take 25 (some 129) (.int .i64 y51) rfl rfl (by kernel_rfl) (by kernel_rfl) (by kernel_rfl) (fun _ _ _ h => h) (by kernel_rfl) (fun _ => by kernel_rfl) ?_
                            refine rg_take 26 (some 130) (.int .i64 y7) rfl rfl (by kernel_rfl) (by kernel_rfl) (by kernel_rfl) (fun _ _ _ h => h) (by kernel_rfl) (fun _ => by kernel_rfl) ?_
                            refine rg_take 27 (some 131) (.bool false) rfl rfl (by kernel_rfl) (by kernel_rfl) (by kernel_rfl) (fun _ _ _ h => h) (by kernel_rfl) (fun _ => by first | (go_simp; done) | (go_simp; simp [hc4])) ?_
                            refine rg_take 28 (some 132) (.bool false) rfl rfl (by kernel_rfl) (by kernel_rfl) (by kernel_rfl) (fun _ _ _ h => h) (by kernel_rfl) (fun _ => by kernel_rfl) ?_
                            refine rg_take 29 (some 10) (.bool false) rfl rfl (by kernel_rfl) (by kernel_rfl) (by kernel_rfl) (fun _ _ _ h => h) (by kernel_rfl) (fun _ => by kernel_rfl) ?_
                            refine wpAny_done (by kernel_rfl) ?_ _
                            go_wp2_with fail
                            go_ret
                            exact ⟨by kernel_rfl, way_tail HD.out HDI_.out HDR_.out⟩
                          refine AllReady.cons rfl (fun K hK => ?_) AllReady.nil
                          go_simp
                          refine hK _ _ ?_; clear hK K
                          refine wpAny_ready (rs := [15]) (by kernel_rfl) (by simp) ?_
                          refine AllReady.cons rfl (fun K hK => ?_) AllReady.nil
                          go_simp
                          refine hK _ _ ?_; clear hK K
                          refine rg_take 20 (some 124) (.int .i64 (wrap64 (y22 + y23))) rfl rfl (by kernel_rfl) (by kernel_rfl) (by kernel_rfl) (fun _ _ _ h => h) (by kernel_rfl) (fun _ => by first | (go_simp; done) | (go_simp; exact IntWalk.i64_left _)) ?_
                          refine rg_take 21 (some 125) (.int .i64 (wrap64 (wrap64 (y22 + y23) + 1))) rfl rfl (by kernel_rfl) (by kernel_rfl) (by kernel_rfl) (fun _ _ _ h => h) (by kernel_rfl) (fun _ => by first | (go_simp; done) | (go_simp; exact IntWalk.i64_left _)) ?_
                          refine rg_take 22 (some 126) (.bool true) rfl rfl (by kernel_rfl) (by kernel_rfl) (by kernel_rfl) (fun _ _ _ h => h) (by kernel_rfl) (fun _ => by first | (go_simp; done) | (go_simp; simp [hc3])) ?_
                          refine rg_take 23 (some 127) (.bool true) rfl rfl (by kernel_rfl) (by kernel_rfl) (by kernel_rfl) (fun _ _ _ h => h) (by kernel_rfl) (fun _ => by kernel_rfl) ?_
                          refine rg_take 24 (some 128) (.bool true) rfl rfl (by kernel_rfl) (by kernel_rfl) (by kernel_rfl) (fun _ _ _ h => h) (by kernel_rfl) (fun _ => by kernel_rfl) ?_
                          refine rg_take 25 (some 129) (.int .i64 y51) rfl rfl (by kernel_rfl) (by kernel_rfl) (by kernel_rfl) (fun _ _ _ h => h) (by kernel_rfl) (fun _ => by kernel_rfl) ?_
                          refine rg_take 26 (some 130) (.int .i64 y7) rfl rfl (by kernel_rfl) (by kernel_rfl) (by kernel_rfl) (fun _ _ _ h => h) (by kernel_rfl) (fun _ => by kernel_rfl) ?_
                          refine rg_take 27 (some 131) (.bool false) rfl rfl (by kernel_rfl) (by kernel_rfl) (by kernel_rfl) (fun _ _ _ h => h) (by kernel_rfl) (fun _ => by first | (go_simp; done) | (go_simp; simp [hc4])) ?_
                          refine rg_take 28 (some 132) (.bool false) rfl rfl (by kernel_rfl) (by kernel_rfl) (by kernel_rfl) (fun _ _ _ h => h) (by kernel_rfl) (fun _ => by kernel_rfl) ?_
                          refine rg_take 29 (some 10) (.bool false) rfl rfl (by kernel_rfl) (by kernel_rfl) (by kernel_rfl) (fun _ _ _ h => h) (by kernel_rfl) (fun _ => by kernel_rfl) ?_
                          refine wpAny_done (by kernel_rfl) ?_ _
                          go_wp2_with fail
                          go_ret
                          exact ⟨by kernel_rfl, way_tail HD.out HDI_.out HDR_.out⟩
                      · have e3 : false = bq3 := Option.some.inj (ifF (bF hc3) hm)
                        subst e3
                        have e4 : false = bq4 := Option.some.inj hm4
                        subst e4; subst hrr
                        clear hm hm4
                        refine wp_region_any (by kernel_rfl) ?_
                        try (change wpAny _ _ _ _ _ _ _ (World.drew _))
                        refine rg_take 0 (some 104) (.slice Am (List.length y15) cm) rfl rfl (by kernel_rfl) (by kernel_rfl) (by kernel_rfl) (fun _ _ _ h => h) (by kernel_rfl) (fun _ => by kernel_rfl) ?_
                        refine rg_take 1 (some 105) (.int .i64 y7) rfl rfl (by kernel_rfl) (by kernel_rfl) (by kernel_rfl) (fun _ _ _ h => h) (by kernel_rfl) (fun _ => by kernel_rfl) ?_
                        refine wpAny_ready (rs := [2]) (by kernel_rfl) (by simp) ?_
                        refine AllReady.cons rfl (fun K hK => ?_) AllReady.nil
                        go_simp
                        go_at_call 11
                        refine (HC1.out 1).mono ?_
                        rintro e w' ⟨rfl, rfl⟩
                        try go_simp
                        refine hK _ _ ?_; clear hK K
                        refine rg_take 3 (some 107) (.bool true) rfl rfl (by kernel_rfl) (by kernel_rfl) (by kernel_rfl) (fun _ _ _ h => h) (by kernel_rfl) (fun _ => by kernel_rfl) ?_
                        refine rg_take 4 (some 108) (.slice Am (List.length y15) cm) rfl rfl (by kernel_rfl) (by kernel_rfl) (by kernel_rfl) (fun _ _ _ h => h) (by kernel_rfl) (fun _ => by kernel_rfl) ?_
                        refine rg_take 6 (some 110) (.slice Ax (List.length y27) cx) rfl rfl (by kernel_rfl) (by kernel_rfl) (by kernel_rfl) (fun _ _ _ h => h) (by kernel_rfl) (fun _ => by kernel_rfl) ?_
                        refine wpAny_ready (rs := [5]) (by kernel_rfl) (by simp) ?_
                        refine AllReady.cons rfl (fun K hK => ?_) AllReady.nil
                        go_simp
                        go_at_call 13
                        refine HC2.out.mono ?_
                        rintro e W1_ ⟨V1_, rfl, ho_, hd_⟩
                        obtain ⟨A1_, c1_, he_, hr_⟩ := own_readsI ho_
                        have he2_ : V1_ = .slice A1_ tq.length c1_ := he_
                        clear he_ ho_; subst he2_
                        have ga_ := cell_up hd_ fa3
                        have gb_ := cell_up hd_ fb3
                        have HRI_ := Lib.hid hr_; have HDI_ := Lib.hid hd_; clear hr_ hd_
                        try go_simp
                        refine hK _ _ ?_; clear hK K
                        refine wpAny_ready (rs := [7]) (by kernel_rfl) (by simp) ?_
                        refine AllReady.cons rfl (fun K hK => ?_) AllReady.nil
                        go_simp
                        go_at_call 12
                        refine (SE_Ints_ok W1_ c1_ HRI_.out cx (rdI HDI_.out (ReadsI.drewN' HRx.out 1)) HIQ.out).mono ?_
                        rintro e w'' ⟨rfl, hdr_⟩
                        have ga2_ := cell_dr hdr_ ga_
                        have gb2_ := cell_dr hdr_ gb_
                        have HDR_ := Lib.hid hdr_; clear hdr_
                        try go_simp
                        refine hK _ _ ?_; clear hK K
                        refine rg_take 8 (some 112) (.bool true) rfl rfl (by kernel_rfl) (by kernel_rfl) (by kernel_rfl) (fun _ _ _ h => h) (by kernel_rfl) (fun _ => by kernel_rfl) ?_
                        refine rg_take 9 (some 113) (.bool true) rfl rfl (by kernel_rfl) (by kernel_rfl) (by kernel_rfl) (fun _ _ _ h => h) (by kernel_rfl) (fun _ => by kernel_rfl) ?_
                        refine rg_take 10 (some 114) (.slice Am (List.length y15) cm) rfl rfl (by kernel_rfl) (by kernel_rfl) (by kernel_rfl) (fun _ _ _ h => h) (by kernel_rfl) (fun _ => by kernel_rfl) ?_
                        refine rg_take 11 (some 115) (.int .i64 (List.length y15 : Int)) rfl rfl (by kernel_rfl) (by kernel_rfl) (by kernel_rfl) (fun _ _ _ h => h) (by kernel_rfl) (fun _ => by kernel_rfl) ?_
                        refine rg_take 12 (some 116) (.slice (some ⟨b22, o22, none⟩) (List.length y39) cd) rfl rfl (by kernel_rfl) (by kernel_rfl) (by kernel_rfl) (fun _ _ _ h => h) (by kernel_rfl) (fun _ => by kernel_rfl) ?_
                        refine rg_take 13 (some 117) (.int .i64 v3) rfl rfl (by kernel_rfl) (by kernel_rfl) (by kernel_rfl) (fun _ _ _ h => h) (by kernel_rfl) (fun _ => by kernel_rfl) ?_
                        refine rg_take 14 (some 118) (.pointer (some ⟨b22, o22 + Int.toNat v3, none⟩)) rfl rfl (by kernel_rfl) (by kernel_rfl) (by kernel_rfl) (fun _ _ _ h => h) (by kernel_rfl) (fun _ => by first | (go_simp; done) | (go_simp; exact IntWalk.i64_left _)) ?_
                        refine rg_take 16 (some 120) (.slice (some ⟨b22, o22, none⟩) (List.length y39) cd) rfl rfl (by kernel_rfl) (by kernel_rfl) (by kernel_rfl) (fun _ _ _ h => h) (by kernel_rfl) (fun _ => by kernel_rfl) ?_
                        refine rg_take 17 (some 121) (.int .i64 v4) rfl rfl (by kernel_rfl) (by kernel_rfl) (by kernel_rfl) (fun _ _ _ h => h) (by kernel_rfl) (fun _ => by kernel_rfl) ?_
                        refine rg_take 18 (some 122) (.pointer (some ⟨b22, o22 + Int.toNat v4, none⟩)) rfl rfl (by kernel_rfl) (by kernel_rfl) (by kernel_rfl) (fun _ _ _ h => h) (by kernel_rfl) (fun _ => by first | (go_simp; done) | (go_simp; exact IntWalk.i64_left _)) ?_
                        refine wpAny_ready (rs := [15, 19]) (by kernel_rfl) (by simp) ?_
                        refine AllReady.cons rfl (fun K hK => ?_) ?_
                        · go_simp
                          refine hK _ _ ?_; clear hK K
                          refine wpAny_ready (rs := [19]) (by kernel_rfl) (by simp) ?_
                          refine AllReady.cons rfl (fun K hK => ?_) AllReady.nil
                          go_simp
                          refine hK _ _ ?_; clear hK K
                          refine rg_take 20 (some 124) (.int .i64 (wrap64 (y22 + y23))) rfl rfl (by kernel_rfl) (by kernel_rfl) (by kernel_rfl) (fun _ _ _ h => h) (by kernel_rfl) (fun _ => by first | (go_simp; done) | (go_simp; exact IntWalk.i64_left _)) ?_
                          refine rg_take 21 (some 125) (.int .i64 (wrap64 (wrap64 (y22 + y23) + 1))) rfl rfl (by kernel_rfl) (by kernel_rfl) (by kernel_rfl) (fun _ _ _ h => h) (by kernel_rfl) (fun _ => by first | (go_simp; done) | (go_simp; exact IntWalk.i64_left _)) ?_
                          refine rg_take 22 (some 126) (.bool false) rfl rfl (by kernel_rfl) (by kernel_rfl) (by kernel_rfl) (fun _ _ _ h => h) (by kernel_rfl) (fun _ => by first | (go_simp; done) | (go_simp; simp [hc3])) ?_
                          refine rg_take 23 (some 127) (.bool false) rfl rfl (by kernel_rfl) (by kernel_rfl) (by kernel_rfl) (fun _ _ _ h => h) (by kernel_rfl) (fun _ => by kernel_rfl) ?_
                          refine rg_take 24 (some 128) (.bool false) rfl rfl (by kernel_rfl) (by kernel_rfl) (by kernel_rfl) (fun _ _ _ h => h) (by kernel_rfl) (fun _ => by kernel_rfl) ?_
                          refine rg_skip 25 (some 129) rfl rfl (by kernel_rfl) (by kernel_rfl) (by kernel_rfl) (fun _ _ _ h => h) (by kernel_rfl) ?_
                          refine rg_skip 26 (some 130) rfl rfl (by kernel_rfl) (by kernel_rfl) (by kernel_rfl) (fun _ _ _ h => h) (by kernel_rfl) ?_
                          refine rg_skip 27 (some 131) rfl rfl (by kernel_rfl) (by kernel_rfl) (by kernel_rfl) (fun _ _ _ h => h) (by kernel_rfl) ?_
                          refine rg_take 28 (some 132) (.bool false) rfl rfl (by kernel_rfl) (by kernel_rfl) (by kernel_rfl) (fun _ _ _ h => h) (by kernel_rfl) (fun _ => by kernel_rfl) ?_
                          refine rg_take 29 (some 10) (.bool false) rfl rfl (by kernel_rfl) (by kernel_rfl) (by kernel_rfl) (fun _ _ _ h => h) (by kernel_rfl) (fun _ => by kernel_rfl) ?_
                          refine wpAny_done (by kernel_rfl) ?_ _
                          go_wp2_with fail
                          go_ret
                          exact ⟨by kernel_rfl, way_tail HD.out HDI_.out HDR_.out⟩
                        refine AllReady.cons rfl (fun K hK => ?_) AllReady.nil
                        go_simp
                        refine hK _ _ ?_; clear hK K
                        refine wpAny_ready (rs := [15]) (by kernel_rfl) (by simp) ?_
                        refine AllReady.cons rfl (fun K hK => ?_) AllReady.nil
                        go_simp
                        refine hK _ _ ?_; clear hK K
                        refine rg_take 20 (some 124) (.int .i64 (wrap64 (y22 + y23))) rfl rfl (by kernel_rfl) (by kernel_rfl) (by kernel_rfl) (fun _ _ _ h => h) (by kernel_rfl) (fun _ => by first | (go_simp; done) | (go_simp; exact IntWalk.i64_left _)) ?_
                        refine rg_take 21 (some 125) (.int .i64 (wrap64 (wrap64 (y22 + y23) + 1))) rfl rfl (by kernel_rfl) (by kernel_rfl) (by kernel_rfl) (fun _ _ _ h => h) (by kernel_rfl) (fun _ => by first | (go_simp; done) | (go_simp; exact IntWalk.i64_left _)) ?_
                        refine rg_take 22 (some 126) (.bool false) rfl rfl (by kernel_rfl) (by kernel_rfl) (by kernel_rfl) (fun _ _ _ h => h) (by kernel_rfl) (fun _ => by first | (go_simp; done) | (go_simp; simp [hc3])) ?_
                        refine rg_take 23 (some 127) (.bool false) rfl rfl (by kernel_rfl) (by kernel_rfl) (by kernel_rfl) (fun _ _ _ h => h) (by kernel_rfl) (fun _ => by kernel_rfl) ?_
                        refine rg_take 24 (some 128) (.bool false) rfl rfl (by kernel_rfl) (by kernel_rfl) (by kernel_rfl) (fun _ _ _ h => h) (by kernel_rfl) (fun _ => by kernel_rfl) ?_
                        refine rg_skip 25 (some 129) rfl rfl (by kernel_rfl) (by kernel_rfl) (by kernel_rfl) (fun _ _ _ h => h) (by kernel_rfl) ?_
                        refine rg_skip 26 (some 130) rfl rfl (by kernel_rfl) (by kernel_rfl) (by kernel_rfl) (fun _ _ _ h => h) (by kernel_rfl) ?_
                        refine rg_skip 27 (some 131) rfl rfl (by kernel_rfl) (by kernel_rfl) (by kernel_rfl) (fun _ _ _ h => h) (by kernel_rfl) ?_
                        refine rg_take 28 (some 132) (.bool false) rfl rfl (by kernel_rfl) (by kernel_rfl) (by kernel_rfl) (fun _ _ _ h => h) (by kernel_rfl) (fun _ => by kernel_rfl) ?_
                        refine rg_take 29 (some 10) (.bool false) rfl rfl (by kernel_rfl) (by kernel_rfl) (by kernel_rfl) (fun _ _ _ h => h) (by kernel_rfl) (fun _ => by kernel_rfl) ?_
                        refine wpAny_done (by kernel_rfl) ?_ _
                        go_wp2_with fail
                        go_ret
                        exact ⟨by kernel_rfl, way_tail HD.out HDI_.out HDR_.out⟩
                · replace HM := Lib.hid (ifT rfl HM.out)
                  obtain rfl := Option.some.inj HM.out
                  go_wp2_with fail
                  go_ret
                  exact ⟨rfl, HD.out⟩
            · rw [errV_pos _ hz53] at HC50; replace HC50 := Lib.hid HC50
              go_wp2_with fail
              refine HC50.out.mono ?_; rintro e W55 ⟨rfl, hd⟩
              replace HOA := Lib.hid (HOA.out.below hd)
              replace HD := Lib.hid (HD.out.trans (hd.mono HD.out.size))
              clear hd
              have HZ56 := Lib.hid hz53; clear hz53
              go_upto_region 11 with (fail)
              obtain ⟨b81, hb, hm⟩ := obind HM.out
              replace HM := Lib.hid hm; have HB82 := Lib.hid hb; clear hm hb
              go_cut [103] (fun uq wr => uq = .bool b81 ∧ Hid (Below W55.heap.size W55 wr))
              case first =>
                have HWC83 := Lib.hid (Below.refl W55.heap.size W55)
                obtain ⟨b84, hb, hm⟩ := obind HB82.out
                replace HB82 := Lib.hid hm; have HB85 := Lib.hid hb; clear hm hb
                obtain ⟨b86, hb, hm⟩ := obind HB85.out
                replace HB85 := Lib.hid hm; have HB87 := Lib.hid hb; clear hm hb
                obtain ⟨b88, hb, hm⟩ := obind HB87.out
                replace HB87 := Lib.hid hm; have HB89 := Lib.hid hb; clear hm hb
                obtain ⟨b90, hb, hm⟩ := obind HB89.out
                replace HB89 := Lib.hid hm; have HB91 := Lib.hid hb; clear hm hb
                obtain ⟨b92, hb, hm⟩ := obind HB91.out
                replace HB91 := Lib.hid hm; have HB93 := Lib.hid hb; clear hm hb
                replace HB93 := Lib.hid (ifF (by decide) HB93.out)
                replace HB93 := Lib.hid (ifF (by decide) HB93.out)
                obtain rfl := Option.some.inj HB93.out
                replace HB91 := Lib.hid (ifF (by first | exact Bool.false_ne_true | exact not_false) HB91.out)
                replace HB91 := Lib.hid (ifF (by decide) HB91.out)
                obtain rfl := Option.some.inj HB91.out
                replace HB89 := Lib.hid (ifF (by first | exact Bool.false_ne_true | exact not_false) HB89.out)
                replace HB89 := Lib.hid (ifT (bne_iff_ne.2 HZ56.out) HB89.out)
                obtain rfl := Option.some.inj HB89.out
                replace HB87 := Lib.hid (ifT (by first | rfl | trivial) HB87.out)
                obtain rfl := Option.some.inj HB87.out
                replace HB85 := Lib.hid (ifT (by first | rfl | trivial) HB85.out)
                obtain rfl := Option.some.inj HB85.out
                replace HB82 := Lib.hid (ifT (by first | rfl | trivial) HB82.out)
                cases Option.some.inj HB82.out
                try go_wp2_with fail
                go_meet
                case rel => exact ⟨rfl, HWC83⟩
              case rest =>
                obtain ⟨rfl, HWC83⟩ := hcut
                rename World => W94
                have hd := HWC83.out
                replace HOA := Lib.hid (HOA.out.below hd)
                replace HD := Lib.hid (HD.out.trans (hd.mono HD.out.size))
                clear hd
                cases b81
                · replace HM := Lib.hid (ifF Bool.false_ne_true HM.out)
                  exfalso; have q := HB82.out; clear HD HOA
                  simp [HZ56.out] at q
                · replace HM := Lib.hid (ifT rfl HM.out)
                  obtain rfl := Option.some.inj HM.out
                  go_wp2_with fail
                  go_ret
                  exact ⟨rfl, HD.out⟩
          · rw [errV_pos _ hz41] at HC38; replace HC38 := Lib.hid HC38
            go_wp2_with fail
            refine HC38.out.mono ?_; rintro e W45 ⟨V46, rfl, ho, hd⟩
            replace HOA := Lib.hid (HOA.out.call hd HD.out.size ho); clear ho
            replace HD := Lib.hid (HD.out.trans (hd.mono HD.out.size))
            clear hd
            have HZ48 := Lib.hid hz41; clear hz41
            obtain ⟨⟨y97, y98⟩, hy95, hm⟩ := obind HM.out
            dsimp only at hm
            replace HM := Lib.hid hm; clear hm
            have HC96 := common_Of_ok W45 cap1 (rdL HD.out HR1.out) hy95
            clear hy95
            by_cases hz99 : y98 = 0
            · subst hz99
              rw [errV_zero] at HC96; replace HC96 := Lib.hid HC96
              go_wp2_with fail
              refine HC96.out.mono ?_; rintro e W100 ⟨rfl, hd⟩
              replace HOA := Lib.hid (HOA.out.below hd)
              replace HD := Lib.hid (HD.out.trans (hd.mono HD.out.size))
              clear hd
              go_upto_region 11 with (fail)
              obtain ⟨b103, hb, hm⟩ := obind HM.out
              replace HM := Lib.hid hm; have HB104 := Lib.hid hb; clear hm hb
              go_cut [103] (fun uq wr => uq = .bool b103 ∧ Hid (Below W100.heap.size W100 wr))
              case first =>
                have HWC105 := Lib.hid (Below.refl W100.heap.size W100)
                obtain ⟨b106, hb, hm⟩ := obind HB104.out
                replace HB104 := Lib.hid hm; have HB107 := Lib.hid hb; clear hm hb
                obtain ⟨b108, hb, hm⟩ := obind HB107.out
                replace HB107 := Lib.hid hm; have HB109 := Lib.hid hb; clear hm hb
                obtain ⟨b110, hb, hm⟩ := obind HB109.out
                replace HB109 := Lib.hid hm; have HB111 := Lib.hid hb; clear hm hb
                obtain ⟨b112, hb, hm⟩ := obind HB111.out
                replace HB111 := Lib.hid hm; have HB113 := Lib.hid hb; clear hm hb
                obtain ⟨b114, hb, hm⟩ := obind HB113.out
                replace HB113 := Lib.hid hm; have HB115 := Lib.hid hb; clear hm hb
                replace HB115 := Lib.hid (ifF (by decide) HB115.out)
                replace HB115 := Lib.hid (ifF (by decide) HB115.out)
                obtain rfl := Option.some.inj HB115.out
                replace HB113 := Lib.hid (ifF (by first | exact Bool.false_ne_true | exact not_false) HB113.out)
                replace HB113 := Lib.hid (ifT (bne_iff_ne.2 HZ48.out) HB113.out)
                obtain rfl := Option.some.inj HB113.out
                replace HB111 := Lib.hid (ifT (by first | rfl | trivial) HB111.out)
                obtain rfl := Option.some.inj HB111.out
                replace HB109 := Lib.hid (ifT (by first | rfl | trivial) HB109.out)
                obtain rfl := Option.some.inj HB109.out
                replace HB107 := Lib.hid (ifT (by first | rfl | trivial) HB107.out)
                obtain rfl := Option.some.inj HB107.out
                replace HB104 := Lib.hid (ifT (by first | rfl | trivial) HB104.out)
                cases Option.some.inj HB104.out
                try go_wp2_with fail
                go_meet
                case rel => exact ⟨rfl, HWC105⟩
              case rest =>
                obtain ⟨rfl, HWC105⟩ := hcut
                rename World => W116
                have hd := HWC105.out
                replace HOA := Lib.hid (HOA.out.below hd)
                replace HD := Lib.hid (HD.out.trans (hd.mono HD.out.size))
                clear hd
                cases b103
                · replace HM := Lib.hid (ifF Bool.false_ne_true HM.out)
                  exfalso; have q := HB104.out; clear HD HOA
                  simp [HZ48.out] at q
                · replace HM := Lib.hid (ifT rfl HM.out)
                  obtain rfl := Option.some.inj HM.out
                  go_wp2_with fail
                  go_ret
                  exact ⟨rfl, HD.out⟩
            · rw [errV_pos _ hz99] at HC96; replace HC96 := Lib.hid HC96
              go_wp2_with fail
              refine HC96.out.mono ?_; rintro e W101 ⟨rfl, hd⟩
              replace HOA := Lib.hid (HOA.out.below hd)
              replace HD := Lib.hid (HD.out.trans (hd.mono HD.out.size))
              clear hd
              have HZ102 := Lib.hid hz99; clear hz99
              go_upto_region 11 with (fail)
              obtain ⟨b117, hb, hm⟩ := obind HM.out
              replace HM := Lib.hid hm; have HB118 := Lib.hid hb; clear hm hb
              go_cut [103] (fun uq wr => uq = .bool b117 ∧ Hid (Below W101.heap.size W101 wr))
              case first =>
                have HWC119 := Lib.hid (Below.refl W101.heap.size W101)
                obtain ⟨b120, hb, hm⟩ := obind HB118.out
                replace HB118 := Lib.hid hm; have HB121 := Lib.hid hb; clear hm hb
                obtain ⟨b122, hb, hm⟩ := obind HB121.out
                replace HB121 := Lib.hid hm; have HB123 := Lib.hid hb; clear hm hb
                obtain ⟨b124, hb, hm⟩ := obind HB123.out
                replace HB123 := Lib.hid hm; have HB125 := Lib.hid hb; clear hm hb
                obtain ⟨b126, hb, hm⟩ := obind HB125.out
                replace HB125 := Lib.hid hm; have HB127 := Lib.hid hb; clear hm hb
                obtain ⟨b128, hb, hm⟩ := obind HB127.out
                replace HB127 := Lib.hid hm; have HB129 := Lib.hid hb; clear hm hb
                replace HB129 := Lib.hid (ifF (by decide) HB129.out)
                replace HB129 := Lib.hid (ifF (by decide) HB129.out)
                obtain rfl := Option.some.inj HB129.out
                replace HB127 := Lib.hid (ifF (by first | exact Bool.false_ne_true | exact not_false) HB127.out)
                replace HB127 := Lib.hid (ifT (bne_iff_ne.2 HZ48.out) HB127.out)
                obtain rfl := Option.some.inj HB127.out
                replace HB125 := Lib.hid (ifT (by first | rfl | trivial) HB125.out)
                obtain rfl := Option.some.inj HB125.out
                replace HB123 := Lib.hid (ifT (by first | rfl | trivial) HB123.out)
                obtain rfl := Option.some.inj HB123.out
                replace HB121 := Lib.hid (ifT (by first | rfl | trivial) HB121.out)
                obtain rfl := Option.some.inj HB121.out
                replace HB118 := Lib.hid (ifT (by first | rfl | trivial) HB118.out)
                cases Option.some.inj HB118.out
                try go_wp2_with fail
                go_meet
                case rel => exact ⟨rfl, HWC119⟩
              case rest =>
                obtain ⟨rfl, HWC119⟩ := hcut
                rename World => W130
                have hd := HWC119.out
                replace HOA := Lib.hid (HOA.out.below hd)
                replace HD := Lib.hid (HD.out.trans (hd.mono HD.out.size))
                clear hd
                cases b117
                · replace HM := Lib.hid (ifF Bool.false_ne_true HM.out)
                  exfalso; have q := HB118.out; clear HD HOA
                  simp [HZ48.out, HZ102.out] at q
                · replace HM := Lib.hid (ifT rfl HM.out)
                  obtain rfl := Option.some.inj HM.out
                  go_wp2_with fail
                  go_ret
                  exact ⟨rfl, HD.out⟩
        · rw [errV_pos _ hz29] at HC26; replace HC26 := Lib.hid HC26
          go_wp2_with fail
          refine HC26.out.mono ?_; rintro e W33 ⟨V34, rfl, ho, hd⟩
          replace HOA := Lib.hid (HOA.out.call hd HD.out.size ho); clear ho
          replace HD := Lib.hid (HD.out.trans (hd.mono HD.out.size))
          clear hd
          have HZ36 := Lib.hid hz29; clear hz29
          obtain ⟨⟨y133, y134⟩, hy131, hm⟩ := obind HM.out
          dsimp only at hm
          replace HM := Lib.hid hm; clear hm
          have HC132 := walk_From_ok W33 cap1 (rdL HD.out HR1.out) hy131
          clear hy131
          by_cases hz135 : y134 = 0
          · subst hz135
            rw [errV_zero] at HC132; replace HC132 := Lib.hid HC132
            go_wp2_with fail
            refine HC132.out.mono ?_; rintro e W136 ⟨V137, rfl, ho, hd⟩
            replace HOA := Lib.hid (HOA.out.call hd HD.out.size ho); clear ho
            replace HD := Lib.hid (HD.out.trans (hd.mono HD.out.size))
            clear hd
            obtain ⟨⟨y145, y146⟩, hy143, hm⟩ := obind HM.out
            dsimp only at hm
            replace HM := Lib.hid hm; clear hm
            have HC144 := common_Of_ok W136 cap1 (rdL HD.out HR1.out) hy143
            clear hy143
            by_cases hz147 : y146 = 0
            · subst hz147
              rw [errV_zero] at HC144; replace HC144 := Lib.hid HC144
              go_wp2_with fail
              refine HC144.out.mono ?_; rintro e W148 ⟨rfl, hd⟩
              replace HOA := Lib.hid (HOA.out.below hd)
              replace HD := Lib.hid (HD.out.trans (hd.mono HD.out.size))
              clear hd
              go_upto_region 11 with (fail)
              obtain ⟨b151, hb, hm⟩ := obind HM.out
              replace HM := Lib.hid hm; have HB152 := Lib.hid hb; clear hm hb
              go_cut [103] (fun uq wr => uq = .bool b151 ∧ Hid (Below W148.heap.size W148 wr))
              case first =>
                have HWC153 := Lib.hid (Below.refl W148.heap.size W148)
                obtain ⟨b154, hb, hm⟩ := obind HB152.out
                replace HB152 := Lib.hid hm; have HB155 := Lib.hid hb; clear hm hb
                obtain ⟨b156, hb, hm⟩ := obind HB155.out
                replace HB155 := Lib.hid hm; have HB157 := Lib.hid hb; clear hm hb
                obtain ⟨b158, hb, hm⟩ := obind HB157.out
                replace HB157 := Lib.hid hm; have HB159 := Lib.hid hb; clear hm hb
                obtain ⟨b160, hb, hm⟩ := obind HB159.out
                replace HB159 := Lib.hid hm; have HB161 := Lib.hid hb; clear hm hb
                obtain ⟨b162, hb, hm⟩ := obind HB161.out
                replace HB161 := Lib.hid hm; have HB163 := Lib.hid hb; clear hm hb
                replace HB163 := Lib.hid (ifF (by decide) HB163.out)
                replace HB163 := Lib.hid (ifT (bne_iff_ne.2 HZ36.out) HB163.out)
                obtain rfl := Option.some.inj HB163.out
                replace HB161 := Lib.hid (ifT (by first | rfl | trivial) HB161.out)
                obtain rfl := Option.some.inj HB161.out
                replace HB159 := Lib.hid (ifT (by first | rfl | trivial) HB159.out)
                obtain rfl := Option.some.inj HB159.out
                replace HB157 := Lib.hid (ifT (by first | rfl | trivial) HB157.out)
                obtain rfl := Option.some.inj HB157.out
                replace HB155 := Lib.hid (ifT (by first | rfl | trivial) HB155.out)
                obtain rfl := Option.some.inj HB155.out
                replace HB152 := Lib.hid (ifT (by first | rfl | trivial) HB152.out)
                cases Option.some.inj HB152.out
                try go_wp2_with fail
                go_meet
                case rel => exact ⟨rfl, HWC153⟩
              case rest =>
                obtain ⟨rfl, HWC153⟩ := hcut
                rename World => W164
                have hd := HWC153.out
                replace HOA := Lib.hid (HOA.out.below hd)
                replace HD := Lib.hid (HD.out.trans (hd.mono HD.out.size))
                clear hd
                cases b151
                · replace HM := Lib.hid (ifF Bool.false_ne_true HM.out)
                  exfalso; have q := HB152.out; clear HD HOA
                  simp [HZ36.out] at q
                · replace HM := Lib.hid (ifT rfl HM.out)
                  obtain rfl := Option.some.inj HM.out
                  go_wp2_with fail
                  go_ret
                  exact ⟨rfl, HD.out⟩
            · rw [errV_pos _ hz147] at HC144; replace HC144 := Lib.hid HC144
              go_wp2_with fail
              refine HC144.out.mono ?_; rintro e W149 ⟨rfl, hd⟩
              replace HOA := Lib.hid (HOA.out.below hd)
              replace HD := Lib.hid (HD.out.trans (hd.mono HD.out.size))
              clear hd
              have HZ150 := Lib.hid hz147; clear hz147
              go_upto_region 11 with (fail)
              obtain ⟨b165, hb, hm⟩ := obind HM.out
              replace HM := Lib.hid hm; have HB166 := Lib.hid hb; clear hm hb
              go_cut [103] (fun uq wr => uq = .bool b165 ∧ Hid (Below W149.heap.size W149 wr))
              case first =>
                have HWC167 := Lib.hid (Below.refl W149.heap.size W149)
                obtain ⟨b168, hb, hm⟩ := obind HB166.out
                replace HB166 := Lib.hid hm; have HB169 := Lib.hid hb; clear hm hb
                obtain ⟨b170, hb, hm⟩ := obind HB169.out
                replace HB169 := Lib.hid hm; have HB171 := Lib.hid hb; clear hm hb
                obtain ⟨b172, hb, hm⟩ := obind HB171.out
                replace HB171 := Lib.hid hm; have HB173 := Lib.hid hb; clear hm hb
                obtain ⟨b174, hb, hm⟩ := obind HB173.out
                replace HB173 := Lib.hid hm; have HB175 := Lib.hid hb; clear hm hb
                obtain ⟨b176, hb, hm⟩ := obind HB175.out
                replace HB175 := Lib.hid hm; have HB177 := Lib.hid hb; clear hm hb
                replace HB177 := Lib.hid (ifF (by decide) HB177.out)
                replace HB177 := Lib.hid (ifT (bne_iff_ne.2 HZ36.out) HB177.out)
                obtain rfl := Option.some.inj HB177.out
                replace HB175 := Lib.hid (ifT (by first | rfl | trivial) HB175.out)
                obtain rfl := Option.some.inj HB175.out
                replace HB173 := Lib.hid (ifT (by first | rfl | trivial) HB173.out)
                obtain rfl := Option.some.inj HB173.out
                replace HB171 := Lib.hid (ifT (by first | rfl | trivial) HB171.out)
                obtain rfl := Option.some.inj HB171.out
                replace HB169 := Lib.hid (ifT (by first | rfl | trivial) HB169.out)
                obtain rfl := Option.some.inj HB169.out
                replace HB166 := Lib.hid (ifT (by first | rfl | trivial) HB166.out)
                cases Option.some.inj HB166.out
                try go_wp2_with fail
                go_meet
                case rel => exact ⟨rfl, HWC167⟩
              case rest =>
                obtain ⟨rfl, HWC167⟩ := hcut
                rename World => W178
                have hd := HWC167.out
                replace HOA := Lib.hid (HOA.out.below hd)
                replace HD := Lib.hid (HD.out.trans (hd.mono HD.out.size))
                clear hd
                cases b165
                · replace HM := Lib.hid (ifF Bool.false_ne_true HM.out)
                  exfalso; have q := HB166.out; clear HD HOA
                  simp [HZ36.out, HZ150.out] at q
                · replace HM := Lib.hid (ifT rfl HM.out)
                  obtain rfl := Option.some.inj HM.out
                  go_wp2_with fail
                  go_ret
                  exact ⟨rfl, HD.out⟩
          · rw [errV_pos _ hz135] at HC132; replace HC132 := Lib.hid HC132
            go_wp2_with fail
            refine HC132.out.mono ?_; rintro e W139 ⟨V140, rfl, ho, hd⟩
            replace HOA := Lib.hid (HOA.out.call hd HD.out.size ho); clear ho
            replace HD := Lib.hid (HD.out.trans (hd.mono HD.out.size))
            clear hd
            have HZ142 := Lib.hid hz135; clear hz135
            obtain ⟨⟨y181, y182⟩, hy179, hm⟩ := obind HM.out
            dsimp only at hm
            replace HM := Lib.hid hm; clear hm
            have HC180 := common_Of_ok W139 cap1 (rdL HD.out HR1.out) hy179
            clear hy179
            by_cases hz183 : y182 = 0
            · subst hz183
              rw [errV_zero] at HC180; replace HC180 := Lib.hid HC180
              go_wp2_with fail
              refine HC180.out.mono ?_; rintro e W184 ⟨rfl, hd⟩
              replace HOA := Lib.hid (HOA.out.below hd)
              replace HD := Lib.hid (HD.out.trans (hd.mono HD.out.size))
              clear hd
              go_upto_region 11 with (fail)
              obtain ⟨b187, hb, hm⟩ := obind HM.out
              replace HM := Lib.hid hm; have HB188 := Lib.hid hb; clear hm hb
              go_cut [103] (fun uq wr => uq = .bool b187 ∧ Hid (Below W184.heap.size W184 wr))
              case first =>
                have HWC189 := Lib.hid (Below.refl W184.heap.size W184)
                obtain ⟨b190, hb, hm⟩ := obind HB188.out
                replace HB188 := Lib.hid hm; have HB191 := Lib.hid hb; clear hm hb
                obtain ⟨b192, hb, hm⟩ := obind HB191.out
                replace HB191 := Lib.hid hm; have HB193 := Lib.hid hb; clear hm hb
                obtain ⟨b194, hb, hm⟩ := obind HB193.out
                replace HB193 := Lib.hid hm; have HB195 := Lib.hid hb; clear hm hb
                obtain ⟨b196, hb, hm⟩ := obind HB195.out
                replace HB195 := Lib.hid hm; have HB197 := Lib.hid hb; clear hm hb
                obtain ⟨b198, hb, hm⟩ := obind HB197.out
                replace HB197 := Lib.hid hm; have HB199 := Lib.hid hb; clear hm hb
                replace HB199 := Lib.hid (ifF (by decide) HB199.out)
                replace HB199 := Lib.hid (ifT (bne_iff_ne.2 HZ36.out) HB199.out)
                obtain rfl := Option.some.inj HB199.out
                replace HB197 := Lib.hid (ifT (by first | rfl | trivial) HB197.out)
                obtain rfl := Option.some.inj HB197.out
                replace HB195 := Lib.hid (ifT (by first | rfl | trivial) HB195.out)
                obtain rfl := Option.some.inj HB195.out
                replace HB193 := Lib.hid (ifT (by first | rfl | trivial) HB193.out)
                obtain rfl := Option.some.inj HB193.out
                replace HB191 := Lib.hid (ifT (by first | rfl | trivial) HB191.out)
                obtain rfl := Option.some.inj HB191.out
                replace HB188 := Lib.hid (ifT (by first | rfl | trivial) HB188.out)
                cases Option.some.inj HB188.out
                try go_wp2_with fail
                go_meet
                case rel => exact ⟨rfl, HWC189⟩
              case rest =>
                obtain ⟨rfl, HWC189⟩ := hcut
                rename World => W200
                have hd := HWC189.out
                replace HOA := Lib.hid (HOA.out.below hd)
                replace HD := Lib.hid (HD.out.trans (hd.mono HD.out.size))
                clear hd
                cases b187
                · replace HM := Lib.hid (ifF Bool.false_ne_true HM.out)
                  exfalso; have q := HB188.out; clear HD HOA
                  simp [HZ36.out, HZ142.out] at q
                · replace HM := Lib.hid (ifT rfl HM.out)
                  obtain rfl := Option.some.inj HM.out
                  go_wp2_with fail
                  go_ret
                  exact ⟨rfl, HD.out⟩
            · rw [errV_pos _ hz183] at HC180; replace HC180 := Lib.hid HC180
              go_wp2_with fail
              refine HC180.out.mono ?_; rintro e W185 ⟨rfl, hd⟩
              replace HOA := Lib.hid (HOA.out.below hd)
              replace HD := Lib.hid (HD.out.trans (hd.mono HD.out.size))
              clear hd
              have HZ186 := Lib.hid hz183; clear hz183
              go_upto_region 11 with (fail)
              obtain ⟨b201, hb, hm⟩ := obind HM.out
              replace HM := Lib.hid hm; have HB202 := Lib.hid hb; clear hm hb
              go_cut [103] (fun uq wr => uq = .bool b201 ∧ Hid (Below W185.heap.size W185 wr))
              case first =>
                have HWC203 := Lib.hid (Below.refl W185.heap.size W185)
                obtain ⟨b204, hb, hm⟩ := obind HB202.out
                replace HB202 := Lib.hid hm; have HB205 := Lib.hid hb; clear hm hb
                obtain ⟨b206, hb, hm⟩ := obind HB205.out
                replace HB205 := Lib.hid hm; have HB207 := Lib.hid hb; clear hm hb
                obtain ⟨b208, hb, hm⟩ := obind HB207.out
                replace HB207 := Lib.hid hm; have HB209 := Lib.hid hb; clear hm hb
                obtain ⟨b210, hb, hm⟩ := obind HB209.out
                replace HB209 := Lib.hid hm; have HB211 := Lib.hid hb; clear hm hb
                obtain ⟨b212, hb, hm⟩ := obind HB211.out
                replace HB211 := Lib.hid hm; have HB213 := Lib.hid hb; clear hm hb
                replace HB213 := Lib.hid (ifF (by decide) HB213.out)
                replace HB213 := Lib.hid (ifT (bne_iff_ne.2 HZ36.out) HB213.out)
                obtain rfl := Option.some.inj HB213.out
                replace HB211 := Lib.hid (ifT (by first | rfl | trivial) HB211.out)
                obtain rfl := Option.some.inj HB211.out
                replace HB209 := Lib.hid (ifT (by first | rfl | trivial) HB209.out)
                obtain rfl := Option.some.inj HB209.out
                replace HB207 := Lib.hid (ifT (by first | rfl | trivial) HB207.out)
                obtain rfl := Option.some.inj HB207.out
                replace HB205 := Lib.hid (ifT (by first | rfl | trivial) HB205.out)
                obtain rfl := Option.some.inj HB205.out
                replace HB202 := Lib.hid (ifT (by first | rfl | trivial) HB202.out)
                cases Option.some.inj HB202.out
                try go_wp2_with fail
                go_meet
                case rel => exact ⟨rfl, HWC203⟩
              case rest =>
                obtain ⟨rfl, HWC203⟩ := hcut
                rename World => W214
                have hd := HWC203.out
                replace HOA := Lib.hid (HOA.out.below hd)
                replace HD := Lib.hid (HD.out.trans (hd.mono HD.out.size))
                clear hd
                cases b201
                · replace HM := Lib.hid (ifF Bool.false_ne_true HM.out)
                  exfalso; have q := HB202.out; clear HD HOA
                  simp [HZ36.out, HZ142.out, HZ186.out] at q
                · replace HM := Lib.hid (ifT rfl HM.out)
                  obtain rfl := Option.some.inj HM.out
                  go_wp2_with fail
                  go_ret
                  exact ⟨rfl, HD.out⟩
      · rw [errV_pos _ hz17] at HC14; replace HC14 := Lib.hid HC14
        go_wp2_with fail
        refine HC14.out.mono ?_; rintro e W21 ⟨V22, rfl, ho, hd⟩
        replace HOA := Lib.hid (HOA.out.call hd HD.out.size ho); clear ho
        replace HD := Lib.hid (HD.out.trans (hd.mono HD.out.size))
        clear hd
        have HZ24 := Lib.hid hz17; clear hz17
        obtain ⟨⟨y217, y218⟩, hy215, hm⟩ := obind HM.out
        dsimp only at hm
        replace HM := Lib.hid hm; clear hm
        have HC216 := common_Way_ok W21 cap1 (rdL HD.out HR1.out) hy215
        clear hy215
        by_cases hz219 : y218 = 0
        · subst hz219
          rw [errV_zero] at HC216; replace HC216 := Lib.hid HC216
          go_wp2_with fail
          refine HC216.out.mono ?_; rintro e W220 ⟨V221, rfl, ho, hd⟩
          replace HOA := Lib.hid (HOA.out.call hd HD.out.size ho); clear ho
          replace HD := Lib.hid (HD.out.trans (hd.mono HD.out.size))
          clear hd
          obtain ⟨⟨y229, y230⟩, hy227, hm⟩ := obind HM.out
          dsimp only at hm
          replace HM := Lib.hid hm; clear hm
          have HC228 := walk_From_ok W220 cap1 (rdL HD.out HR1.out) hy227
          clear hy227
          by_cases hz231 : y230 = 0
          · subst hz231
            rw [errV_zero] at HC228; replace HC228 := Lib.hid HC228
            go_wp2_with fail
            refine HC228.out.mono ?_; rintro e W232 ⟨V233, rfl, ho, hd⟩
            replace HOA := Lib.hid (HOA.out.call hd HD.out.size ho); clear ho
            replace HD := Lib.hid (HD.out.trans (hd.mono HD.out.size))
            clear hd
            obtain ⟨⟨y241, y242⟩, hy239, hm⟩ := obind HM.out
            dsimp only at hm
            replace HM := Lib.hid hm; clear hm
            have HC240 := common_Of_ok W232 cap1 (rdL HD.out HR1.out) hy239
            clear hy239
            by_cases hz243 : y242 = 0
            · subst hz243
              rw [errV_zero] at HC240; replace HC240 := Lib.hid HC240
              go_wp2_with fail
              refine HC240.out.mono ?_; rintro e W244 ⟨rfl, hd⟩
              replace HOA := Lib.hid (HOA.out.below hd)
              replace HD := Lib.hid (HD.out.trans (hd.mono HD.out.size))
              clear hd
              go_upto_region 11 with (fail)
              obtain ⟨b247, hb, hm⟩ := obind HM.out
              replace HM := Lib.hid hm; have HB248 := Lib.hid hb; clear hm hb
              go_cut [103] (fun uq wr => uq = .bool b247 ∧ Hid (Below W244.heap.size W244 wr))
              case first =>
                have HWC249 := Lib.hid (Below.refl W244.heap.size W244)
                obtain ⟨b250, hb, hm⟩ := obind HB248.out
                replace HB248 := Lib.hid hm; have HB251 := Lib.hid hb; clear hm hb
                obtain ⟨b252, hb, hm⟩ := obind HB251.out
                replace HB251 := Lib.hid hm; have HB253 := Lib.hid hb; clear hm hb
                obtain ⟨b254, hb, hm⟩ := obind HB253.out
                replace HB253 := Lib.hid hm; have HB255 := Lib.hid hb; clear hm hb
                obtain ⟨b256, hb, hm⟩ := obind HB255.out
                replace HB255 := Lib.hid hm; have HB257 := Lib.hid hb; clear hm hb
                obtain ⟨b258, hb, hm⟩ := obind HB257.out
                replace HB257 := Lib.hid hm; have HB259 := Lib.hid hb; clear hm hb
                replace HB259 := Lib.hid (ifT (bne_iff_ne.2 HZ24.out) HB259.out)
                obtain rfl := Option.some.inj HB259.out
                replace HB257 := Lib.hid (ifT (by first | rfl | trivial) HB257.out)
                obtain rfl := Option.some.inj HB257.out
                replace HB255 := Lib.hid (ifT (by first | rfl | trivial) HB255.out)
                obtain rfl := Option.some.inj HB255.out
                replace HB253 := Lib.hid (ifT (by first | rfl | trivial) HB253.out)
                obtain rfl := Option.some.inj HB253.out
                replace HB251 := Lib.hid (ifT (by first | rfl | trivial) HB251.out)
                obtain rfl := Option.some.inj HB251.out
                replace HB248 := Lib.hid (ifT (by first | rfl | trivial) HB248.out)
                cases Option.some.inj HB248.out
                try go_wp2_with fail
                go_meet
                case rel => exact ⟨rfl, HWC249⟩
              case rest =>
                obtain ⟨rfl, HWC249⟩ := hcut
                rename World => W260
                have hd := HWC249.out
                replace HOA := Lib.hid (HOA.out.below hd)
                replace HD := Lib.hid (HD.out.trans (hd.mono HD.out.size))
                clear hd
                cases b247
                · replace HM := Lib.hid (ifF Bool.false_ne_true HM.out)
                  exfalso; have q := HB248.out; clear HD HOA
                  simp [HZ24.out] at q
                · replace HM := Lib.hid (ifT rfl HM.out)
                  obtain rfl := Option.some.inj HM.out
                  go_wp2_with fail
                  go_ret
                  exact ⟨rfl, HD.out⟩
            · rw [errV_pos _ hz243] at HC240; replace HC240 := Lib.hid HC240
              go_wp2_with fail
              refine HC240.out.mono ?_; rintro e W245 ⟨rfl, hd⟩
              replace HOA := Lib.hid (HOA.out.below hd)
              replace HD := Lib.hid (HD.out.trans (hd.mono HD.out.size))
              clear hd
              have HZ246 := Lib.hid hz243; clear hz243
              go_upto_region 11 with (fail)
              obtain ⟨b261, hb, hm⟩ := obind HM.out
              replace HM := Lib.hid hm; have HB262 := Lib.hid hb; clear hm hb
              go_cut [103] (fun uq wr => uq = .bool b261 ∧ Hid (Below W245.heap.size W245 wr))
              case first =>
                have HWC263 := Lib.hid (Below.refl W245.heap.size W245)
                obtain ⟨b264, hb, hm⟩ := obind HB262.out
                replace HB262 := Lib.hid hm; have HB265 := Lib.hid hb; clear hm hb
                obtain ⟨b266, hb, hm⟩ := obind HB265.out
                replace HB265 := Lib.hid hm; have HB267 := Lib.hid hb; clear hm hb
                obtain ⟨b268, hb, hm⟩ := obind HB267.out
                replace HB267 := Lib.hid hm; have HB269 := Lib.hid hb; clear hm hb
                obtain ⟨b270, hb, hm⟩ := obind HB269.out
                replace HB269 := Lib.hid hm; have HB271 := Lib.hid hb; clear hm hb
                obtain ⟨b272, hb, hm⟩ := obind HB271.out
                replace HB271 := Lib.hid hm; have HB273 := Lib.hid hb; clear hm hb
                replace HB273 := Lib.hid (ifT (bne_iff_ne.2 HZ24.out) HB273.out)
                obtain rfl := Option.some.inj HB273.out
                replace HB271 := Lib.hid (ifT (by first | rfl | trivial) HB271.out)
                obtain rfl := Option.some.inj HB271.out
                replace HB269 := Lib.hid (ifT (by first | rfl | trivial) HB269.out)
                obtain rfl := Option.some.inj HB269.out
                replace HB267 := Lib.hid (ifT (by first | rfl | trivial) HB267.out)
                obtain rfl := Option.some.inj HB267.out
                replace HB265 := Lib.hid (ifT (by first | rfl | trivial) HB265.out)
                obtain rfl := Option.some.inj HB265.out
                replace HB262 := Lib.hid (ifT (by first | rfl | trivial) HB262.out)
                cases Option.some.inj HB262.out
                try go_wp2_with fail
                go_meet
                case rel => exact ⟨rfl, HWC263⟩
              case rest =>
                obtain ⟨rfl, HWC263⟩ := hcut
                rename World => W274
                have hd := HWC263.out
                replace HOA := Lib.hid (HOA.out.below hd)
                replace HD := Lib.hid (HD.out.trans (hd.mono HD.out.size))
                clear hd
                cases b261
                · replace HM := Lib.hid (ifF Bool.false_ne_true HM.out)
                  exfalso; have q := HB262.out; clear HD HOA
                  simp [HZ24.out, HZ246.out] at q
                · replace HM := Lib.hid (ifT rfl HM.out)
                  obtain rfl := Option.some.inj HM.out
                  go_wp2_with fail
                  go_ret
                  exact ⟨rfl, HD.out⟩
          · rw [errV_pos _ hz231] at HC228; replace HC228 := Lib.hid HC228
            go_wp2_with fail
            refine HC228.out.mono ?_; rintro e W235 ⟨V236, rfl, ho, hd⟩
            replace HOA := Lib.hid (HOA.out.call hd HD.out.size ho); clear ho
            replace HD := Lib.hid (HD.out.trans (hd.mono HD.out.size))
            clear hd
            have HZ238 := Lib.hid hz231; clear hz231
            obtain ⟨⟨y277, y278⟩, hy275, hm⟩ := obind HM.out
            dsimp only at hm
            replace HM := Lib.hid hm; clear hm
            have HC276 := common_Of_ok W235 cap1 (rdL HD.out HR1.out) hy275
            clear hy275
            by_cases hz279 : y278 = 0
            · subst hz279
              rw [errV_zero] at HC276; replace HC276 := Lib.hid HC276
              go_wp2_with fail
              refine HC276.out.mono ?_; rintro e W280 ⟨rfl, hd⟩
              replace HOA := Lib.hid (HOA.out.below hd)
              replace HD := Lib.hid (HD.out.trans (hd.mono HD.out.size))
              clear hd
              go_upto_region 11 with (fail)
              obtain ⟨b283, hb, hm⟩ := obind HM.out
              replace HM := Lib.hid hm; have HB284 := Lib.hid hb; clear hm hb
              go_cut [103] (fun uq wr => uq = .bool b283 ∧ Hid (Below W280.heap.size W280 wr))
              case first =>
                have HWC285 := Lib.hid (Below.refl W280.heap.size W280)
                obtain ⟨b286, hb, hm⟩ := obind HB284.out
                replace HB284 := Lib.hid hm; have HB287 := Lib.hid hb; clear hm hb
                obtain ⟨b288, hb, hm⟩ := obind HB287.out
                replace HB287 := Lib.hid hm; have HB289 := Lib.hid hb; clear hm hb
                obtain ⟨b290, hb, hm⟩ := obind HB289.out
                replace HB289 := Lib.hid hm; have HB291 := Lib.hid hb; clear hm hb
                obtain ⟨b292, hb, hm⟩ := obind HB291.out
                replace HB291 := Lib.hid hm; have HB293 := Lib.hid hb; clear hm hb
                obtain ⟨b294, hb, hm⟩ := obind HB293.out
                replace HB293 := Lib.hid hm; have HB295 := Lib.hid hb; clear hm hb
                replace HB295 := Lib.hid (ifT (bne_iff_ne.2 HZ24.out) HB295.out)
                obtain rfl := Option.some.inj HB295.out
                replace HB293 := Lib.hid (ifT (by first | rfl | trivial) HB293.out)
                obtain rfl := Option.some.inj HB293.out
                replace HB291 := Lib.hid (ifT (by first | rfl | trivial) HB291.out)
                obtain rfl := Option.some.inj HB291.out
                replace HB289 := Lib.hid (ifT (by first | rfl | trivial) HB289.out)
                obtain rfl := Option.some.inj HB289.out
                replace HB287 := Lib.hid (ifT (by first | rfl | trivial) HB287.out)
                obtain rfl := Option.some.inj HB287.out
                replace HB284 := Lib.hid (ifT (by first | rfl | trivial) HB284.out)
                cases Option.some.inj HB284.out
                try go_wp2_with fail
                go_meet
                case rel => exact ⟨rfl, HWC285⟩
              case rest =>
                obtain ⟨rfl, HWC285⟩ := hcut
                rename World => W296
                have hd := HWC285.out
                replace HOA := Lib.hid (HOA.out.below hd)
                replace HD := Lib.hid (HD.out.trans (hd.mono HD.out.size))
                clear hd
                cases b283
                · replace HM := Lib.hid (ifF Bool.false_ne_true HM.out)
                  exfalso; have q := HB284.out; clear HD HOA
                  simp [HZ24.out, HZ238.out] at q
                · replace HM := Lib.hid (ifT rfl HM.out)
                  obtain rfl := Option.some.inj HM.out
                  go_wp2_with fail
                  go_ret
                  exact ⟨rfl, HD.out⟩
            · rw [errV_pos _ hz279] at HC276; replace HC276 := Lib.hid HC276
              go_wp2_with fail
              refine HC276.out.mono ?_; rintro e W281 ⟨rfl, hd⟩
              replace HOA := Lib.hid (HOA.out.below hd)
              replace HD := Lib.hid (HD.out.trans (hd.mono HD.out.size))
              clear hd
              have HZ282 := Lib.hid hz279; clear hz279
              go_upto_region 11 with (fail)
              obtain ⟨b297, hb, hm⟩ := obind HM.out
              replace HM := Lib.hid hm; have HB298 := Lib.hid hb; clear hm hb
              go_cut [103] (fun uq wr => uq = .bool b297 ∧ Hid (Below W281.heap.size W281 wr))
              case first =>
                have HWC299 := Lib.hid (Below.refl W281.heap.size W281)
                obtain ⟨b300, hb, hm⟩ := obind HB298.out
                replace HB298 := Lib.hid hm; have HB301 := Lib.hid hb; clear hm hb
                obtain ⟨b302, hb, hm⟩ := obind HB301.out
                replace HB301 := Lib.hid hm; have HB303 := Lib.hid hb; clear hm hb
                obtain ⟨b304, hb, hm⟩ := obind HB303.out
                replace HB303 := Lib.hid hm; have HB305 := Lib.hid hb; clear hm hb
                obtain ⟨b306, hb, hm⟩ := obind HB305.out
                replace HB305 := Lib.hid hm; have HB307 := Lib.hid hb; clear hm hb
                obtain ⟨b308, hb, hm⟩ := obind HB307.out
                replace HB307 := Lib.hid hm; have HB309 := Lib.hid hb; clear hm hb
                replace HB309 := Lib.hid (ifT (bne_iff_ne.2 HZ24.out) HB309.out)
                obtain rfl := Option.some.inj HB309.out
                replace HB307 := Lib.hid (ifT (by first | rfl | trivial) HB307.out)
                obtain rfl := Option.some.inj HB307.out
                replace HB305 := Lib.hid (ifT (by first | rfl | trivial) HB305.out)
                obtain rfl := Option.some.inj HB305.out
                replace HB303 := Lib.hid (ifT (by first | rfl | trivial) HB303.out)
                obtain rfl := Option.some.inj HB303.out
                replace HB301 := Lib.hid (ifT (by first | rfl | trivial) HB301.out)
                obtain rfl := Option.some.inj HB301.out
                replace HB298 := Lib.hid (ifT (by first | rfl | trivial) HB298.out)
                cases Option.some.inj HB298.out
                try go_wp2_with fail
                go_meet
                case rel => exact ⟨rfl, HWC299⟩
              case rest =>
                obtain ⟨rfl, HWC299⟩ := hcut
                rename World => W310
                have hd := HWC299.out
                replace HOA := Lib.hid (HOA.out.below hd)
                replace HD := Lib.hid (HD.out.trans (hd.mono HD.out.size))
                clear hd
                cases b297
                · replace HM := Lib.hid (ifF Bool.false_ne_true HM.out)
                  exfalso; have q := HB298.out; clear HD HOA
                  simp [HZ24.out, HZ238.out, HZ282.out] at q
                · replace HM := Lib.hid (ifT rfl HM.out)
                  obtain rfl := Option.some.inj HM.out
                  go_wp2_with fail
                  go_ret
                  exact ⟨rfl, HD.out⟩
        · rw [errV_pos _ hz219] at HC216; replace HC216 := Lib.hid HC216
          go_wp2_with fail
          refine HC216.out.mono ?_; rintro e W223 ⟨V224, rfl, ho, hd⟩
          replace HOA := Lib.hid (HOA.out.call hd HD.out.size ho); clear ho
          replace HD := Lib.hid (HD.out.trans (hd.mono HD.out.size))
          clear hd
          have HZ226 := Lib.hid hz219; clear hz219
          obtain ⟨⟨y313, y314⟩, hy311, hm⟩ := obind HM.out
          dsimp only at hm
          replace HM := Lib.hid hm; clear hm
          have HC312 := walk_From_ok W223 cap1 (rdL HD.out HR1.out) hy311
          clear hy311
          by_cases hz315 : y314 = 0
          · subst hz315
            rw [errV_zero] at HC312; replace HC312 := Lib.hid HC312
            go_wp2_with fail
            refine HC312.out.mono ?_; rintro e W316 ⟨V317, rfl, ho, hd⟩
            replace HOA := Lib.hid (HOA.out.call hd HD.out.size ho); clear ho
            replace HD := Lib.hid (HD.out.trans (hd.mono HD.out.size))
            clear hd
            obtain ⟨⟨y325, y326⟩, hy323, hm⟩ := obind HM.out
            dsimp only at hm
            replace HM := Lib.hid hm; clear hm
            have HC324 := common_Of_ok W316 cap1 (rdL HD.out HR1.out) hy323
            clear hy323
            by_cases hz327 : y326 = 0
            · subst hz327
              rw [errV_zero] at HC324; replace HC324 := Lib.hid HC324
              go_wp2_with fail
              refine HC324.out.mono ?_; rintro e W328 ⟨rfl, hd⟩
              replace HOA := Lib.hid (HOA.out.below hd)
              replace HD := Lib.hid (HD.out.trans (hd.mono HD.out.size))
              clear hd
              go_upto_region 11 with (fail)
              obtain ⟨b331, hb, hm⟩ := obind HM.out
              replace HM := Lib.hid hm; have HB332 := Lib.hid hb; clear hm hb
              go_cut [103] (fun uq wr => uq = .bool b331 ∧ Hid (Below W328.heap.size W328 wr))
              case first =>
                have HWC333 := Lib.hid (Below.refl W328.heap.size W328)
                obtain ⟨b334, hb, hm⟩ := obind HB332.out
                replace HB332 := Lib.hid hm; have HB335 := Lib.hid hb; clear hm hb
                obtain ⟨b336, hb, hm⟩ := obind HB335.out
                replace HB335 := Lib.hid hm; have HB337 := Lib.hid hb; clear hm hb
                obtain ⟨b338, hb, hm⟩ := obind HB337.out
                replace HB337 := Lib.hid hm; have HB339 := Lib.hid hb; clear hm hb
                obtain ⟨b340, hb, hm⟩ := obind HB339.out
                replace HB339 := Lib.hid hm; have HB341 := Lib.hid hb; clear hm hb
                obtain ⟨b342, hb, hm⟩ := obind HB341.out
                replace HB341 := Lib.hid hm; have HB343 := Lib.hid hb; clear hm hb
                replace HB343 := Lib.hid (ifT (bne_iff_ne.2 HZ24.out) HB343.out)
                obtain rfl := Option.some.inj HB343.out
                replace HB341 := Lib.hid (ifT (by first | rfl | trivial) HB341.out)
                obtain rfl := Option.some.inj HB341.out
                replace HB339 := Lib.hid (ifT (by first | rfl | trivial) HB339.out)
                obtain rfl := Option.some.inj HB339.out
                replace HB337 := Lib.hid (ifT (by first | rfl | trivial) HB337.out)
                obtain rfl := Option.some.inj HB337.out
                replace HB335 := Lib.hid (ifT (by first | rfl | trivial) HB335.out)
                obtain rfl := Option.some.inj HB335.out
                replace HB332 := Lib.hid (ifT (by first | rfl | trivial) HB332.out)
                cases Option.some.inj HB332.out
                try go_wp2_with fail
                go_meet
                case rel => exact ⟨rfl, HWC333⟩
              case rest =>
                obtain ⟨rfl, HWC333⟩ := hcut
                rename World => W344
                have hd := HWC333.out
                replace HOA := Lib.hid (HOA.out.below hd)
                replace HD := Lib.hid (HD.out.trans (hd.mono HD.out.size))
                clear hd
                cases b331
                · replace HM := Lib.hid (ifF Bool.false_ne_true HM.out)
                  exfalso; have q := HB332.out; clear HD HOA
                  simp [HZ24.out, HZ226.out] at q
                · replace HM := Lib.hid (ifT rfl HM.out)
                  obtain rfl := Option.some.inj HM.out
                  go_wp2_with fail
                  go_ret
                  exact ⟨rfl, HD.out⟩
            · rw [errV_pos _ hz327] at HC324; replace HC324 := Lib.hid HC324
              go_wp2_with fail
              refine HC324.out.mono ?_; rintro e W329 ⟨rfl, hd⟩
              replace HOA := Lib.hid (HOA.out.below hd)
              replace HD := Lib.hid (HD.out.trans (hd.mono HD.out.size))
              clear hd
              have HZ330 := Lib.hid hz327; clear hz327
              go_upto_region 11 with (fail)
              obtain ⟨b345, hb, hm⟩ := obind HM.out
              replace HM := Lib.hid hm; have HB346 := Lib.hid hb; clear hm hb
              go_cut [103] (fun uq wr => uq = .bool b345 ∧ Hid (Below W329.heap.size W329 wr))
              case first =>
                have HWC347 := Lib.hid (Below.refl W329.heap.size W329)
                obtain ⟨b348, hb, hm⟩ := obind HB346.out
                replace HB346 := Lib.hid hm; have HB349 := Lib.hid hb; clear hm hb
                obtain ⟨b350, hb, hm⟩ := obind HB349.out
                replace HB349 := Lib.hid hm; have HB351 := Lib.hid hb; clear hm hb
                obtain ⟨b352, hb, hm⟩ := obind HB351.out
                replace HB351 := Lib.hid hm; have HB353 := Lib.hid hb; clear hm hb
                obtain ⟨b354, hb, hm⟩ := obind HB353.out
                replace HB353 := Lib.hid hm; have HB355 := Lib.hid hb; clear hm hb
                obtain ⟨b356, hb, hm⟩ := obind HB355.out
                replace HB355 := Lib.hid hm; have HB357 := Lib.hid hb; clear hm hb
                replace HB357 := Lib.hid (ifT (bne_iff_ne.2 HZ24.out) HB357.out)
                obtain rfl := Option.some.inj HB357.out
                replace HB355 := Lib.hid (ifT (by first | rfl | trivial) HB355.out)
                obtain rfl := Option.some.inj HB355.out
                replace HB353 := Lib.hid (ifT (by first | rfl | trivial) HB353.out)
                obtain rfl := Option.some.inj HB353.out
                replace HB351 := Lib.hid (ifT (by first | rfl | trivial) HB351.out)
                obtain rfl := Option.some.inj HB351.out
                replace HB349 := Lib.hid (ifT (by first | rfl | trivial) HB349.out)
                obtain rfl := Option.some.inj HB349.out
                replace HB346 := Lib.hid (ifT (by first | rfl | trivial) HB346.out)
                cases Option.some.inj HB346.out
                try go_wp2_with fail
                go_meet
                case rel => exact ⟨rfl, HWC347⟩
              case rest =>
                obtain ⟨rfl, HWC347⟩ := hcut
                rename World => W358
                have hd := HWC347.out
                replace HOA := Lib.hid (HOA.out.below hd)
                replace HD := Lib.hid (HD.out.trans (hd.mono HD.out.size))
                clear hd
                cases b345
                · replace HM := Lib.hid (ifF Bool.false_ne_true HM.out)
                  exfalso; have q := HB346.out; clear HD HOA
                  simp [HZ24.out, HZ226.out, HZ330.out] at q
                · replace HM := Lib.hid (ifT rfl HM.out)
                  obtain rfl := Option.some.inj HM.out
                  go_wp2_with fail
                  go_ret
                  exact ⟨rfl, HD.out⟩
          · rw [errV_pos _ hz315] at HC312; replace HC312 := Lib.hid HC312
            go_wp2_with fail
            refine HC312.out.mono ?_; rintro e W319 ⟨V320, rfl, ho, hd⟩
            replace HOA := Lib.hid (HOA.out.call hd HD.out.size ho); clear ho
            replace HD := Lib.hid (HD.out.trans (hd.mono HD.out.size))
            clear hd
            have HZ322 := Lib.hid hz315; clear hz315
            obtain ⟨⟨y361, y362⟩, hy359, hm⟩ := obind HM.out
            dsimp only at hm
            replace HM := Lib.hid hm; clear hm
            have HC360 := common_Of_ok W319 cap1 (rdL HD.out HR1.out) hy359
            clear hy359
            by_cases hz363 : y362 = 0
            · subst hz363
              rw [errV_zero] at HC360; replace HC360 := Lib.hid HC360
              go_wp2_with fail
              refine HC360.out.mono ?_; rintro e W364 ⟨rfl, hd⟩
              replace HOA := Lib.hid (HOA.out.below hd)
              replace HD := Lib.hid (HD.out.trans (hd.mono HD.out.size))
              clear hd
              go_upto_region 11 with (fail)
              obtain ⟨b367, hb, hm⟩ := obind HM.out
              replace HM := Lib.hid hm; have HB368 := Lib.hid hb; clear hm hb
              go_cut [103] (fun uq wr => uq = .bool b367 ∧ Hid (Below W364.heap.size W364 wr))
              case first =>
                have HWC369 := Lib.hid (Below.refl W364.heap.size W364)
                obtain ⟨b370, hb, hm⟩ := obind HB368.out
                replace HB368 := Lib.hid hm; have HB371 := Lib.hid hb; clear hm hb
                obtain ⟨b372, hb, hm⟩ := obind HB371.out
                replace HB371 := Lib.hid hm; have HB373 := Lib.hid hb; clear hm hb
                obtain ⟨b374, hb, hm⟩ := obind HB373.out
                replace HB373 := Lib.hid hm; have HB375 := Lib.hid hb; clear hm hb
                obtain ⟨b376, hb, hm⟩ := obind HB375.out
                replace HB375 := Lib.hid hm; have HB377 := Lib.hid hb; clear hm hb
                obtain ⟨b378, hb, hm⟩ := obind HB377.out
                replace HB377 := Lib.hid hm; have HB379 := Lib.hid hb; clear hm hb
                replace HB379 := Lib.hid (ifT (bne_iff_ne.2 HZ24.out) HB379.out)
                obtain rfl := Option.some.inj HB379.out
                replace HB377 := Lib.hid (ifT (by first | rfl | trivial) HB377.out)
                obtain rfl := Option.some.inj HB377.out
                replace HB375 := Lib.hid (ifT (by first | rfl | trivial) HB375.out)
                obtain rfl := Option.some.inj HB375.out
                replace HB373 := Lib.hid (ifT (by first | rfl | trivial) HB373.out)
                obtain rfl := Option.some.inj HB373.out
                replace HB371 := Lib.hid (ifT (by first | rfl | trivial) HB371.out)
                obtain rfl := Option.some.inj HB371.out
                replace HB368 := Lib.hid (ifT (by first | rfl | trivial) HB368.out)
                cases Option.some.inj HB368.out
                try go_wp2_with fail
                go_meet
                case rel => exact ⟨rfl, HWC369⟩
              case rest =>
                obtain ⟨rfl, HWC369⟩ := hcut
                rename World => W380
                have hd := HWC369.out
                replace HOA := Lib.hid (HOA.out.below hd)
                replace HD := Lib.hid (HD.out.trans (hd.mono HD.out.size))
                clear hd
                cases b367
                · replace HM := Lib.hid (ifF Bool.false_ne_true HM.out)
                  exfalso; have q := HB368.out; clear HD HOA
                  simp [HZ24.out, HZ226.out, HZ322.out] at q
                · replace HM := Lib.hid (ifT rfl HM.out)
                  obtain rfl := Option.some.inj HM.out
                  go_wp2_with fail
                  go_ret
                  exact ⟨rfl, HD.out⟩
            · rw [errV_pos _ hz363] at HC360; replace HC360 := Lib.hid HC360
              go_wp2_with fail
              refine HC360.out.mono ?_; rintro e W365 ⟨rfl, hd⟩
              replace HOA := Lib.hid (HOA.out.below hd)
              replace HD := Lib.hid (HD.out.trans (hd.mono HD.out.size))
              clear hd
              have HZ366 := Lib.hid hz363; clear hz363
              go_upto_region 11 with (fail)
              obtain ⟨b381, hb, hm⟩ := obind HM.out
              replace HM := Lib.hid hm; have HB382 := Lib.hid hb; clear hm hb
              go_cut [103] (fun uq wr => uq = .bool b381 ∧ Hid (Below W365.heap.size W365 wr))
              case first =>
                have HWC383 := Lib.hid (Below.refl W365.heap.size W365)
                obtain ⟨b384, hb, hm⟩ := obind HB382.out
                replace HB382 := Lib.hid hm; have HB385 := Lib.hid hb; clear hm hb
                obtain ⟨b386, hb, hm⟩ := obind HB385.out
                replace HB385 := Lib.hid hm; have HB387 := Lib.hid hb; clear hm hb
                obtain ⟨b388, hb, hm⟩ := obind HB387.out
                replace HB387 := Lib.hid hm; have HB389 := Lib.hid hb; clear hm hb
                obtain ⟨b390, hb, hm⟩ := obind HB389.out
                replace HB389 := Lib.hid hm; have HB391 := Lib.hid hb; clear hm hb
                obtain ⟨b392, hb, hm⟩ := obind HB391.out
                replace HB391 := Lib.hid hm; have HB393 := Lib.hid hb; clear hm hb
                replace HB393 := Lib.hid (ifT (bne_iff_ne.2 HZ24.out) HB393.out)
                obtain rfl := Option.some.inj HB393.out
                replace HB391 := Lib.hid (ifT (by first | rfl | trivial) HB391.out)
                obtain rfl := Option.some.inj HB391.out
                replace HB389 := Lib.hid (ifT (by first | rfl | trivial) HB389.out)
                obtain rfl := Option.some.inj HB389.out
                replace HB387 := Lib.hid (ifT (by first | rfl | trivial) HB387.out)
                obtain rfl := Option.some.inj HB387.out
                replace HB385 := Lib.hid (ifT (by first | rfl | trivial) HB385.out)
                obtain rfl := Option.some.inj HB385.out
                replace HB382 := Lib.hid (ifT (by first | rfl | trivial) HB382.out)
                cases Option.some.inj HB382.out
                try go_wp2_with fail
                go_meet
                case rel => exact ⟨rfl, HWC383⟩
              case rest =>
                obtain ⟨rfl, HWC383⟩ := hcut
                rename World => W394
                have hd := HWC383.out
                replace HOA := Lib.hid (HOA.out.below hd)
                replace HD := Lib.hid (HD.out.trans (hd.mono HD.out.size))
                clear hd
                cases b381
                · replace HM := Lib.hid (ifF Bool.false_ne_true HM.out)
                  exfalso; have q := HB382.out; clear HD HOA
                  simp [HZ24.out, HZ226.out, HZ322.out, HZ366.out] at q
                · replace HM := Lib.hid (ifT rfl HM.out)
                  obtain rfl := Option.some.inj HM.out
                  go_wp2_with fail
                  go_ret
                  exact ⟨rfl, HD.out⟩
    · rw [errV_pos _ hz9] at HC6; replace HC6 := Lib.hid HC6
      go_wp2_with fail
      refine HC6.out.mono ?_; rintro e W11 ⟨rfl, hd⟩
      replace HOA := Lib.hid (HOA.out.below hd)
      replace HD := Lib.hid (HD.out.trans (hd.mono HD.out.size))
      clear hd
      have HZ12 := Lib.hid hz9; clear hz9
      replace HM := Lib.hid (ifT (bne_iff_ne.2 HZ12.out) HM.out)
      obtain ⟨b395, hb, hm⟩ := obind HM.out
      replace HM := Lib.hid hm; have HB396 := Lib.hid hb; clear hm hb
      rcases Bool.eq_false_or_eq_true (y7 == 0) with hc397 | hc397
      · replace HB396 := Lib.hid (ifT hc397 HB396.out)
        have HK398 := Lib.hid hc397
        obtain rfl := Option.some.inj HB396.out
        obtain rfl := Option.some.inj HM.out
        go_wp2_with fail
        go_ret
        exact ⟨(by first | rfl | (refine congrArg (fun b => Ending.returned (Value.bool b)) ?_; first | (exact decide_eq_true (by omega)) | (exact decide_eq_false (by omega)))), HD.out⟩
      · replace HB396 := Lib.hid (ifF (bF hc397) HB396.out)
        have HK398 := Lib.hid hc397
        obtain rfl := Option.some.inj HB396.out
        obtain rfl := Option.some.inj HM.out
        go_wp2_with fail
        go_ret
        exact ⟨(by first | rfl | (refine congrArg (fun b => Ending.returned (Value.bool b)) ?_; first | (exact decide_eq_true (by omega)) | (exact decide_eq_false (by omega)))), HD.out⟩

end Go.Proofs.Ytfokhmkimckdnaa
