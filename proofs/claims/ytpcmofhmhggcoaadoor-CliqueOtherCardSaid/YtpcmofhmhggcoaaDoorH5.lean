import Derived.Test.YtpcmofhmhggcoaaDoorH3
import Derived.Test.YtpcmofhmhggcoaaDoorH4
import Derived.Test.YtpcmofhmhggcoaaDoorCAd
import Derived.Test.YtpcmofhmhggcoaaDoorErr
set_option linter.all false
set_option maxRecDepth 100000
namespace Go.Proofs.YtpcmofhmhggcoaaDoor
open Go.RowKit
def L3_in (F : Nat) (v0 : Int) (v1 : Int) (v2 : Int) : Option (Bool) := (if v1 ≤ v0 then if v0 ≤ v2 then some true else some false else some false).bind fun b1 => some (b1)
set_option maxRecDepth 100000 in
set_option maxHeartbeats 1000000 in
theorem L3_in_ok {F : Nat} {v0 : Int} {v1 : Int} {v2 : Int} {r : Bool} (w : World)  (h : L3_in F v0 v1 v2 = some r) :
    Calls Tryd.prog 15 #[.int .i64 v0, .int .i64 v1, .int .i64 v2] w fun e w' => e = .returned (.bool r) ∧ w = w' := by
  unfold L3_in at h
  have HM := Lib.hid h; clear h
  go_enter Tryd.func15, Tryd.ntmps15
  obtain ⟨b1, hb, hm⟩ := obind HM.out
  replace HM := Lib.hid hm; have HB2 := Lib.hid hb; clear hm hb
  by_cases hc3 : v1 ≤ v0
  · replace HB2 := Lib.hid (ifT hc3 HB2.out)
    by_cases hc4 : v0 ≤ v2
    · replace HB2 := Lib.hid (ifT hc4 HB2.out)
      obtain rfl := Option.some.inj HB2.out
      obtain rfl := Option.some.inj HM.out
      go_wp2_with fail
      try clear hc3 hc4
      go_ret
      exact ⟨rfl, rfl⟩
    · replace HB2 := Lib.hid (ifF hc4 HB2.out)
      obtain rfl := Option.some.inj HB2.out
      obtain rfl := Option.some.inj HM.out
      go_wp2_with fail
      try clear hc3 hc4
      go_ret
      exact ⟨rfl, rfl⟩
  · replace HB2 := Lib.hid (ifF hc3 HB2.out)
    obtain rfl := Option.some.inj HB2.out
    obtain rfl := Option.some.inj HM.out
    go_wp2_with fail
    try clear hc3
    go_ret
    exact ⟨rfl, rfl⟩
def L3_CliqueOther (F : Nat) (v0 : Int) (v1 : List (Int × Int)) : Option (Bool) := (mFact ).bind fun y1 => (if y1 = true then (mMost (v0) (v1)).bind fun y2 => (if (y2.2 != 0) = true then (if (y2.1 == 0) = true then some true else some false).bind fun b3 => some (b3) else (mApart (v0) (v1)).bind fun y4 => (color_Least F (v0) (v1)).bind fun y5 => (((((if (y4.2 != 0) = true then some true else if (y5.2 != 0) = true then some true else some false).bind fun b9 => if b9 = true then some true else (L3_in F (y4.1) (1) (v0)).bind fun y10 => if y10 = true then some false else some true).bind fun b8 => if b8 = true then some true else (L3_in F (y5.1) (1) (v0)).bind fun y11 => if y11 = true then some false else some true).bind fun b7 => if b7 = true then some true else if (wrap64 (y5.1 * y4.1)) < v0 then some true else some false).bind fun b6 => if b6 = true then some (false) else (graph_Other F (v0) (v1)).bind fun y12 => (if (y12.2 != 0) = true then (mErr (y12.2) (4)).bind fun y13 => some (y13) else (mMost (v0) (y12.1)).bind fun y14 => (mApart (v0) (y12.1)).bind fun y15 => (((if (y14.2 == 0) = true then if (y15.2 == 0) = true then some true else some false else some false).bind fun b18 => if b18 = true then if (y14.1 == y4.1) = true then some true else some false else some false).bind fun b17 => if b17 = true then if (y15.1 == y2.1) = true then some true else some false else some false).bind fun b16 => some (b16)))) else some (false))
set_option maxRecDepth 100000 in
set_option maxHeartbeats 1000000 in
theorem L3_CliqueOther_ok {F : Nat} {v0 : Int} {v1 : List (Int × Int)} {A1 : Option Addr} {r : Bool} (w : World) (htc : TyCell w) (cap1 : Nat) (hr1 : ReadsL w w.heap.size A1 v1) (h : L3_CliqueOther F v0 v1 = some r) :
    Calls Tryd.prog 4 #[.int .i64 v0, .slice A1 v1.length cap1] w fun e w' => e = .returned (.bool r) ∧ Below w.heap.size w w' := by
  have HTC := Lib.hid htc; clear htc
  have HR1 := Lib.hid hr1; clear hr1
  have HD := Lib.hid (Below.refl w.heap.size w)
  have HOA := Lib.hid (HP.nil (W := w) (B := w.heap.size))
  unfold L3_CliqueOther at h
  have HM := Lib.hid h; clear h
  go_enter Tryd.func4, Tryd.ntmps4
  obtain ⟨y3, hy1, hm⟩ := obind HM.out
  replace HM := Lib.hid hm; clear hm
  have HC2 := mFact_ok w  hy1
  clear hy1
  replace HC2 := Lib.hid HC2
  go_wp2_with fail
  refine HC2.out.mono ?_; rintro e W4 ⟨rfl, hd⟩
  replace HOA := Lib.hid (HOA.out.below hd)
  replace HD := Lib.hid (HD.out.trans (hd.mono HD.out.size))
  clear hd
  cases y3
  · replace HM := Lib.hid (ifF Bool.false_ne_true HM.out)
    obtain rfl := Option.some.inj HM.out
    go_wp2_with fail
    go_ret
    exact ⟨rfl, HD.out⟩
  · replace HM := Lib.hid (ifT rfl HM.out)
    obtain ⟨⟨y7, y8⟩, hy5, hm⟩ := obind HM.out
    dsimp only at hm
    replace HM := Lib.hid hm; clear hm
    have HC6 := mMost_ok W4 cap1 (rdL HD.out HR1.out) hy5
    clear hy5
    by_cases hz9 : y8 = 0
    · subst hz9
      rw [errV_zero] at HC6; replace HC6 := Lib.hid HC6
      go_wp2_with fail
      refine HC6.out.mono ?_; rintro e W10 ⟨rfl, hd⟩
      replace HOA := Lib.hid (HOA.out.below hd)
      replace HD := Lib.hid (HD.out.trans (hd.mono HD.out.size))
      clear hd
      replace HM := Lib.hid (ifF (by decide) HM.out)
      obtain ⟨⟨y15, y16⟩, hy13, hm⟩ := obind HM.out
      dsimp only at hm
      replace HM := Lib.hid hm; clear hm
      have HC14 := mApart_ok W10 cap1 (rdL HD.out HR1.out) hy13
      clear hy13
      by_cases hz17 : y16 = 0
      · subst hz17
        rw [errV_zero] at HC14; replace HC14 := Lib.hid HC14
        go_wp2_with fail
        refine HC14.out.mono ?_; rintro e W18 ⟨rfl, hd⟩
        replace HOA := Lib.hid (HOA.out.below hd)
        replace HD := Lib.hid (HD.out.trans (hd.mono HD.out.size))
        clear hd
        obtain ⟨⟨y23, y24⟩, hy21, hm⟩ := obind HM.out
        dsimp only at hm
        replace HM := Lib.hid hm; clear hm
        have HC22 := color_Least_ok W18 cap1 (rdL HD.out HR1.out) hy21
        clear hy21
        by_cases hz25 : y24 = 0
        · subst hz25
          rw [errV_zero] at HC22; replace HC22 := Lib.hid HC22
          go_wp2_with fail
          refine HC22.out.mono ?_; rintro e W26 ⟨rfl, hd⟩
          replace HOA := Lib.hid (HOA.out.below hd)
          replace HD := Lib.hid (HD.out.trans (hd.mono HD.out.size))
          clear hd
          obtain ⟨b29, hb, hm⟩ := obind HM.out
          replace HM := Lib.hid hm; have HB30 := Lib.hid hb; clear hm hb
          obtain ⟨b31, hb, hm⟩ := obind HB30.out
          replace HB30 := Lib.hid hm; have HB32 := Lib.hid hb; clear hm hb
          obtain ⟨b33, hb, hm⟩ := obind HB32.out
          replace HB32 := Lib.hid hm; have HB34 := Lib.hid hb; clear hm hb
          obtain ⟨b35, hb, hm⟩ := obind HB34.out
          replace HB34 := Lib.hid hm; have HB36 := Lib.hid hb; clear hm hb
          replace HB36 := Lib.hid (ifF (by decide) HB36.out)
          replace HB36 := Lib.hid (ifF (by decide) HB36.out)
          obtain rfl := Option.some.inj HB36.out
          replace HB34 := Lib.hid (ifF Bool.false_ne_true HB34.out)
          obtain ⟨y39, hy37, hm⟩ := obind HB34.out
          replace HB34 := Lib.hid hm; clear hm
          have HC38 := L3_in_ok W26  hy37
          clear hy37
          replace HC38 := Lib.hid HC38
          cases y39
          · replace HB34 := Lib.hid (ifF Bool.false_ne_true HB34.out)
            obtain rfl := Option.some.inj HB34.out
            replace HB32 := Lib.hid (ifT rfl HB32.out)
            obtain rfl := Option.some.inj HB32.out
            replace HB30 := Lib.hid (ifT rfl HB30.out)
            obtain rfl := Option.some.inj HB30.out
            replace HM := Lib.hid (ifT rfl HM.out)
            obtain rfl := Option.some.inj HM.out
            go_wp2_with fail
            refine HC38.out.mono ?_; rintro e w' ⟨rfl, rfl⟩
            go_wp2_with fail
            go_ret
            exact ⟨rfl, HD.out⟩
          · replace HB34 := Lib.hid (ifT rfl HB34.out)
            obtain rfl := Option.some.inj HB34.out
            replace HB32 := Lib.hid (ifF Bool.false_ne_true HB32.out)
            obtain ⟨y42, hy40, hm⟩ := obind HB32.out
            replace HB32 := Lib.hid hm; clear hm
            have HC41 := L3_in_ok W26  hy40
            clear hy40
            replace HC41 := Lib.hid HC41
            cases y42
            · replace HB32 := Lib.hid (ifF Bool.false_ne_true HB32.out)
              obtain rfl := Option.some.inj HB32.out
              replace HB30 := Lib.hid (ifT rfl HB30.out)
              obtain rfl := Option.some.inj HB30.out
              replace HM := Lib.hid (ifT rfl HM.out)
              obtain rfl := Option.some.inj HM.out
              go_wp2_with fail
              refine HC38.out.mono ?_; rintro e w' ⟨rfl, rfl⟩
              go_wp2_with fail
              refine HC41.out.mono ?_; rintro e w' ⟨rfl, rfl⟩
              go_wp2_with fail
              go_ret
              exact ⟨rfl, HD.out⟩
            · replace HB32 := Lib.hid (ifT rfl HB32.out)
              obtain rfl := Option.some.inj HB32.out
              replace HB30 := Lib.hid (ifF Bool.false_ne_true HB30.out)
              by_cases hc43 : (wrap64 (y23 * y15)) < v0
              · replace HB30 := Lib.hid (ifT hc43 HB30.out)
                obtain rfl := Option.some.inj HB30.out
                replace HM := Lib.hid (ifT rfl HM.out)
                obtain rfl := Option.some.inj HM.out
                go_wp2_with fail
                refine HC38.out.mono ?_; rintro e w' ⟨rfl, rfl⟩
                go_wp2_with fail
                refine HC41.out.mono ?_; rintro e w' ⟨rfl, rfl⟩
                go_wp2_with fail
                try clear hc43
                go_ret
                exact ⟨rfl, HD.out⟩
              · replace HB30 := Lib.hid (ifF hc43 HB30.out)
                obtain rfl := Option.some.inj HB30.out
                replace HM := Lib.hid (ifF Bool.false_ne_true HM.out)
                obtain ⟨⟨y46, y47⟩, hy44, hm⟩ := obind HM.out
                dsimp only at hm
                replace HM := Lib.hid hm; clear hm
                have HC45 := graph_Other_ok W26 cap1 (rdL HD.out HR1.out) hy44
                clear hy44
                by_cases hz48 : y47 = 0
                · subst hz48
                  rw [errV_zero] at HC45; replace HC45 := Lib.hid HC45
                  go_wp2_with fail
                  refine HC38.out.mono ?_; rintro e w' ⟨rfl, rfl⟩
                  go_wp2_with fail
                  refine HC41.out.mono ?_; rintro e w' ⟨rfl, rfl⟩
                  go_wp2_with fail
                  refine HC45.out.mono ?_; rintro e W49 ⟨V50, rfl, ho, hd⟩
                  try clear hc43
                  replace HOA := Lib.hid (HOA.out.call hd HD.out.size ho); clear ho
                  replace HD := Lib.hid (HD.out.trans (hd.mono HD.out.size))
                  clear hd
                  replace HM := Lib.hid (ifF (by decide) HM.out)
                  obtain ⟨⟨y58, y59⟩, hy56, hm⟩ := obind HM.out
                  dsimp only at hm
                  replace HM := Lib.hid hm; clear hm
                  obtain ⟨A60, cap61, he, _⟩ := HP.open_L HOA.out (List.Mem.head _)
                  subst he
                  have HC57 := mMost_ok W49 cap61 (HP.rd_L HOA.out (List.Mem.head _)) hy56
                  clear hy56
                  by_cases hz62 : y59 = 0
                  · subst hz62
                    rw [errV_zero] at HC57; replace HC57 := Lib.hid HC57
                    go_wp2_with fail
                    refine HC57.out.mono ?_; rintro e W63 ⟨rfl, hd⟩
                    replace HOA := Lib.hid (HOA.out.below hd)
                    replace HD := Lib.hid (HD.out.trans (hd.mono HD.out.size))
                    clear hd
                    obtain ⟨⟨y68, y69⟩, hy66, hm⟩ := obind HM.out
                    dsimp only at hm
                    replace HM := Lib.hid hm; clear hm
                    have HC67 := mApart_ok W63 cap61 (HP.rd_L HOA.out (List.Mem.head _)) hy66
                    clear hy66
                    by_cases hz70 : y69 = 0
                    · subst hz70
                      rw [errV_zero] at HC67; replace HC67 := Lib.hid HC67
                      go_wp2_with fail
                      refine HC67.out.mono ?_; rintro e W71 ⟨rfl, hd⟩
                      replace HOA := Lib.hid (HOA.out.below hd)
                      replace HD := Lib.hid (HD.out.trans (hd.mono HD.out.size))
                      clear hd
                      obtain ⟨b74, hb, hm⟩ := obind HM.out
                      replace HM := Lib.hid hm; have HB75 := Lib.hid hb; clear hm hb
                      obtain ⟨b76, hb, hm⟩ := obind HB75.out
                      replace HB75 := Lib.hid hm; have HB77 := Lib.hid hb; clear hm hb
                      obtain ⟨b78, hb, hm⟩ := obind HB77.out
                      replace HB77 := Lib.hid hm; have HB79 := Lib.hid hb; clear hm hb
                      replace HB79 := Lib.hid (ifT (by decide) HB79.out)
                      replace HB79 := Lib.hid (ifT (by decide) HB79.out)
                      obtain rfl := Option.some.inj HB79.out
                      replace HB77 := Lib.hid (ifT rfl HB77.out)
                      rcases Bool.eq_false_or_eq_true (y58 == y15) with hc80 | hc80
                      · replace HB77 := Lib.hid (ifT hc80 HB77.out)
                        obtain rfl := Option.some.inj HB77.out
                        replace HB75 := Lib.hid (ifT rfl HB75.out)
                        rcases Bool.eq_false_or_eq_true (y68 == y7) with hc81 | hc81
                        · replace HB75 := Lib.hid (ifT hc81 HB75.out)
                          obtain rfl := Option.some.inj HB75.out
                          obtain rfl := Option.some.inj HM.out
                          go_wp2_with fail
                          try clear hc80 hc81
                          go_ret
                          exact ⟨rfl, HD.out⟩
                        · replace HB75 := Lib.hid (ifF (bF hc81) HB75.out)
                          obtain rfl := Option.some.inj HB75.out
                          obtain rfl := Option.some.inj HM.out
                          go_wp2_with fail
                          try clear hc80 hc81
                          go_ret
                          exact ⟨rfl, HD.out⟩
                      · replace HB77 := Lib.hid (ifF (bF hc80) HB77.out)
                        obtain rfl := Option.some.inj HB77.out
                        replace HB75 := Lib.hid (ifF Bool.false_ne_true HB75.out)
                        obtain rfl := Option.some.inj HB75.out
                        obtain rfl := Option.some.inj HM.out
                        go_wp2_with fail
                        try clear hc80
                        go_ret
                        exact ⟨rfl, HD.out⟩
                    · rw [errV_pos _ hz70] at HC67; replace HC67 := Lib.hid HC67
                      go_wp2_with fail
                      refine HC67.out.mono ?_; rintro e W72 ⟨rfl, hd⟩
                      replace HOA := Lib.hid (HOA.out.below hd)
                      replace HD := Lib.hid (HD.out.trans (hd.mono HD.out.size))
                      clear hd
                      have HZ73 := Lib.hid hz70; clear hz70
                      obtain ⟨b82, hb, hm⟩ := obind HM.out
                      replace HM := Lib.hid hm; have HB83 := Lib.hid hb; clear hm hb
                      obtain ⟨b84, hb, hm⟩ := obind HB83.out
                      replace HB83 := Lib.hid hm; have HB85 := Lib.hid hb; clear hm hb
                      obtain ⟨b86, hb, hm⟩ := obind HB85.out
                      replace HB85 := Lib.hid hm; have HB87 := Lib.hid hb; clear hm hb
                      replace HB87 := Lib.hid (ifT (by decide) HB87.out)
                      replace HB87 := Lib.hid (ifF (fun h => HZ73.out (eq_of_beq h)) HB87.out)
                      obtain rfl := Option.some.inj HB87.out
                      replace HB85 := Lib.hid (ifF Bool.false_ne_true HB85.out)
                      obtain rfl := Option.some.inj HB85.out
                      replace HB83 := Lib.hid (ifF Bool.false_ne_true HB83.out)
                      obtain rfl := Option.some.inj HB83.out
                      obtain rfl := Option.some.inj HM.out
                      go_wp2_with fail
                      go_ret
                      exact ⟨rfl, HD.out⟩
                  · rw [errV_pos _ hz62] at HC57; replace HC57 := Lib.hid HC57
                    go_wp2_with fail
                    refine HC57.out.mono ?_; rintro e W64 ⟨rfl, hd⟩
                    replace HOA := Lib.hid (HOA.out.below hd)
                    replace HD := Lib.hid (HD.out.trans (hd.mono HD.out.size))
                    clear hd
                    have HZ65 := Lib.hid hz62; clear hz62
                    obtain ⟨⟨y90, y91⟩, hy88, hm⟩ := obind HM.out
                    dsimp only at hm
                    replace HM := Lib.hid hm; clear hm
                    have HC89 := mApart_ok W64 cap61 (HP.rd_L HOA.out (List.Mem.head _)) hy88
                    clear hy88
                    by_cases hz92 : y91 = 0
                    · subst hz92
                      rw [errV_zero] at HC89; replace HC89 := Lib.hid HC89
                      go_wp2_with fail
                      refine HC89.out.mono ?_; rintro e W93 ⟨rfl, hd⟩
                      replace HOA := Lib.hid (HOA.out.below hd)
                      replace HD := Lib.hid (HD.out.trans (hd.mono HD.out.size))
                      clear hd
                      obtain ⟨b96, hb, hm⟩ := obind HM.out
                      replace HM := Lib.hid hm; have HB97 := Lib.hid hb; clear hm hb
                      obtain ⟨b98, hb, hm⟩ := obind HB97.out
                      replace HB97 := Lib.hid hm; have HB99 := Lib.hid hb; clear hm hb
                      obtain ⟨b100, hb, hm⟩ := obind HB99.out
                      replace HB99 := Lib.hid hm; have HB101 := Lib.hid hb; clear hm hb
                      replace HB101 := Lib.hid (ifF (fun h => HZ65.out (eq_of_beq h)) HB101.out)
                      obtain rfl := Option.some.inj HB101.out
                      replace HB99 := Lib.hid (ifF Bool.false_ne_true HB99.out)
                      obtain rfl := Option.some.inj HB99.out
                      replace HB97 := Lib.hid (ifF Bool.false_ne_true HB97.out)
                      obtain rfl := Option.some.inj HB97.out
                      obtain rfl := Option.some.inj HM.out
                      go_wp2_with fail
                      go_ret
                      exact ⟨rfl, HD.out⟩
                    · rw [errV_pos _ hz92] at HC89; replace HC89 := Lib.hid HC89
                      go_wp2_with fail
                      refine HC89.out.mono ?_; rintro e W94 ⟨rfl, hd⟩
                      replace HOA := Lib.hid (HOA.out.below hd)
                      replace HD := Lib.hid (HD.out.trans (hd.mono HD.out.size))
                      clear hd
                      have HZ95 := Lib.hid hz92; clear hz92
                      obtain ⟨b102, hb, hm⟩ := obind HM.out
                      replace HM := Lib.hid hm; have HB103 := Lib.hid hb; clear hm hb
                      obtain ⟨b104, hb, hm⟩ := obind HB103.out
                      replace HB103 := Lib.hid hm; have HB105 := Lib.hid hb; clear hm hb
                      obtain ⟨b106, hb, hm⟩ := obind HB105.out
                      replace HB105 := Lib.hid hm; have HB107 := Lib.hid hb; clear hm hb
                      replace HB107 := Lib.hid (ifF (fun h => HZ65.out (eq_of_beq h)) HB107.out)
                      obtain rfl := Option.some.inj HB107.out
                      replace HB105 := Lib.hid (ifF Bool.false_ne_true HB105.out)
                      obtain rfl := Option.some.inj HB105.out
                      replace HB103 := Lib.hid (ifF Bool.false_ne_true HB103.out)
                      obtain rfl := Option.some.inj HB103.out
                      obtain rfl := Option.some.inj HM.out
                      go_wp2_with fail
                      go_ret
                      exact ⟨rfl, HD.out⟩
                · rw [errV_pos _ hz48] at HC45; replace HC45 := Lib.hid HC45
                  go_wp2_with fail
                  refine HC38.out.mono ?_; rintro e w' ⟨rfl, rfl⟩
                  go_wp2_with fail
                  refine HC41.out.mono ?_; rintro e w' ⟨rfl, rfl⟩
                  go_wp2_with fail
                  refine HC45.out.mono ?_; rintro e W52 ⟨V53, rfl, ho, hd⟩
                  try clear hc43
                  replace HOA := Lib.hid (HOA.out.call hd HD.out.size ho); clear ho
                  replace HD := Lib.hid (HD.out.trans (hd.mono HD.out.size))
                  clear hd
                  have HZ55 := Lib.hid hz48; clear hz48
                  replace HM := Lib.hid (ifT (bne_iff_ne.2 HZ55.out) HM.out)
                  obtain ⟨y110, hy108, hm⟩ := obind HM.out
                  replace HM := Lib.hid hm; clear hm
                  have HC109 := mErr_ok W52 (HTC.out.go HD.out)  hy108
                  clear hy108
                  rw [errV_pos _ HZ55.out] at HC109
                  replace HC109 := Lib.hid HC109
                  go_wp2_with fail
                  refine HC109.out.mono ?_; rintro e W111 ⟨rfl, hd⟩
                  replace HOA := Lib.hid (HOA.out.below hd)
                  replace HD := Lib.hid (HD.out.trans (hd.mono HD.out.size))
                  clear hd
                  obtain rfl := Option.some.inj HM.out
                  go_wp2_with fail
                  go_ret
                  exact ⟨rfl, HD.out⟩
        · rw [errV_pos _ hz25] at HC22; replace HC22 := Lib.hid HC22
          go_wp2_with fail
          refine HC22.out.mono ?_; rintro e W27 ⟨rfl, hd⟩
          replace HOA := Lib.hid (HOA.out.below hd)
          replace HD := Lib.hid (HD.out.trans (hd.mono HD.out.size))
          clear hd
          have HZ28 := Lib.hid hz25; clear hz25
          obtain ⟨b112, hb, hm⟩ := obind HM.out
          replace HM := Lib.hid hm; have HB113 := Lib.hid hb; clear hm hb
          obtain ⟨b114, hb, hm⟩ := obind HB113.out
          replace HB113 := Lib.hid hm; have HB115 := Lib.hid hb; clear hm hb
          obtain ⟨b116, hb, hm⟩ := obind HB115.out
          replace HB115 := Lib.hid hm; have HB117 := Lib.hid hb; clear hm hb
          obtain ⟨b118, hb, hm⟩ := obind HB117.out
          replace HB117 := Lib.hid hm; have HB119 := Lib.hid hb; clear hm hb
          replace HB119 := Lib.hid (ifF (by decide) HB119.out)
          replace HB119 := Lib.hid (ifT (bne_iff_ne.2 HZ28.out) HB119.out)
          obtain rfl := Option.some.inj HB119.out
          replace HB117 := Lib.hid (ifT rfl HB117.out)
          obtain rfl := Option.some.inj HB117.out
          replace HB115 := Lib.hid (ifT rfl HB115.out)
          obtain rfl := Option.some.inj HB115.out
          replace HB113 := Lib.hid (ifT rfl HB113.out)
          obtain rfl := Option.some.inj HB113.out
          replace HM := Lib.hid (ifT rfl HM.out)
          obtain rfl := Option.some.inj HM.out
          go_wp2_with fail
          go_ret
          exact ⟨rfl, HD.out⟩
      · rw [errV_pos _ hz17] at HC14; replace HC14 := Lib.hid HC14
        go_wp2_with fail
        refine HC14.out.mono ?_; rintro e W19 ⟨rfl, hd⟩
        replace HOA := Lib.hid (HOA.out.below hd)
        replace HD := Lib.hid (HD.out.trans (hd.mono HD.out.size))
        clear hd
        have HZ20 := Lib.hid hz17; clear hz17
        obtain ⟨⟨y122, y123⟩, hy120, hm⟩ := obind HM.out
        dsimp only at hm
        replace HM := Lib.hid hm; clear hm
        have HC121 := color_Least_ok W19 cap1 (rdL HD.out HR1.out) hy120
        clear hy120
        by_cases hz124 : y123 = 0
        · subst hz124
          rw [errV_zero] at HC121; replace HC121 := Lib.hid HC121
          go_wp2_with fail
          refine HC121.out.mono ?_; rintro e W125 ⟨rfl, hd⟩
          replace HOA := Lib.hid (HOA.out.below hd)
          replace HD := Lib.hid (HD.out.trans (hd.mono HD.out.size))
          clear hd
          obtain ⟨b128, hb, hm⟩ := obind HM.out
          replace HM := Lib.hid hm; have HB129 := Lib.hid hb; clear hm hb
          obtain ⟨b130, hb, hm⟩ := obind HB129.out
          replace HB129 := Lib.hid hm; have HB131 := Lib.hid hb; clear hm hb
          obtain ⟨b132, hb, hm⟩ := obind HB131.out
          replace HB131 := Lib.hid hm; have HB133 := Lib.hid hb; clear hm hb
          obtain ⟨b134, hb, hm⟩ := obind HB133.out
          replace HB133 := Lib.hid hm; have HB135 := Lib.hid hb; clear hm hb
          replace HB135 := Lib.hid (ifT (bne_iff_ne.2 HZ20.out) HB135.out)
          obtain rfl := Option.some.inj HB135.out
          replace HB133 := Lib.hid (ifT rfl HB133.out)
          obtain rfl := Option.some.inj HB133.out
          replace HB131 := Lib.hid (ifT rfl HB131.out)
          obtain rfl := Option.some.inj HB131.out
          replace HB129 := Lib.hid (ifT rfl HB129.out)
          obtain rfl := Option.some.inj HB129.out
          replace HM := Lib.hid (ifT rfl HM.out)
          obtain rfl := Option.some.inj HM.out
          go_wp2_with fail
          go_ret
          exact ⟨rfl, HD.out⟩
        · rw [errV_pos _ hz124] at HC121; replace HC121 := Lib.hid HC121
          go_wp2_with fail
          refine HC121.out.mono ?_; rintro e W126 ⟨rfl, hd⟩
          replace HOA := Lib.hid (HOA.out.below hd)
          replace HD := Lib.hid (HD.out.trans (hd.mono HD.out.size))
          clear hd
          have HZ127 := Lib.hid hz124; clear hz124
          obtain ⟨b136, hb, hm⟩ := obind HM.out
          replace HM := Lib.hid hm; have HB137 := Lib.hid hb; clear hm hb
          obtain ⟨b138, hb, hm⟩ := obind HB137.out
          replace HB137 := Lib.hid hm; have HB139 := Lib.hid hb; clear hm hb
          obtain ⟨b140, hb, hm⟩ := obind HB139.out
          replace HB139 := Lib.hid hm; have HB141 := Lib.hid hb; clear hm hb
          obtain ⟨b142, hb, hm⟩ := obind HB141.out
          replace HB141 := Lib.hid hm; have HB143 := Lib.hid hb; clear hm hb
          replace HB143 := Lib.hid (ifT (bne_iff_ne.2 HZ20.out) HB143.out)
          obtain rfl := Option.some.inj HB143.out
          replace HB141 := Lib.hid (ifT rfl HB141.out)
          obtain rfl := Option.some.inj HB141.out
          replace HB139 := Lib.hid (ifT rfl HB139.out)
          obtain rfl := Option.some.inj HB139.out
          replace HB137 := Lib.hid (ifT rfl HB137.out)
          obtain rfl := Option.some.inj HB137.out
          replace HM := Lib.hid (ifT rfl HM.out)
          obtain rfl := Option.some.inj HM.out
          go_wp2_with fail
          go_ret
          exact ⟨rfl, HD.out⟩
    · rw [errV_pos _ hz9] at HC6; replace HC6 := Lib.hid HC6
      go_wp2_with fail
      refine HC6.out.mono ?_; rintro e W11 ⟨rfl, hd⟩
      replace HOA := Lib.hid (HOA.out.below hd)
      replace HD := Lib.hid (HD.out.trans (hd.mono HD.out.size))
      clear hd
      have HZ12 := Lib.hid hz9; clear hz9
      replace HM := Lib.hid (ifT (bne_iff_ne.2 HZ12.out) HM.out)
      obtain ⟨b144, hb, hm⟩ := obind HM.out
      replace HM := Lib.hid hm; have HB145 := Lib.hid hb; clear hm hb
      rcases Bool.eq_false_or_eq_true (y7 == 0) with hc146 | hc146
      · replace HB145 := Lib.hid (ifT hc146 HB145.out)
        obtain rfl := Option.some.inj HB145.out
        obtain rfl := Option.some.inj HM.out
        go_wp2_with fail
        try clear hc146
        go_ret
        exact ⟨rfl, HD.out⟩
      · replace HB145 := Lib.hid (ifF (bF hc146) HB145.out)
        obtain rfl := Option.some.inj HB145.out
        obtain rfl := Option.some.inj HM.out
        go_wp2_with fail
        try clear hc146
        go_ret
        exact ⟨rfl, HD.out⟩
end Go.Proofs.YtpcmofhmhggcoaaDoor
