import Derived.Test.YtpcmofhmhggcoaaG3
import Derived.Test.YtpcmofhmhggcoaaG2
import Derived.Test.YtpcmofhmhggcoaaCAd
set_option linter.all false
namespace Go.Proofs.Ytpcmofhmhggcoaa
open Go.RowKit
def L3_in (F : Nat) (v0 : Int) (v1 : Int) (v2 : Int) : Option (Bool) := (if v1 ≤ v0 then if v0 ≤ v2 then some true else some false else some false).bind fun b1 => some (b1)
set_option maxRecDepth 100000 in
set_option maxHeartbeats 1000000 in
theorem L3_in_ok {F : Nat} {v0 : Int} {v1 : Int} {v2 : Int} {r : Bool} (w : World)  (h : L3_in F v0 v1 v2 = some r) :
    Calls Try.prog 12 #[.int .i64 v0, .int .i64 v1, .int .i64 v2] w fun e w' => e = .returned (.bool r) ∧ w = w' := by
  unfold L3_in at h
  have HM := Lib.hid h; clear h
  go_enter Try.func12, Try.ntmps12
  obtain ⟨b1, hb, hm⟩ := obind HM.out
  replace HM := Lib.hid hm; have HB2 := Lib.hid hb; clear hm hb
  by_cases hc3 : v1 ≤ v0
  · replace HB2 := Lib.hid (ifT hc3 HB2.out)
    by_cases hc4 : v0 ≤ v2
    · replace HB2 := Lib.hid (ifT hc4 HB2.out)
      obtain rfl := Option.some.inj HB2.out
      obtain rfl := Option.some.inj HM.out
      go_wp2_with fail
      try clear hc3 hc4
      go_ret
      exact ⟨rfl, rfl⟩
    · replace HB2 := Lib.hid (ifF hc4 HB2.out)
      obtain rfl := Option.some.inj HB2.out
      obtain rfl := Option.some.inj HM.out
      go_wp2_with fail
      try clear hc3 hc4
      go_ret
      exact ⟨rfl, rfl⟩
  · replace HB2 := Lib.hid (ifF hc3 HB2.out)
    obtain rfl := Option.some.inj HB2.out
    obtain rfl := Option.some.inj HM.out
    go_wp2_with fail
    try clear hc3
    go_ret
    exact ⟨rfl, rfl⟩
def L3_CliqueTuran_L2 (F : Nat) (v1 : List (Int × Int)) (v4 : Int) (v8 : Int) : Nat → (Int) → (Int) → (Int) → Option (Int × Int × Int)
  | 0, _, _, _ => none
  | g+1, v6, v7, v9 => if v9 < v8 then ((R1_Beside F (v1) (v8) (v9)).bind fun y7 => if y7 = true then ((md v8 v4).bind fun y8 => (md v9 v4).bind fun y9 => if (y8 != y9) = true then L3_CliqueTuran_L2 F v1 v4 v8 g ((wrap64 (v6 + 1))) ((wrap64 (v7 + 1))) ((wrap64 (v9 + 1))) else L3_CliqueTuran_L2 F v1 v4 v8 g ((wrap64 (v6 + 1))) (v7) ((wrap64 (v9 + 1)))) else ((md v8 v4).bind fun y10 => (md v9 v4).bind fun y11 => if (y10 != y11) = true then L3_CliqueTuran_L2 F v1 v4 v8 g (v6) ((wrap64 (v7 + 1))) ((wrap64 (v9 + 1))) else L3_CliqueTuran_L2 F v1 v4 v8 g (v6) (v7) ((wrap64 (v9 + 1))))) else some (v6, v7, v9)
theorem L3_CliqueTuran_L2_0 (F : Nat) (v1 : List (Int × Int)) (v4 : Int) (v8 : Int) (v6 : Int) (v7 : Int) (v9 : Int) : L3_CliqueTuran_L2 F v1 v4 v8 0 v6 v7 v9 = none := by rw [L3_CliqueTuran_L2]
theorem L3_CliqueTuran_L2_s (F g : Nat) (v1 : List (Int × Int)) (v4 : Int) (v8 : Int) (v6 : Int) (v7 : Int) (v9 : Int) : L3_CliqueTuran_L2 F v1 v4 v8 (g+1) v6 v7 v9 = (if v9 < v8 then ((R1_Beside F (v1) (v8) (v9)).bind fun y7 => if y7 = true then ((md v8 v4).bind fun y8 => (md v9 v4).bind fun y9 => if (y8 != y9) = true then L3_CliqueTuran_L2 F v1 v4 v8 g ((wrap64 (v6 + 1))) ((wrap64 (v7 + 1))) ((wrap64 (v9 + 1))) else L3_CliqueTuran_L2 F v1 v4 v8 g ((wrap64 (v6 + 1))) (v7) ((wrap64 (v9 + 1)))) else ((md v8 v4).bind fun y10 => (md v9 v4).bind fun y11 => if (y10 != y11) = true then L3_CliqueTuran_L2 F v1 v4 v8 g (v6) ((wrap64 (v7 + 1))) ((wrap64 (v9 + 1))) else L3_CliqueTuran_L2 F v1 v4 v8 g (v6) (v7) ((wrap64 (v9 + 1))))) else some (v6, v7, v9)) := by rw [L3_CliqueTuran_L2]
def L3_CliqueTuran_L1 (F : Nat) (v0 : Int) (v1 : List (Int × Int)) (v4 : Int) : Nat → (Int) → (Int) → (Int) → Option (Int × Int × Int)
  | 0, _, _, _ => none
  | g+1, v6, v7, v8 => if v8 < v0 then (L3_CliqueTuran_L2 F (v1) (v4) (v8) F (v6) (v7) (0)).bind fun o12 => L3_CliqueTuran_L1 F v0 v1 v4 g (o12.1) (o12.2.1) ((wrap64 (v8 + 1))) else some (v6, v7, v8)
theorem L3_CliqueTuran_L1_0 (F : Nat) (v0 : Int) (v1 : List (Int × Int)) (v4 : Int) (v6 : Int) (v7 : Int) (v8 : Int) : L3_CliqueTuran_L1 F v0 v1 v4 0 v6 v7 v8 = none := by rw [L3_CliqueTuran_L1]
theorem L3_CliqueTuran_L1_s (F g : Nat) (v0 : Int) (v1 : List (Int × Int)) (v4 : Int) (v6 : Int) (v7 : Int) (v8 : Int) : L3_CliqueTuran_L1 F v0 v1 v4 (g+1) v6 v7 v8 = (if v8 < v0 then (L3_CliqueTuran_L2 F (v1) (v4) (v8) F (v6) (v7) (0)).bind fun o12 => L3_CliqueTuran_L1 F v0 v1 v4 g (o12.1) (o12.2.1) ((wrap64 (v8 + 1))) else some (v6, v7, v8)) := by rw [L3_CliqueTuran_L1]
def L3_CliqueTuran (F : Nat) (v0 : Int) (v1 : List (Int × Int)) : Option (Bool) := (mFact ).bind fun y1 => (if y1 = true then (mMost (v0) (v1)).bind fun y2 => (if (y2.2 != 0) = true then (if (y2.1 == 0) = true then some true else some false).bind fun b3 => some (b3) else (((L3_in F (y2.1) (1) (v0)).bind fun y5 => if y5 = true then (R1_Lines F (v0) (v1)).bind fun y6 => if (y6 != 0) = true then some true else some false else some true).bind fun b4 => if b4 = true then some (false) else (L3_CliqueTuran_L1 F (v0) (v1) (y2.1) F (0) (0) (0)).bind fun o13 => (if o13.1 ≤ o13.2.1 then some true else some false).bind fun b14 => some (b14))) else some (false))
set_option maxRecDepth 100000 in
set_option maxHeartbeats 1000000 in
theorem L3_CliqueTuran_ok {F : Nat} {v0 : Int} {v1 : List (Int × Int)} {A1 : Option Addr} {r : Bool} (w : World) (cap1 : Nat) (hr1 : ReadsL w w.heap.size A1 v1) (h : L3_CliqueTuran F v0 v1 = some r) :
    Calls Try.prog 4 #[.int .i64 v0, .slice A1 v1.length cap1] w fun e w' => e = .returned (.bool r) ∧ Below w.heap.size w w' := by
  have HR1 := Lib.hid hr1; clear hr1
  have HD := Lib.hid (Below.refl w.heap.size w)
  unfold L3_CliqueTuran at h
  have HM := Lib.hid h; clear h
  go_enter Try.func4, Try.ntmps4
  obtain ⟨y3, hy1, hm⟩ := obind HM.out
  replace HM := Lib.hid hm; clear hm
  have HC2 := mFact_ok w  hy1
  clear hy1
  replace HC2 := Lib.hid HC2
  go_wp2_with fail
  refine HC2.out.mono ?_; rintro e W4 ⟨rfl, hd⟩
  replace HD := Lib.hid (HD.out.trans (hd.mono HD.out.size))
  clear hd
  cases y3
  · replace HM := Lib.hid (ifF Bool.false_ne_true HM.out)
    obtain rfl := Option.some.inj HM.out
    go_wp2_with fail
    go_ret
    exact ⟨rfl, HD.out⟩
  · replace HM := Lib.hid (ifT rfl HM.out)
    obtain ⟨⟨y7, y8⟩, hy5, hm⟩ := obind HM.out
    dsimp only at hm
    replace HM := Lib.hid hm; clear hm
    have HC6 := mMost_ok W4 cap1 (rdL HD.out HR1.out) hy5
    clear hy5
    by_cases hz9 : y8 = 0
    · subst hz9
      rw [errV_zero] at HC6; replace HC6 := Lib.hid HC6
      go_wp2_with fail
      refine HC6.out.mono ?_; rintro e W10 ⟨rfl, hd⟩
      replace HD := Lib.hid (HD.out.trans (hd.mono HD.out.size))
      clear hd
      replace HM := Lib.hid (ifF (by decide) HM.out)
      obtain ⟨b13, hb, hm⟩ := obind HM.out
      replace HM := Lib.hid hm; have HB14 := Lib.hid hb; clear hm hb
      obtain ⟨y17, hy15, hm⟩ := obind HB14.out
      replace HB14 := Lib.hid hm; clear hm
      have HC16 := L3_in_ok W10  hy15
      clear hy15
      replace HC16 := Lib.hid HC16
      cases y17
      · replace HB14 := Lib.hid (ifF Bool.false_ne_true HB14.out)
        obtain rfl := Option.some.inj HB14.out
        replace HM := Lib.hid (ifT rfl HM.out)
        obtain rfl := Option.some.inj HM.out
        go_wp2_with fail
        refine HC16.out.mono ?_; rintro e w' ⟨rfl, rfl⟩
        go_wp2_with fail
        go_ret
        exact ⟨rfl, HD.out⟩
      · replace HB14 := Lib.hid (ifT rfl HB14.out)
        obtain ⟨y20, hy18, hm⟩ := obind HB14.out
        replace HB14 := Lib.hid hm; clear hm
        have HC19 := R1_Lines_ok W10 cap1 (rdL HD.out HR1.out) hy18
        clear hy18
        replace HC19 := Lib.hid HC19
        go_wp2_with fail
        refine HC16.out.mono ?_; rintro e w' ⟨rfl, rfl⟩
        go_wp2_with fail
        refine HC19.out.mono ?_; rintro e W21 ⟨rfl, hd⟩
        replace HD := Lib.hid (HD.out.trans ((hd.below _).mono HD.out.size))
        clear hd
        rcases Bool.eq_false_or_eq_true (y20 != 0) with hc22 | hc22
        · replace HB14 := Lib.hid (ifT hc22 HB14.out)
          obtain rfl := Option.some.inj HB14.out
          replace HM := Lib.hid (ifT rfl HM.out)
          obtain rfl := Option.some.inj HM.out
          go_wp2_with fail
          try clear hc22
          go_ret
          exact ⟨rfl, HD.out⟩
        · replace HB14 := Lib.hid (ifF (bF hc22) HB14.out)
          obtain rfl := Option.some.inj HB14.out
          replace HM := Lib.hid (ifF Bool.false_ne_true HM.out)
          go_wp2_with fail
          try clear hc22
          obtain ⟨o23, ho, hm⟩ := obind HM.out
          replace HM := Lib.hid hm; have HL1 := Lib.hid ho; clear hm ho
          go_loopg [8, 9, 10] F (fun gg u27 u28 u29 wr => ∃ (x24 : Int) (x25 : Int) (x26 : Int), u27 = .int .i64 x24 ∧ u28 = .int .i64 x25 ∧ u29 = .int .i64 x26 ∧ Hid (Below W21.heap.size W21 wr) ∧ Hid (L3_CliqueTuran_L1 F (v0) (v1) (y7) gg x24 x25 x26 = some o23))
          case atStart => exact ⟨0, 0, 0, rfl, rfl, rfl, (Lib.hid (Below.refl _ _)), HL1⟩
          case round =>
            obtain ⟨x24, x25, x26, rfl, rfl, rfl, HW1, HL1⟩ := hrel
            rename World => W30
            have hd := HW1.out
            replace HD := Lib.hid (HD.out.trans (hd.mono HD.out.size))
            clear hd
            cases gk with
            | zero => exact absurd ((L3_CliqueTuran_L1_0 ..).symm.trans HL1.out) (by intro h; cases h)
            | succ g1 =>
              replace HL1 := Lib.hid ((L3_CliqueTuran_L1_s ..).symm.trans HL1.out)
              by_cases hc31 : x26 < v0
              · replace HL1 := Lib.hid (ifT hc31 HL1.out)
                go_wp2_with fail
                try clear hc31
                obtain ⟨o32, ho, hm⟩ := obind HL1.out
                replace HL1 := Lib.hid hm; have HL2 := Lib.hid ho; clear hm ho
                go_loopg [8, 9, 11] F (fun gg u36 u37 u38 wr => ∃ (x33 : Int) (x34 : Int) (x35 : Int), u36 = .int .i64 x33 ∧ u37 = .int .i64 x34 ∧ u38 = .int .i64 x35 ∧ Hid (Below W30.heap.size W30 wr) ∧ Hid (L3_CliqueTuran_L2 F (v1) (y7) (x26) gg x33 x34 x35 = some o32))
                case atStart => exact ⟨x24, x25, 0, rfl, rfl, rfl, (Lib.hid (Below.refl _ _)), HL2⟩
                case round =>
                  obtain ⟨x33, x34, x35, rfl, rfl, rfl, HW2, HL2⟩ := hrel
                  rename World => W39
                  have hd := HW2.out
                  replace HD := Lib.hid (HD.out.trans (hd.mono HD.out.size))
                  replace HW1 := Lib.hid (HW1.out.trans (hd.mono HW1.out.size))
                  clear hd
                  cases gk with
                  | zero => exact absurd ((L3_CliqueTuran_L2_0 ..).symm.trans HL2.out) (by intro h; cases h)
                  | succ g2 =>
                    replace HL2 := Lib.hid ((L3_CliqueTuran_L2_s ..).symm.trans HL2.out)
                    by_cases hc40 : x35 < x26
                    · replace HL2 := Lib.hid (ifT hc40 HL2.out)
                      obtain ⟨y43, hy41, hm⟩ := obind HL2.out
                      replace HL2 := Lib.hid hm; clear hm
                      have HC42 := R1_Beside_ok W39 cap1 (rdL HD.out HR1.out) hy41
                      clear hy41
                      replace HC42 := Lib.hid HC42
                      cases y43
                      · replace HL2 := Lib.hid (ifF Bool.false_ne_true HL2.out)
                        try go_wp2_with fail
                        refine HC42.out.mono ?_; rintro e w' ⟨rfl, rfl⟩
                        try go_wp2_with fail
                        try clear hc40
                        obtain ⟨y44, hy45, hm⟩ := obind HL2.out
                        replace HL2 := Lib.hid hm; clear hm
                        obtain ⟨f46, hy45⟩ := md_some hy45; subst hy45
                        obtain ⟨y47, hy48, hm⟩ := obind HL2.out
                        replace HL2 := Lib.hid hm; clear hm
                        obtain ⟨f49, hy48⟩ := md_some hy48; subst hy48
                        rcases Bool.eq_false_or_eq_true (((x26 : Int).tmod y7) != ((x35 : Int).tmod y7)) with hc50 | hc50
                        · replace HL2 := Lib.hid (ifT hc50 HL2.out)
                          go_quiet (fail)
                          generalize hW : World.drewN W39 _ = W51
                          have hd : Dr W39 W51 := ⟨_, hW.symm⟩
                          clear hW
                          try clear f46 f49 hc50
                          replace HD := Lib.hid (HD.out.trans ((hd.below _).mono HD.out.size))
                          replace HW1 := Lib.hid (HW1.out.trans ((hd.below _).mono HW1.out.size))
                          replace HW2 := Lib.hid (HW2.out.trans ((hd.below _).mono HW2.out.size))
                          clear hd
                          go_wp2_with fail
                          go_roundg g2
                          case measure => omega
                          case rel => exact ⟨x33, (wrap64 (x34 + 1)), (wrap64 (x35 + 1)), rfl, rfl, rfl, HW2, HL2⟩
                        · replace HL2 := Lib.hid (ifF (bF hc50) HL2.out)
                          go_quiet (fail)
                          generalize hW : World.drewN W39 _ = W52
                          have hd : Dr W39 W52 := ⟨_, hW.symm⟩
                          clear hW
                          try clear f46 f49 hc50
                          replace HD := Lib.hid (HD.out.trans ((hd.below _).mono HD.out.size))
                          replace HW1 := Lib.hid (HW1.out.trans ((hd.below _).mono HW1.out.size))
                          replace HW2 := Lib.hid (HW2.out.trans ((hd.below _).mono HW2.out.size))
                          clear hd
                          go_wp2_with fail
                          go_roundg g2
                          case measure => omega
                          case rel => exact ⟨x33, x34, (wrap64 (x35 + 1)), rfl, rfl, rfl, HW2, HL2⟩
                      · replace HL2 := Lib.hid (ifT rfl HL2.out)
                        try go_wp2_with fail
                        refine HC42.out.mono ?_; rintro e w' ⟨rfl, rfl⟩
                        try go_wp2_with fail
                        try clear hc40
                        obtain ⟨y53, hy54, hm⟩ := obind HL2.out
                        replace HL2 := Lib.hid hm; clear hm
                        obtain ⟨f55, hy54⟩ := md_some hy54; subst hy54
                        obtain ⟨y56, hy57, hm⟩ := obind HL2.out
                        replace HL2 := Lib.hid hm; clear hm
                        obtain ⟨f58, hy57⟩ := md_some hy57; subst hy57
                        rcases Bool.eq_false_or_eq_true (((x26 : Int).tmod y7) != ((x35 : Int).tmod y7)) with hc59 | hc59
                        · replace HL2 := Lib.hid (ifT hc59 HL2.out)
                          go_quiet (fail)
                          generalize hW : World.drewN W39 _ = W60
                          have hd : Dr W39 W60 := ⟨_, hW.symm⟩
                          clear hW
                          try clear f55 f58 hc59
                          replace HD := Lib.hid (HD.out.trans ((hd.below _).mono HD.out.size))
                          replace HW1 := Lib.hid (HW1.out.trans ((hd.below _).mono HW1.out.size))
                          replace HW2 := Lib.hid (HW2.out.trans ((hd.below _).mono HW2.out.size))
                          clear hd
                          go_wp2_with fail
                          go_roundg g2
                          case measure => omega
                          case rel => exact ⟨(wrap64 (x33 + 1)), (wrap64 (x34 + 1)), (wrap64 (x35 + 1)), rfl, rfl, rfl, HW2, HL2⟩
                        · replace HL2 := Lib.hid (ifF (bF hc59) HL2.out)
                          go_quiet (fail)
                          generalize hW : World.drewN W39 _ = W61
                          have hd : Dr W39 W61 := ⟨_, hW.symm⟩
                          clear hW
                          try clear f55 f58 hc59
                          replace HD := Lib.hid (HD.out.trans ((hd.below _).mono HD.out.size))
                          replace HW1 := Lib.hid (HW1.out.trans ((hd.below _).mono HW1.out.size))
                          replace HW2 := Lib.hid (HW2.out.trans ((hd.below _).mono HW2.out.size))
                          clear hd
                          go_wp2_with fail
                          go_roundg g2
                          case measure => omega
                          case rel => exact ⟨(wrap64 (x33 + 1)), x34, (wrap64 (x35 + 1)), rfl, rfl, rfl, HW2, HL2⟩
                    · replace HL2 := Lib.hid (ifF hc40 HL2.out)
                      obtain rfl := Option.some.inj HL2.out
                      have hm := HL1.out; try dsimp only at hm
                      replace HL1 := Lib.hid hm; clear hm
                      go_wp2_with fail
                      try clear hc40
                      go_roundg g1
                      case measure => omega
                      case rel => exact ⟨x33, x34, (wrap64 (x26 + 1)), rfl, rfl, rfl, HW1, HL1⟩
              · replace HL1 := Lib.hid (ifF hc31 HL1.out)
                obtain rfl := Option.some.inj HL1.out
                have hm := HM.out; try dsimp only at hm
                replace HM := Lib.hid hm; clear hm
                obtain ⟨b62, hb, hm⟩ := obind HM.out
                replace HM := Lib.hid hm; have HB63 := Lib.hid hb; clear hm hb
                by_cases hc64 : x24 ≤ x25
                · replace HB63 := Lib.hid (ifT hc64 HB63.out)
                  obtain rfl := Option.some.inj HB63.out
                  obtain rfl := Option.some.inj HM.out
                  go_wp2_with fail
                  try clear hc31 hc64
                  go_ret
                  exact ⟨rfl, HD.out⟩
                · replace HB63 := Lib.hid (ifF hc64 HB63.out)
                  obtain rfl := Option.some.inj HB63.out
                  obtain rfl := Option.some.inj HM.out
                  go_wp2_with fail
                  try clear hc31 hc64
                  go_ret
                  exact ⟨rfl, HD.out⟩
    · rw [errV_pos _ hz9] at HC6; replace HC6 := Lib.hid HC6
      go_wp2_with fail
      refine HC6.out.mono ?_; rintro e W11 ⟨rfl, hd⟩
      replace HD := Lib.hid (HD.out.trans (hd.mono HD.out.size))
      clear hd
      have HZ12 := Lib.hid hz9; clear hz9
      replace HM := Lib.hid (ifT (bne_iff_ne.2 HZ12.out) HM.out)
      obtain ⟨b65, hb, hm⟩ := obind HM.out
      replace HM := Lib.hid hm; have HB66 := Lib.hid hb; clear hm hb
      rcases Bool.eq_false_or_eq_true (y7 == 0) with hc67 | hc67
      · replace HB66 := Lib.hid (ifT hc67 HB66.out)
        obtain rfl := Option.some.inj HB66.out
        obtain rfl := Option.some.inj HM.out
        go_wp2_with fail
        try clear hc67
        go_ret
        exact ⟨rfl, HD.out⟩
      · replace HB66 := Lib.hid (ifF (bF hc67) HB66.out)
        obtain rfl := Option.some.inj HB66.out
        obtain rfl := Option.some.inj HM.out
        go_wp2_with fail
        try clear hc67
        go_ret
        exact ⟨rfl, HD.out⟩
end Go.Proofs.Ytpcmofhmhggcoaa
