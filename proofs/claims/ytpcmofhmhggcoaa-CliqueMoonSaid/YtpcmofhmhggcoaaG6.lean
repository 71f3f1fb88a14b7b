import Derived.Test.YtpcmofhmhggcoaaG5
set_option linter.all false
namespace Go.Proofs.Ytpcmofhmhggcoaa
open Go.RowKit
def L3_CliqueMoon_L3 (F : Nat) (v4 : List (List Int)) (v7 : Int) (v8 : Int) : Nat → (Bool) → (Int) → Option (Bool × Int)
  | 0, _, _ => none
  | g+1, v9, v10 => if v10 < ((v4).length : Int) then (if v9 = true then some true else (ix v4 v10).bind fun y9 => (R1_Has F (y9) (v7)).bind fun y10 => if y10 = true then (ix v4 v10).bind fun y11 => (R1_Has F (y11) (v8)).bind fun y12 => if y12 = true then some true else some false else some false).bind fun b8 => L3_CliqueMoon_L3 F v4 v7 v8 g (b8) ((wrap64 (v10 + 1))) else some (v9, v10)
theorem L3_CliqueMoon_L3_0 (F : Nat) (v4 : List (List Int)) (v7 : Int) (v8 : Int) (v9 : Bool) (v10 : Int) : L3_CliqueMoon_L3 F v4 v7 v8 0 v9 v10 = none := by rw [L3_CliqueMoon_L3]
theorem L3_CliqueMoon_L3_s (F g : Nat) (v4 : List (List Int)) (v7 : Int) (v8 : Int) (v9 : Bool) (v10 : Int) : L3_CliqueMoon_L3 F v4 v7 v8 (g+1) v9 v10 = (if v10 < ((v4).length : Int) then (if v9 = true then some true else (ix v4 v10).bind fun y9 => (R1_Has F (y9) (v7)).bind fun y10 => if y10 = true then (ix v4 v10).bind fun y11 => (R1_Has F (y11) (v8)).bind fun y12 => if y12 = true then some true else some false else some false).bind fun b8 => L3_CliqueMoon_L3 F v4 v7 v8 g (b8) ((wrap64 (v10 + 1))) else some (v9, v10)) := by rw [L3_CliqueMoon_L3]
def L3_CliqueMoon_L2 (F : Nat) (v1 : List (Int × Int)) (v4 : List (List Int)) (v7 : Int) : Nat → (Int) → Option ((Int) ⊕ (Bool))
  | 0, _ => none
  | g+1, v8 => if v8 ≤ v7 then ((if (v7 != v8) = true then (R1_Beside F (v1) (v7) (v8)).bind fun y7 => if y7 = true then some false else some true else some false).bind fun b6 => if b6 = true then L3_CliqueMoon_L2 F v1 v4 v7 g ((wrap64 (v8 + 1))) else (L3_CliqueMoon_L3 F (v4) (v7) (v8) F (false) (0)).bind fun o13 => (if o13.1 = true then L3_CliqueMoon_L2 F v1 v4 v7 g ((wrap64 (v8 + 1))) else some (.inr (false)))) else some (.inl (v8))
theorem L3_CliqueMoon_L2_0 (F : Nat) (v1 : List (Int × Int)) (v4 : List (List Int)) (v7 : Int) (v8 : Int) : L3_CliqueMoon_L2 F v1 v4 v7 0 v8 = none := by rw [L3_CliqueMoon_L2]
theorem L3_CliqueMoon_L2_s (F g : Nat) (v1 : List (Int × Int)) (v4 : List (List Int)) (v7 : Int) (v8 : Int) : L3_CliqueMoon_L2 F v1 v4 v7 (g+1) v8 = (if v8 ≤ v7 then ((if (v7 != v8) = true then (R1_Beside F (v1) (v7) (v8)).bind fun y7 => if y7 = true then some false else some true else some false).bind fun b6 => if b6 = true then L3_CliqueMoon_L2 F v1 v4 v7 g ((wrap64 (v8 + 1))) else (L3_CliqueMoon_L3 F (v4) (v7) (v8) F (false) (0)).bind fun o13 => (if o13.1 = true then L3_CliqueMoon_L2 F v1 v4 v7 g ((wrap64 (v8 + 1))) else some (.inr (false)))) else some (.inl (v8))) := by rw [L3_CliqueMoon_L2]
def L3_CliqueMoon_L1 (F : Nat) (v0 : Int) (v1 : List (Int × Int)) (v4 : List (List Int)) : Nat → (Int) → Option ((Int) ⊕ (Bool))
  | 0, _ => none
  | g+1, v7 => if v7 < v0 then (L3_CliqueMoon_L2 F (v1) (v4) (v7) F (0)).bind fun o14 => match o14 with | .inr r => some (.inr (r)) | .inl o14 => L3_CliqueMoon_L1 F v0 v1 v4 g ((wrap64 (v7 + 1))) else some (.inl (v7))
theorem L3_CliqueMoon_L1_0 (F : Nat) (v0 : Int) (v1 : List (Int × Int)) (v4 : List (List Int)) (v7 : Int) : L3_CliqueMoon_L1 F v0 v1 v4 0 v7 = none := by rw [L3_CliqueMoon_L1]
theorem L3_CliqueMoon_L1_s (F g : Nat) (v0 : Int) (v1 : List (Int × Int)) (v4 : List (List Int)) (v7 : Int) : L3_CliqueMoon_L1 F v0 v1 v4 (g+1) v7 = (if v7 < v0 then (L3_CliqueMoon_L2 F (v1) (v4) (v7) F (0)).bind fun o14 => match o14 with | .inr r => some (.inr (r)) | .inl o14 => L3_CliqueMoon_L1 F v0 v1 v4 g ((wrap64 (v7 + 1))) else some (.inl (v7))) := by rw [L3_CliqueMoon_L1]
def L3_CliqueMoon (F : Nat) (v0 : Int) (v1 : List (Int × Int)) : Option (Bool) := (mFact ).bind fun y1 => (if y1 = true then (mAll (v0) (v1)).bind fun y2 => (if (y2.2 != 0) = true then (if (((y2.1).length : Int) == 0) = true then some true else some false).bind fun b3 => some (b3) else ((R1_Lines F (v0) (v1)).bind fun y4 => if (y4 != 0) = true then some (false) else ((ix [1, 1, 2, 3, 4, 6, 9, 12, 18] v0).bind fun y5 => if y5 < ((y2.1).length : Int) then some (false) else (L3_CliqueMoon_L1 F (v0) (v1) (y2.1) F (0)).bind fun o15 => match o15 with | .inr r => some (r) | .inl o15 => some (true)))) else some (false))
set_option maxRecDepth 100000 in
set_option maxHeartbeats 1000000 in
theorem L3_CliqueMoon_ok {F : Nat} {v0 : Int} {v1 : List (Int × Int)} {A1 : Option Addr} {r : Bool} (w : World) (cap1 : Nat) (hr1 : ReadsL w w.heap.size A1 v1) (h : L3_CliqueMoon F v0 v1 = some r) :
    Calls Try.prog 3 #[.int .i64 v0, .slice A1 v1.length cap1] w fun e w' => e = .returned (.bool r) ∧ Below w.heap.size w w' := by
  have HR1 := Lib.hid hr1; clear hr1
  have HD := Lib.hid (Below.refl w.heap.size w)
  unfold L3_CliqueMoon at h
  have HM := Lib.hid h; clear h
  go_enter Try.func3, Try.ntmps3
  obtain ⟨y3, hy1, hm⟩ := obind HM.out
  replace HM := Lib.hid hm; clear hm
  have HC2 := mFact_ok w  hy1
  clear hy1
  replace HC2 := Lib.hid HC2
  go_wp2_with fail
  refine HC2.out.mono ?_; rintro e W4 ⟨rfl, hd⟩
  replace HD := Lib.hid (HD.out.trans (hd.mono HD.out.size))
  clear hd
  cases y3
  · replace HM := Lib.hid (ifF Bool.false_ne_true HM.out)
    obtain rfl := Option.some.inj HM.out
    go_wp2_with fail
    go_ret
    exact ⟨rfl, HD.out⟩
  · replace HM := Lib.hid (ifT rfl HM.out)
    obtain ⟨⟨y7, y8⟩, hy5, hm⟩ := obind HM.out
    dsimp only at hm
    replace HM := Lib.hid hm; clear hm
    have HC6 := mAll_ok W4 cap1 (rdL HD.out HR1.out) hy5
    clear hy5
    by_cases hz9 : y8 = 0
    · subst hz9
      rw [errV_zero] at HC6; replace HC6 := Lib.hid HC6
      go_wp2_with fail
      refine HC6.out.mono ?_; rintro e W10 ⟨A11, cap12, rfl, hr0, hd⟩
      replace HD := Lib.hid (HD.out.trans (hd.mono HD.out.size))
      clear hd
      have HR13 := Lib.hid hr0; clear hr0
      replace HM := Lib.hid (ifF (by decide) HM.out)
      obtain ⟨y21, hy19, hm⟩ := obind HM.out
      replace HM := Lib.hid hm; clear hm
      have HC20 := R1_Lines_ok W10 cap1 (rdL HD.out HR1.out) hy19
      clear hy19
      replace HC20 := Lib.hid HC20
      go_wp2_with fail
      refine HC20.out.mono ?_; rintro e W22 ⟨rfl, hd⟩
      replace HR13 := Lib.hid (rdR (hd.below _) HR13.out)
      replace HD := Lib.hid (HD.out.trans ((hd.below _).mono HD.out.size))
      clear hd
      rcases Bool.eq_false_or_eq_true (y21 != 0) with hc23 | hc23
      · replace HM := Lib.hid (ifT hc23 HM.out)
        obtain rfl := Option.some.inj HM.out
        go_wp2_with fail
        try clear hc23
        go_ret
        exact ⟨rfl, HD.out⟩
      · replace HM := Lib.hid (ifF (bF hc23) HM.out)
        go_upto_region 10 with (fail)
        have hd : Below W22.heap.size W22 (W22.alloc (.cells #[Value.int .i64 (1), Value.int .i64 (1), Value.int .i64 (2), Value.int .i64 (3), Value.int .i64 (4), Value.int .i64 (6), Value.int .i64 (9), Value.int .i64 (12), Value.int .i64 (18)] 3)) := (Below.refl _ _).alloc (Nat.le_refl _) _
        have hrl : ReadsI (W22.alloc (.cells #[Value.int .i64 (1), Value.int .i64 (1), Value.int .i64 (2), Value.int .i64 (3), Value.int .i64 (4), Value.int .i64 (6), Value.int .i64 (9), Value.int .i64 (12), Value.int .i64 (18)] 3)) (W22.alloc (.cells #[Value.int .i64 (1), Value.int .i64 (1), Value.int .i64 (2), Value.int .i64 (3), Value.int .i64 (4), Value.int .i64 (6), Value.int .i64 (9), Value.int .i64 (12), Value.int .i64 (18)] 3)).heap.size (some ⟨W22.heap.size, 0, none⟩) [1, 1, 2, 3, 4, 6, 9, 12, 18] := litI W22 [1, 1, 2, 3, 4, 6, 9, 12, 18] 3
        generalize hW : World.alloc W22 _ = W24 at *
        clear hW
        replace HR13 := Lib.hid (rdR hd HR13.out)
        replace HD := Lib.hid (HD.out.trans (hd.mono HD.out.size))
        clear hd
        have HR25 := Lib.hid hrl; clear hrl
        obtain ⟨y26, hy27, hm⟩ := obind HM.out
        replace HM := Lib.hid hm; clear hm
        obtain ⟨b28, o29, ea30, _, f31, f32, f33⟩ := ReadsI.ix HR25.out hy27
        cases ea30
        try simp only [Nat.zero_add] at f33
        have HY35 := Lib.hid hy27; clear hy27
        by_cases hc36 : y26 < ((y7).length : Int)
        · replace HM := Lib.hid (ifT hc36 HM.out)
          obtain rfl := Option.some.inj HM.out
          go_wp2_with fail
          try clear f31 f32 f33 hc36
          go_ret
          exact ⟨rfl, HD.out⟩
        · replace HM := Lib.hid (ifF hc36 HM.out)
          go_wp2_with fail
          try clear f31 f32 f33 hc36
          obtain ⟨o37, ho, hm⟩ := obind HM.out
          replace HM := Lib.hid hm; have HL1 := Lib.hid ho; clear hm ho
          go_loopg [9] F (fun gg u39 wr => ∃ (x38 : Int), u39 = .int .i64 x38 ∧ Hid (Below W24.heap.size W24 wr) ∧ Hid (L3_CliqueMoon_L1 F (v0) (v1) (y7) gg x38 = some o37))
          case atStart => exact ⟨0, rfl, (Lib.hid (Below.refl _ _)), HL1⟩
          case round =>
            obtain ⟨x38, rfl, HW1, HL1⟩ := hrel
            rename World => W40
            have hd := HW1.out
            replace HR13 := Lib.hid (rdR hd HR13.out)
            replace HR25 := Lib.hid (rdI hd HR25.out)
            replace HD := Lib.hid (HD.out.trans (hd.mono HD.out.size))
            clear hd
            cases gk with
            | zero => exact absurd ((L3_CliqueMoon_L1_0 ..).symm.trans HL1.out) (by intro h; cases h)
            | succ g1 =>
              replace HL1 := Lib.hid ((L3_CliqueMoon_L1_s ..).symm.trans HL1.out)
              by_cases hc41 : x38 < v0
              · replace HL1 := Lib.hid (ifT hc41 HL1.out)
                go_wp2_with fail
                try clear hc41
                obtain ⟨o42, ho, hm⟩ := obind HL1.out
                replace HL1 := Lib.hid hm; have HL2 := Lib.hid ho; clear hm ho
                go_loopg [10] F (fun gg u44 wr => ∃ (x43 : Int), u44 = .int .i64 x43 ∧ Hid (Below W40.heap.size W40 wr) ∧ Hid (L3_CliqueMoon_L2 F (v1) (y7) (x38) gg x43 = some o42))
                case atStart => exact ⟨0, rfl, (Lib.hid (Below.refl _ _)), HL2⟩
                case round =>
                  obtain ⟨x43, rfl, HW2, HL2⟩ := hrel
                  rename World => W45
                  have hd := HW2.out
                  replace HR13 := Lib.hid (rdR hd HR13.out)
                  replace HR25 := Lib.hid (rdI hd HR25.out)
                  replace HD := Lib.hid (HD.out.trans (hd.mono HD.out.size))
                  replace HW1 := Lib.hid (HW1.out.trans (hd.mono HW1.out.size))
                  clear hd
                  cases gk with
                  | zero => exact absurd ((L3_CliqueMoon_L2_0 ..).symm.trans HL2.out) (by intro h; cases h)
                  | succ g2 =>
                    replace HL2 := Lib.hid ((L3_CliqueMoon_L2_s ..).symm.trans HL2.out)
                    by_cases hc46 : x43 ≤ x38
                    · replace HL2 := Lib.hid (ifT hc46 HL2.out)
                      obtain ⟨b47, hb, hm⟩ := obind HL2.out
                      replace HL2 := Lib.hid hm; have HB48 := Lib.hid hb; clear hm hb
                      rcases Bool.eq_false_or_eq_true (x38 != x43) with hc49 | hc49
                      · replace HB48 := Lib.hid (ifT hc49 HB48.out)
                        obtain ⟨y52, hy50, hm⟩ := obind HB48.out
                        replace HB48 := Lib.hid hm; clear hm
                        have HC51 := R1_Beside_ok W45 cap1 (rdL HD.out HR1.out) hy50
                        clear hy50
                        replace HC51 := Lib.hid HC51
                        cases y52
                        · replace HB48 := Lib.hid (ifF Bool.false_ne_true HB48.out)
                          obtain rfl := Option.some.inj HB48.out
                          replace HL2 := Lib.hid (ifT rfl HL2.out)
                          go_wp2_with fail
                          refine HC51.out.mono ?_; rintro e w' ⟨rfl, rfl⟩
                          go_wp2_with fail
                          try clear hc46 hc49
                          go_roundg g2
                          case measure => omega
                          case rel => exact ⟨(wrap64 (x43 + 1)), rfl, HW2, HL2⟩
                        · replace HB48 := Lib.hid (ifT rfl HB48.out)
                          obtain rfl := Option.some.inj HB48.out
                          replace HL2 := Lib.hid (ifF Bool.false_ne_true HL2.out)
                          go_wp2_with fail
                          refine HC51.out.mono ?_; rintro e w' ⟨rfl, rfl⟩
                          go_wp2_with fail
                          try clear hc46 hc49
                          obtain ⟨o53, ho, hm⟩ := obind HL2.out
                          replace HL2 := Lib.hid hm; have HL3 := Lib.hid ho; clear hm ho
                          go_loopg [11, 12] F (fun gg u56 u57 wr => ∃ (x54 : Bool) (x55 : Int), u56 = .bool x54 ∧ u57 = .int .i64 x55 ∧ Hid (Below W45.heap.size W45 wr) ∧ Hid (L3_CliqueMoon_L3 F (y7) (x38) (x43) gg x54 x55 = some o53))
                          case atStart => exact ⟨false, 0, rfl, rfl, (Lib.hid (Below.refl _ _)), HL3⟩
                          case round =>
                            obtain ⟨x54, x55, rfl, rfl, HW3, HL3⟩ := hrel
                            rename World => W58
                            have hd := HW3.out
                            replace HR13 := Lib.hid (rdR hd HR13.out)
                            replace HR25 := Lib.hid (rdI hd HR25.out)
                            replace HD := Lib.hid (HD.out.trans (hd.mono HD.out.size))
                            replace HW1 := Lib.hid (HW1.out.trans (hd.mono HW1.out.size))
                            replace HW2 := Lib.hid (HW2.out.trans (hd.mono HW2.out.size))
                            clear hd
                            cases gk with
                            | zero => exact absurd ((L3_CliqueMoon_L3_0 ..).symm.trans HL3.out) (by intro h; cases h)
                            | succ g3 =>
                              replace HL3 := Lib.hid ((L3_CliqueMoon_L3_s ..).symm.trans HL3.out)
                              by_cases hc59 : x55 < ((y7).length : Int)
                              · replace HL3 := Lib.hid (ifT hc59 HL3.out)
                                obtain ⟨b60, hb, hm⟩ := obind HL3.out
                                replace HL3 := Lib.hid hm; have HB61 := Lib.hid hb; clear hm hb
                                cases x54
                                · replace HB61 := Lib.hid (ifF Bool.false_ne_true HB61.out)
                                  obtain ⟨y62, hy63, hm⟩ := obind HB61.out
                                  replace HB61 := Lib.hid hm; clear hm
                                  obtain ⟨b64, o65, A71, cap72, ea66, _, f67, f68, f69, hrr⟩ := ReadsR.ix HR13.out hy63
                                  cases ea66
                                  try simp only [Nat.zero_add] at f69
                                  have HR73 := Lib.hid hrr; clear hrr
                                  have HY74 := Lib.hid hy63; clear hy63
                                  obtain ⟨y77, hy75, hm⟩ := obind HB61.out
                                  replace HB61 := Lib.hid hm; clear hm
                                  have HC76 := R1_Has_ok W58 cap72 HR73.out hy75
                                  clear hy75
                                  replace HC76 := Lib.hid HC76
                                  cases y77
                                  · replace HB61 := Lib.hid (ifF Bool.false_ne_true HB61.out)
                                    obtain rfl := Option.some.inj HB61.out
                                    go_wp2_with fail
                                    refine HC76.out.mono ?_; rintro e w' ⟨rfl, rfl⟩
                                    go_wp2_with fail
                                    try clear hc59 f67 f68 f69
                                    go_roundg g3
                                    case measure => omega
                                    case rel => exact ⟨false, (wrap64 (x55 + 1)), rfl, rfl, HW3, HL3⟩
                                  · replace HB61 := Lib.hid (ifT rfl HB61.out)
                                    obtain ⟨y78, hy79, hm⟩ := obind HB61.out
                                    replace HB61 := Lib.hid hm; clear hm
                                    obtain rfl := Option.some.inj (HY74.out.symm.trans hy79)
                                    clear hy79
                                    obtain ⟨y82, hy80, hm⟩ := obind HB61.out
                                    replace HB61 := Lib.hid hm; clear hm
                                    have HC81 := R1_Has_ok W58 cap72 HR73.out hy80
                                    clear hy80
                                    replace HC81 := Lib.hid HC81
                                    cases y82
                                    · replace HB61 := Lib.hid (ifF Bool.false_ne_true HB61.out)
                                      obtain rfl := Option.some.inj HB61.out
                                      go_wp2_with fail
                                      refine HC76.out.mono ?_; rintro e w' ⟨rfl, rfl⟩
                                      go_wp2_with fail
                                      refine HC81.out.mono ?_; rintro e w' ⟨rfl, rfl⟩
                                      go_wp2_with fail
                                      try clear hc59 f67 f68 f69
                                      go_roundg g3
                                      case measure => omega
                                      case rel => exact ⟨false, (wrap64 (x55 + 1)), rfl, rfl, HW3, HL3⟩
                                    · replace HB61 := Lib.hid (ifT rfl HB61.out)
                                      obtain rfl := Option.some.inj HB61.out
                                      go_wp2_with fail
                                      refine HC76.out.mono ?_; rintro e w' ⟨rfl, rfl⟩
                                      go_wp2_with fail
                                      refine HC81.out.mono ?_; rintro e w' ⟨rfl, rfl⟩
                                      go_wp2_with fail
                                      try clear hc59 f67 f68 f69
                                      go_roundg g3
                                      case measure => omega
                                      case rel => exact ⟨true, (wrap64 (x55 + 1)), rfl, rfl, HW3, HL3⟩
                                · replace HB61 := Lib.hid (ifT rfl HB61.out)
                                  obtain rfl := Option.some.inj HB61.out
                                  go_wp2_with fail
                                  try clear hc59
                                  go_roundg g3
                                  case measure => omega
                                  case rel => exact ⟨true, (wrap64 (x55 + 1)), rfl, rfl, HW3, HL3⟩
                              · replace HL3 := Lib.hid (ifF hc59 HL3.out)
                                obtain rfl := Option.some.inj HL3.out
                                have hm := HL2.out; try dsimp only at hm
                                replace HL2 := Lib.hid hm; clear hm
                                cases x54
                                · replace HL2 := Lib.hid (ifF Bool.false_ne_true HL2.out)
                                  obtain rfl := Option.some.inj HL2.out
                                  have hm := HL1.out; try dsimp only at hm
                                  replace HL1 := Lib.hid hm; clear hm
                                  obtain rfl := Option.some.inj HL1.out
                                  have hm := HM.out; try dsimp only at hm
                                  replace HM := Lib.hid hm; clear hm
                                  obtain rfl := Option.some.inj HM.out
                                  go_wp2_with fail
                                  try clear hc59
                                  go_ret
                                  exact ⟨rfl, HD.out⟩
                                · replace HL2 := Lib.hid (ifT rfl HL2.out)
                                  go_wp2_with fail
                                  try clear hc59
                                  go_roundg g2
                                  case measure => omega
                                  case rel => exact ⟨(wrap64 (x43 + 1)), rfl, HW2, HL2⟩
                      · replace HB48 := Lib.hid (ifF (bF hc49) HB48.out)
                        obtain rfl := Option.some.inj HB48.out
                        replace HL2 := Lib.hid (ifF Bool.false_ne_true HL2.out)
                        go_wp2_with fail
                        try clear hc46 hc49
                        obtain ⟨o83, ho, hm⟩ := obind HL2.out
                        replace HL2 := Lib.hid hm; have HL3 := Lib.hid ho; clear hm ho
                        go_loopg [11, 12] F (fun gg u86 u87 wr => ∃ (x84 : Bool) (x85 : Int), u86 = .bool x84 ∧ u87 = .int .i64 x85 ∧ Hid (Below W45.heap.size W45 wr) ∧ Hid (L3_CliqueMoon_L3 F (y7) (x38) (x43) gg x84 x85 = some o83))
                        case atStart => exact ⟨false, 0, rfl, rfl, (Lib.hid (Below.refl _ _)), HL3⟩
                        case round =>
                          obtain ⟨x84, x85, rfl, rfl, HW3, HL3⟩ := hrel
                          rename World => W88
                          have hd := HW3.out
                          replace HR13 := Lib.hid (rdR hd HR13.out)
                          replace HR25 := Lib.hid (rdI hd HR25.out)
                          replace HD := Lib.hid (HD.out.trans (hd.mono HD.out.size))
                          replace HW1 := Lib.hid (HW1.out.trans (hd.mono HW1.out.size))
                          replace HW2 := Lib.hid (HW2.out.trans (hd.mono HW2.out.size))
                          clear hd
                          cases gk with
                          | zero => exact absurd ((L3_CliqueMoon_L3_0 ..).symm.trans HL3.out) (by intro h; cases h)
                          | succ g3 =>
                            replace HL3 := Lib.hid ((L3_CliqueMoon_L3_s ..).symm.trans HL3.out)
                            by_cases hc89 : x85 < ((y7).length : Int)
                            · replace HL3 := Lib.hid (ifT hc89 HL3.out)
                              obtain ⟨b90, hb, hm⟩ := obind HL3.out
                              replace HL3 := Lib.hid hm; have HB91 := Lib.hid hb; clear hm hb
                              cases x84
                              · replace HB91 := Lib.hid (ifF Bool.false_ne_true HB91.out)
                                obtain ⟨y92, hy93, hm⟩ := obind HB91.out
                                replace HB91 := Lib.hid hm; clear hm
                                obtain ⟨b94, o95, A101, cap102, ea96, _, f97, f98, f99, hrr⟩ := ReadsR.ix HR13.out hy93
                                cases ea96
                                try simp only [Nat.zero_add] at f99
                                have HR103 := Lib.hid hrr; clear hrr
                                have HY104 := Lib.hid hy93; clear hy93
                                obtain ⟨y107, hy105, hm⟩ := obind HB91.out
                                replace HB91 := Lib.hid hm; clear hm
                                have HC106 := R1_Has_ok W88 cap102 HR103.out hy105
                                clear hy105
                                replace HC106 := Lib.hid HC106
                                cases y107
                                · replace HB91 := Lib.hid (ifF Bool.false_ne_true HB91.out)
                                  obtain rfl := Option.some.inj HB91.out
                                  go_wp2_with fail
                                  refine HC106.out.mono ?_; rintro e w' ⟨rfl, rfl⟩
                                  go_wp2_with fail
                                  try clear hc89 f97 f98 f99
                                  go_roundg g3
                                  case measure => omega
                                  case rel => exact ⟨false, (wrap64 (x85 + 1)), rfl, rfl, HW3, HL3⟩
                                · replace HB91 := Lib.hid (ifT rfl HB91.out)
                                  obtain ⟨y108, hy109, hm⟩ := obind HB91.out
                                  replace HB91 := Lib.hid hm; clear hm
                                  obtain rfl := Option.some.inj (HY104.out.symm.trans hy109)
                                  clear hy109
                                  obtain ⟨y112, hy110, hm⟩ := obind HB91.out
                                  replace HB91 := Lib.hid hm; clear hm
                                  have HC111 := R1_Has_ok W88 cap102 HR103.out hy110
                                  clear hy110
                                  replace HC111 := Lib.hid HC111
                                  cases y112
                                  · replace HB91 := Lib.hid (ifF Bool.false_ne_true HB91.out)
                                    obtain rfl := Option.some.inj HB91.out
                                    go_wp2_with fail
                                    refine HC106.out.mono ?_; rintro e w' ⟨rfl, rfl⟩
                                    go_wp2_with fail
                                    refine HC111.out.mono ?_; rintro e w' ⟨rfl, rfl⟩
                                    go_wp2_with fail
                                    try clear hc89 f97 f98 f99
                                    go_roundg g3
                                    case measure => omega
                                    case rel => exact ⟨false, (wrap64 (x85 + 1)), rfl, rfl, HW3, HL3⟩
                                  · replace HB91 := Lib.hid (ifT rfl HB91.out)
                                    obtain rfl := Option.some.inj HB91.out
                                    go_wp2_with fail
                                    refine HC106.out.mono ?_; rintro e w' ⟨rfl, rfl⟩
                                    go_wp2_with fail
                                    refine HC111.out.mono ?_; rintro e w' ⟨rfl, rfl⟩
                                    go_wp2_with fail
                                    try clear hc89 f97 f98 f99
                                    go_roundg g3
                                    case measure => omega
                                    case rel => exact ⟨true, (wrap64 (x85 + 1)), rfl, rfl, HW3, HL3⟩
                              · replace HB91 := Lib.hid (ifT rfl HB91.out)
                                obtain rfl := Option.some.inj HB91.out
                                go_wp2_with fail
                                try clear hc89
                                go_roundg g3
                                case measure => omega
                                case rel => exact ⟨true, (wrap64 (x85 + 1)), rfl, rfl, HW3, HL3⟩
                            · replace HL3 := Lib.hid (ifF hc89 HL3.out)
                              obtain rfl := Option.some.inj HL3.out
                              have hm := HL2.out; try dsimp only at hm
                              replace HL2 := Lib.hid hm; clear hm
                              cases x84
                              · replace HL2 := Lib.hid (ifF Bool.false_ne_true HL2.out)
                                obtain rfl := Option.some.inj HL2.out
                                have hm := HL1.out; try dsimp only at hm
                                replace HL1 := Lib.hid hm; clear hm
                                obtain rfl := Option.some.inj HL1.out
                                have hm := HM.out; try dsimp only at hm
                                replace HM := Lib.hid hm; clear hm
                                obtain rfl := Option.some.inj HM.out
                                go_wp2_with fail
                                try clear hc89
                                go_ret
                                exact ⟨rfl, HD.out⟩
                              · replace HL2 := Lib.hid (ifT rfl HL2.out)
                                go_wp2_with fail
                                try clear hc89
                                go_roundg g2
                                case measure => omega
                                case rel => exact ⟨(wrap64 (x43 + 1)), rfl, HW2, HL2⟩
                    · replace HL2 := Lib.hid (ifF hc46 HL2.out)
                      obtain rfl := Option.some.inj HL2.out
                      have hm := HL1.out; try dsimp only at hm
                      replace HL1 := Lib.hid hm; clear hm
                      go_wp2_with fail
                      try clear hc46
                      go_roundg g1
                      case measure => omega
                      case rel => exact ⟨(wrap64 (x38 + 1)), rfl, HW1, HL1⟩
              · replace HL1 := Lib.hid (ifF hc41 HL1.out)
                obtain rfl := Option.some.inj HL1.out
                have hm := HM.out; try dsimp only at hm
                replace HM := Lib.hid hm; clear hm
                obtain rfl := Option.some.inj HM.out
                go_wp2_with fail
                try clear hc41
                go_ret
                exact ⟨rfl, HD.out⟩
    · rw [errV_pos _ hz9] at HC6; replace HC6 := Lib.hid HC6
      go_wp2_with fail
      refine HC6.out.mono ?_; rintro e W14 ⟨A15, cap16, rfl, hr0, hd⟩
      replace HD := Lib.hid (HD.out.trans (hd.mono HD.out.size))
      clear hd
      have HR17 := Lib.hid hr0; clear hr0
      have HZ18 := Lib.hid hz9; clear hz9
      replace HM := Lib.hid (ifT (bne_iff_ne.2 HZ18.out) HM.out)
      obtain ⟨b113, hb, hm⟩ := obind HM.out
      replace HM := Lib.hid hm; have HB114 := Lib.hid hb; clear hm hb
      rcases Bool.eq_false_or_eq_true (((y7).length : Int) == 0) with hc115 | hc115
      · replace HB114 := Lib.hid (ifT hc115 HB114.out)
        obtain rfl := Option.some.inj HB114.out
        obtain rfl := Option.some.inj HM.out
        go_wp2_with fail
        try clear hc115
        go_ret
        exact ⟨rfl, HD.out⟩
      · replace HB114 := Lib.hid (ifF (bF hc115) HB114.out)
        obtain rfl := Option.some.inj HB114.out
        obtain rfl := Option.some.inj HM.out
        go_wp2_with fail
        try clear hc115
        go_ret
        exact ⟨rfl, HD.out⟩
end Go.Proofs.Ytpcmofhmhggcoaa
