import Derived.Test.YthgejnjfikljcaaF3
set_option linter.all false
set_option maxRecDepth 100000
namespace Go.Proofs.Ythgejnjfikljcaa
open Go.RowKit
def L3_MeanShift_L1 (F : Nat) (v1 : List (Int × Int × Int)) : Nat → (List (Int × Int × Int)) → (Int) → Option (List (Int × Int × Int) × Int)
  | 0, _, _ => none
  | g+1, v8, v10 => if 0 ≤ v10 then (ix v1 v10).bind fun y5 => (ix v1 v10).bind fun y6 => (ix v1 v10).bind fun y7 => (app v8 (y5.2.1, y6.1, y7.2.2)).bind fun y4 => L3_MeanShift_L1 F v1 g (y4) ((wrap64 (v10 - 1))) else some (v8, v10)
theorem L3_MeanShift_L1_0 (F : Nat) (v1 : List (Int × Int × Int)) (v8 : List (Int × Int × Int)) (v10 : Int) : L3_MeanShift_L1 F v1 0 v8 v10 = none := by rw [L3_MeanShift_L1]
theorem L3_MeanShift_L1_s (F g : Nat) (v1 : List (Int × Int × Int)) (v8 : List (Int × Int × Int)) (v10 : Int) : L3_MeanShift_L1 F v1 (g+1) v8 v10 = (if 0 ≤ v10 then (ix v1 v10).bind fun y5 => (ix v1 v10).bind fun y6 => (ix v1 v10).bind fun y7 => (app v8 (y5.2.1, y6.1, y7.2.2)).bind fun y4 => L3_MeanShift_L1 F v1 g (y4) ((wrap64 (v10 - 1))) else some (v8, v10)) := by rw [L3_MeanShift_L1]
def L3_MeanShift_L2 (F : Nat) (v1 : List (Int × Int × Int)) (v2 : Int) : Nat → (List (Int × Int × Int)) → (Int) → Option (List (Int × Int × Int) × Int)
  | 0, _, _ => none
  | g+1, v9, v13 => if v13 < ((v1).length : Int) then (ix v1 v13).bind fun y14 => (ix v1 v13).bind fun y15 => (ix v1 v13).bind fun y16 => (app v9 (y14.1, y15.2.1, (wrap64 (y16.2.2 + v2)))).bind fun y13 => L3_MeanShift_L2 F v1 v2 g (y13) ((wrap64 (v13 + 1))) else some (v9, v13)
theorem L3_MeanShift_L2_0 (F : Nat) (v1 : List (Int × Int × Int)) (v2 : Int) (v9 : List (Int × Int × Int)) (v13 : Int) : L3_MeanShift_L2 F v1 v2 0 v9 v13 = none := by rw [L3_MeanShift_L2]
theorem L3_MeanShift_L2_s (F g : Nat) (v1 : List (Int × Int × Int)) (v2 : Int) (v9 : List (Int × Int × Int)) (v13 : Int) : L3_MeanShift_L2 F v1 v2 (g+1) v9 v13 = (if v13 < ((v1).length : Int) then (ix v1 v13).bind fun y14 => (ix v1 v13).bind fun y15 => (ix v1 v13).bind fun y16 => (app v9 (y14.1, y15.2.1, (wrap64 (y16.2.2 + v2)))).bind fun y13 => L3_MeanShift_L2 F v1 v2 g (y13) ((wrap64 (v13 + 1))) else some (v9, v13)) := by rw [L3_MeanShift_L2]
def L3_MeanShift (F : Nat) (v0 : Int) (v1 : List (Int × Int × Int)) (v2 : Int) : Option (Bool) := (L3_meanFact F ).bind fun y1 => (if y1 = true then (mean_Least F (v0) (v1)).bind fun y2 => (if (y2.2.2 != 0) = true then (if (y2.1 == 0) = true then if (y2.2.1 == 0) = true then some true else some false else some false).bind fun b3 => some (b3) else (L3_MeanShift_L1 F (v1) F ([]) ((wrap64 (((v1).length : Int) - 1)))).bind fun o8 => (mean_Least F (v0) (o8.1)).bind fun y9 => (((if (y9.2.2 != 0) = true then some true else if (y9.1 != y2.1) = true then some true else some false).bind fun b11 => if b11 = true then some true else if (y9.2.1 != y2.2.1) = true then some true else some false).bind fun b10 => if b10 = true then some (false) else ((L3_in F (v2) (0) (20)).bind fun y12 => if y12 = true then (L3_MeanShift_L2 F (v1) (v2) F ([]) (0)).bind fun o17 => (mean_Least F (v0) (o17.1)).bind fun y18 => ((if (y18.2.2 != 0) = true then (R3_Costs F (v0) (o17.1)).bind fun y21 => if (y21 == 1) = true then some true else some false else some false).bind fun b20 => if b20 = true then some true else ((if (y18.2.2 == 0) = true then (L3_in F (y18.2.1) (1) (8)).bind fun y24 => if y24 = true then some true else some false else some false).bind fun b23 => if b23 = true then if (y18.2.1 == y2.2.1) = true then some true else some false else some false).bind fun b22 => if b22 = true then if (y18.1 == (wrap64 (y2.1 + (wrap64 (v2 * y2.2.1))))) = true then some true else some false else some false).bind fun b19 => some (b19) else some (true)))) else some (false))
set_option maxRecDepth 100000 in
set_option maxHeartbeats 4000000 in
theorem L3_MeanShift_ok {F : Nat} {v0 : Int} {v1 : List (Int × Int × Int)} {A1 : Option Addr} {v2 : Int} {r : Bool} (w : World) (cap1 : Nat) (hr1 : ReadsC w w.heap.size A1 v1) (h : L3_MeanShift F v0 v1 v2 = some r) :
    Calls Try.prog 4 #[.int .i64 v0, .slice A1 v1.length cap1, .int .i64 v2] w fun e w' => e = .returned (.bool r) ∧ Below w.heap.size w w' := by
  have HR1 := Lib.hid hr1; clear hr1
  have HD := Lib.hid (Below.refl w.heap.size w)
  have HOA := Lib.hid (HP.nil (W := w) (B := w.heap.size))
  unfold L3_MeanShift at h
  have HM := Lib.hid h; clear h
  go_enter Try.func4, Try.ntmps4
  obtain ⟨y3, hy1, hm⟩ := obind HM.out
  replace HM := Lib.hid hm; clear hm
  have HC2 := L3_meanFact_ok w  hy1
  clear hy1
  replace HC2 := Lib.hid HC2
  go_wp2_with fail
  refine HC2.out.mono ?_; rintro e W4 ⟨rfl, hd⟩
  replace HOA := Lib.hid (HOA.out.below hd)
  replace HD := Lib.hid (HD.out.trans (hd.mono HD.out.size))
  clear hd
  cases y3
  · replace HM := Lib.hid (ifF Bool.false_ne_true HM.out)
    obtain rfl := Option.some.inj HM.out
    go_wp2_with fail
    go_ret
    exact ⟨rfl, HD.out⟩
  · replace HM := Lib.hid (ifT rfl HM.out)
    obtain ⟨⟨y7, y8, y9⟩, hy5, hm⟩ := obind HM.out
    dsimp only at hm
    replace HM := Lib.hid hm; clear hm
    have HC6 := mean_Least_ok W4 cap1 (rdC HD.out HR1.out) hy5
    clear hy5
    by_cases hz10 : y9 = 0
    · subst hz10
      rw [errV_zero] at HC6; replace HC6 := Lib.hid HC6
      go_wp2_with fail
      refine HC6.out.mono ?_; rintro e W11 ⟨rfl, hd⟩
      replace HOA := Lib.hid (HOA.out.below hd)
      replace HD := Lib.hid (HD.out.trans (hd.mono HD.out.size))
      clear hd
      replace HM := Lib.hid (ifF (by decide) HM.out)
      replace HOA := Lib.hid (show HP _ _ (.fl (owC (.slice none 0 0) ([])) :: _) from HOA.out.pushNil _ _)
      replace HOA := Lib.hid (show HP _ _ (.fl (owC (.slice none 0 0) ([])) :: _) from HOA.out.pushNil _ _)
      go_wp2_with fail
      obtain ⟨o16, ho, hm⟩ := obind HM.out
      replace HM := Lib.hid hm; have HL1 := Lib.hid ho; clear hm ho
      go_loopg [11, 13] F (fun gg ux19 ux20 wr => ∃ (x17 : List (Int × Int × Int)) (x18 : Int) (V21 : Value), V21 = ux19 ∧ ux20 = .int .i64 x18 ∧ Hid (Below w.heap.size w wr) ∧ Hid (HP wr w.heap.size [.fl (owC (.slice none 0 0) ([])), .fl (owC V21 (x17))]) ∧ Hid (L3_MeanShift_L1 F (v1) gg x17 x18 = some o16))
      case atStart => exact ⟨[], (wrap64 (((v1).length : Int) - 1)), (.slice none 0 0), rfl, rfl, HD, HOA, HL1⟩
      case round =>
        obtain ⟨x17, x18, V21, rfl, rfl, HD, HOA, HL1⟩ := hrel
        rename World => W22
        cases gk with
        | zero => exact absurd ((L3_MeanShift_L1_0 ..).symm.trans HL1.out) (by intro h; cases h)
        | succ g1 =>
          replace HL1 := Lib.hid ((L3_MeanShift_L1_s ..).symm.trans HL1.out)
          by_cases hc23 : 0 ≤ x18
          · replace HL1 := Lib.hid (ifT hc23 HL1.out)
            have HK24 := Lib.hid hc23
            try go_wp2_with fail
            try clear hc23
            obtain ⟨y25, hy26, hm⟩ := obind HL1.out
            replace HL1 := Lib.hid hm; clear hm
            obtain ⟨b27, o28, ea29, _, f30, f31, f32, f33, f34⟩ := ReadsC.ix (rdC HD.out HR1.out) hy26
            cases ea29
            try simp only [Nat.zero_add, Nat.add_zero, Int.toNat_natCast, Int.toNat_zero, Int.toNat_one] at f32 f33 f34
            have HY35 := Lib.hid hy26; clear hy26
            obtain ⟨y36, hy37, hm⟩ := obind HL1.out
            replace HL1 := Lib.hid hm; clear hm
            obtain rfl := Option.some.inj (HY35.out.symm.trans hy37)
            clear hy37
            obtain ⟨y38, hy39, hm⟩ := obind HL1.out
            replace HL1 := Lib.hid hm; clear hm
            obtain rfl := Option.some.inj (HY35.out.symm.trans hy39)
            clear hy39
            obtain ⟨y40, hy41, hm⟩ := obind HL1.out
            replace HL1 := Lib.hid hm; clear hm
            obtain ⟨f42, hy41⟩ := app_some hy41; subst hy41
            have HF45 := Lib.hid f42; clear f42
            have hd1 := Dr.one W22
            replace HOA := Lib.hid (HOA.out.dr hd1)
            replace HD := Lib.hid (HD.out.trans (hd1.below _))
            clear hd1
            go_region_law (first | (refine hp_appC_st (World.drew W22) (.tmp 42) (.tmp 59) 22 Try.underlying22 rfl rfl (L1 := [_]) HOA.out (by simp [Act.eval, Act.put]) (by simp [Act.eval, Act.put]) HF45.out HD.out.size ?_; intro g46 cap47 W44 hoa hd; have HOA2 := Lib.hid hoa; have HD2 := Lib.hid hd; clear hoa hd))
            all_goals
              try clear f30 f31 f32 f33 f34
              replace HOA := Lib.hid (show HP W44 w.heap.size [.fl (owC (.slice none 0 0) ([])), .fl (owC (.slice (some ⟨g46, 0, none⟩) ((x17).length + 1) cap47) ((x17 ++ [(y25.2.1, y25.1, y25.2.2)])))] from by have q := HOA2.out; (try simp only [i64w] at q); exact q); clear HOA2
              replace HD := Lib.hid (HD.out.trans HD2.out); clear HD2
              go_wp2_with fail
              go_roundg g1
              case measure => omega
              case rel => exact ⟨(x17 ++ [(y25.2.1, y25.1, y25.2.2)]), (wrap64 (x18 - 1)), (.slice (some ⟨g46, 0, none⟩) ((x17).length + 1) cap47), rfl, rfl, HD, HOA, HL1⟩
          · replace HL1 := Lib.hid (ifF hc23 HL1.out)
            have hc23d := decide_eq_false hc23
            have HK24 := Lib.hid hc23
            obtain rfl := Option.some.inj HL1.out
            have hm := HM.out; try dsimp only at hm
            replace HM := Lib.hid hm; clear hm
            obtain ⟨⟨y50, y51, y52⟩, hy48, hm⟩ := obind HM.out
            dsimp only at hm
            replace HM := Lib.hid hm; clear hm
            obtain ⟨A53, cap54, he, _⟩ := HP.open_C HOA.out (List.Mem.tail _ (List.Mem.head _))
            subst he
            have HC49 := mean_Least_ok W22 cap54 (HP.rd_C HOA.out (List.Mem.tail _ (List.Mem.head _))) hy48
            clear hy48
            by_cases hz55 : y52 = 0
            · subst hz55
              rw [errV_zero] at HC49; replace HC49 := Lib.hid HC49
              go_wp2_with fail
              refine HC49.out.mono ?_; rintro e W56 ⟨rfl, hd⟩
              try clear hc23 hc23d
              replace HOA := Lib.hid (HOA.out.below hd)
              replace HD := Lib.hid (HD.out.trans (hd.mono HD.out.size))
              clear hd
              go_upto_region 13 with (fail)
              obtain ⟨b59, hb, hm⟩ := obind HM.out
              replace HM := Lib.hid hm; have HB60 := Lib.hid hb; clear hm hb
              go_cut [79] (fun uq wr => uq = .bool b59 ∧ Hid (Below W56.heap.size W56 wr))
              case first =>
                have HWC61 := Lib.hid (Below.refl W56.heap.size W56)
                obtain ⟨b62, hb, hm⟩ := obind HB60.out
                replace HB60 := Lib.hid hm; have HB63 := Lib.hid hb; clear hm hb
                replace HB63 := Lib.hid (ifF (by decide) HB63.out)
                rcases Bool.eq_false_or_eq_true (y50 != y7) with hc64 | hc64
                · replace HB63 := Lib.hid (ifT hc64 HB63.out)
                  have HK65 := Lib.hid hc64
                  obtain rfl := Option.some.inj HB63.out
                  replace HB60 := Lib.hid (ifT (by first | rfl | trivial) HB60.out)
                  cases Option.some.inj HB60.out
                  try go_wp2_with fail
                  go_meet
                  case rel => exact ⟨rfl, HWC61⟩
                · replace HB63 := Lib.hid (ifF (bF hc64) HB63.out)
                  have HK65 := Lib.hid hc64
                  obtain rfl := Option.some.inj HB63.out
                  replace HB60 := Lib.hid (ifF (by first | exact Bool.false_ne_true | exact not_false) HB60.out)
                  rcases Bool.eq_false_or_eq_true (y51 != y8) with hc66 | hc66
                  · replace HB60 := Lib.hid (ifT hc66 HB60.out)
                    have HK67 := Lib.hid hc66
                    cases Option.some.inj HB60.out
                    try go_wp2_with fail
                    go_meet
                    case rel => exact ⟨rfl, HWC61⟩
                  · replace HB60 := Lib.hid (ifF (bF hc66) HB60.out)
                    have HK67 := Lib.hid hc66
                    cases Option.some.inj HB60.out
                    try go_wp2_with fail
                    go_meet
                    case rel => exact ⟨rfl, HWC61⟩
              case rest =>
                obtain ⟨rfl, HWC61⟩ := hcut
                rename World => W68
                have hd := HWC61.out
                replace HOA := Lib.hid (HOA.out.below hd)
                replace HD := Lib.hid (HD.out.trans (hd.mono HD.out.size))
                clear hd
                cases b59
                · replace HM := Lib.hid (ifF Bool.false_ne_true HM.out)
                  obtain ⟨y71, hy69, hm⟩ := obind HM.out
                  replace HM := Lib.hid hm; clear hm
                  have HC70 := L3_in_ok W68  hy69
                  clear hy69
                  replace HC70 := Lib.hid HC70
                  cases y71
                  · replace HM := Lib.hid (ifF Bool.false_ne_true HM.out)
                    obtain rfl := Option.some.inj HM.out
                    go_wp2_with fail
                    refine HC70.out.mono ?_; rintro e w' ⟨rfl, rfl⟩
                    go_wp2_with fail
                    go_ret
                    exact ⟨rfl, HD.out⟩
                  · replace HM := Lib.hid (ifT rfl HM.out)
                    go_wp2_with fail
                    refine HC70.out.mono ?_; rintro e w' ⟨rfl, rfl⟩
                    go_wp2_with fail
                    obtain ⟨o72, ho, hm⟩ := obind HM.out
                    replace HM := Lib.hid hm; have HL2 := Lib.hid ho; clear hm ho
                    go_loopg [12, 16] F (fun gg ux75 ux76 wr => ∃ (x73 : List (Int × Int × Int)) (x74 : Int) (V77 : Value), V77 = ux75 ∧ ux76 = .int .i64 x74 ∧ Hid (Below w.heap.size w wr) ∧ Hid (HP wr w.heap.size [.fl (owC V77 (x73)), .fl (owC (.slice A53 (x17).length cap54) (x17))]) ∧ Hid (L3_MeanShift_L2 F (v1) (v2) gg x73 x74 = some o72))
                    case atStart => exact ⟨[], 0, (.slice none 0 0), rfl, rfl, HD, HOA, HL2⟩
                    case round =>
                      obtain ⟨x73, x74, V77, rfl, rfl, HD, HOA, HL2⟩ := hrel
                      rename World => W78
                      cases gk with
                      | zero => exact absurd ((L3_MeanShift_L2_0 ..).symm.trans HL2.out) (by intro h; cases h)
                      | succ g2 =>
                        replace HL2 := Lib.hid ((L3_MeanShift_L2_s ..).symm.trans HL2.out)
                        by_cases hc79 : x74 < ((v1).length : Int)
                        · replace HL2 := Lib.hid (ifT hc79 HL2.out)
                          have HK80 := Lib.hid hc79
                          try go_wp2_with fail
                          try clear hc79
                          obtain ⟨y81, hy82, hm⟩ := obind HL2.out
                          replace HL2 := Lib.hid hm; clear hm
                          obtain ⟨b83, o84, ea85, _, f86, f87, f88, f89, f90⟩ := ReadsC.ix (rdC HD.out HR1.out) hy82
                          cases ea85
                          try simp only [Nat.zero_add, Nat.add_zero, Int.toNat_natCast, Int.toNat_zero, Int.toNat_one] at f88 f89 f90
                          have HY91 := Lib.hid hy82; clear hy82
                          obtain ⟨y92, hy93, hm⟩ := obind HL2.out
                          replace HL2 := Lib.hid hm; clear hm
                          obtain rfl := Option.some.inj (HY91.out.symm.trans hy93)
                          clear hy93
                          obtain ⟨y94, hy95, hm⟩ := obind HL2.out
                          replace HL2 := Lib.hid hm; clear hm
                          obtain rfl := Option.some.inj (HY91.out.symm.trans hy95)
                          clear hy95
                          obtain ⟨y96, hy97, hm⟩ := obind HL2.out
                          replace HL2 := Lib.hid hm; clear hm
                          obtain ⟨f98, hy97⟩ := app_some hy97; subst hy97
                          have HF101 := Lib.hid f98; clear f98
                          have hd1 := Dr.one W78
                          replace HOA := Lib.hid (HOA.out.dr hd1)
                          replace HD := Lib.hid (HD.out.trans (hd1.below _))
                          clear hd1
                          go_region_law (first | (refine hp_appC_st (World.drew W78) (.tmp 89) (.tmp 108) 22 Try.underlying22 rfl rfl (L1 := []) HOA.out (by simp [Act.eval, Act.put]) (by simp [Act.eval, Act.put]) HF101.out HD.out.size ?_; intro g102 cap103 W100 hoa hd; have HOA2 := Lib.hid hoa; have HD2 := Lib.hid hd; clear hoa hd))
                          all_goals
                            try clear f86 f87 f88 f89 f90
                            replace HOA := Lib.hid (show HP W100 w.heap.size [.fl (owC (.slice (some ⟨g102, 0, none⟩) ((x73).length + 1) cap103) ((x73 ++ [(y81.1, y81.2.1, (wrap64 (y81.2.2 + v2)))]))), .fl (owC (.slice A53 (x17).length cap54) (x17))] from by have q := HOA2.out; (try simp only [i64w] at q); exact q); clear HOA2
                            replace HD := Lib.hid (HD.out.trans HD2.out); clear HD2
                            go_wp2_with fail
                            go_roundg g2
                            case measure => omega
                            case rel => exact ⟨(x73 ++ [(y81.1, y81.2.1, (wrap64 (y81.2.2 + v2)))]), (wrap64 (x74 + 1)), (.slice (some ⟨g102, 0, none⟩) ((x73).length + 1) cap103), rfl, rfl, HD, HOA, HL2⟩
                        · replace HL2 := Lib.hid (ifF hc79 HL2.out)
                          have hc79d := decide_eq_false hc79
                          have HK80 := Lib.hid hc79
                          obtain rfl := Option.some.inj HL2.out
                          have hm := HM.out; try dsimp only at hm
                          replace HM := Lib.hid hm; clear hm
                          obtain ⟨⟨y106, y107, y108⟩, hy104, hm⟩ := obind HM.out
                          dsimp only at hm
                          replace HM := Lib.hid hm; clear hm
                          obtain ⟨A109, cap110, he, _⟩ := HP.open_C HOA.out (List.Mem.head _)
                          subst he
                          have HC105 := mean_Least_ok W78 cap110 (HP.rd_C HOA.out (List.Mem.head _)) hy104
                          clear hy104
                          by_cases hz111 : y108 = 0
                          · subst hz111
                            rw [errV_zero] at HC105; replace HC105 := Lib.hid HC105
                            go_wp2_with fail
                            refine HC105.out.mono ?_; rintro e W112 ⟨rfl, hd⟩
                            try clear hc79 hc79d
                            replace HOA := Lib.hid (HOA.out.below hd)
                            replace HD := Lib.hid (HD.out.trans (hd.mono HD.out.size))
                            clear hd
                            obtain ⟨b115, hb, hm⟩ := obind HM.out
                            replace HM := Lib.hid hm; have HB116 := Lib.hid hb; clear hm hb
                            obtain ⟨b117, hb, hm⟩ := obind HB116.out
                            replace HB116 := Lib.hid hm; have HB118 := Lib.hid hb; clear hm hb
                            replace HB118 := Lib.hid (ifF (by decide) HB118.out)
                            obtain rfl := Option.some.inj HB118.out
                            replace HB116 := Lib.hid (ifF (by first | exact Bool.false_ne_true | exact not_false) HB116.out)
                            obtain ⟨b119, hb, hm⟩ := obind HB116.out
                            replace HB116 := Lib.hid hm; have HB120 := Lib.hid hb; clear hm hb
                            obtain ⟨b121, hb, hm⟩ := obind HB120.out
                            replace HB120 := Lib.hid hm; have HB122 := Lib.hid hb; clear hm hb
                            replace HB122 := Lib.hid (ifT (by decide) HB122.out)
                            obtain ⟨y125, hy123, hm⟩ := obind HB122.out
                            replace HB122 := Lib.hid hm; clear hm
                            have HC124 := L3_in_ok W112  hy123
                            clear hy123
                            replace HC124 := Lib.hid HC124
                            cases y125
                            · replace HB122 := Lib.hid (ifF Bool.false_ne_true HB122.out)
                              obtain rfl := Option.some.inj HB122.out
                              replace HB120 := Lib.hid (ifF (by first | exact Bool.false_ne_true | exact not_false) HB120.out)
                              obtain rfl := Option.some.inj HB120.out
                              replace HB116 := Lib.hid (ifF (by first | exact Bool.false_ne_true | exact not_false) HB116.out)
                              obtain rfl := Option.some.inj HB116.out
                              obtain rfl := Option.some.inj HM.out
                              go_wp2_with fail
                              refine HC124.out.mono ?_; rintro e w' ⟨rfl, rfl⟩
                              go_wp2_with fail
                              go_ret
                              exact ⟨rfl, HD.out⟩
                            · replace HB122 := Lib.hid (ifT rfl HB122.out)
                              obtain rfl := Option.some.inj HB122.out
                              replace HB120 := Lib.hid (ifT (by first | rfl | trivial) HB120.out)
                              rcases Bool.eq_false_or_eq_true (y107 == y8) with hc126 | hc126
                              · replace HB120 := Lib.hid (ifT hc126 HB120.out)
                                have HK127 := Lib.hid hc126
                                obtain rfl := Option.some.inj HB120.out
                                replace HB116 := Lib.hid (ifT (by first | rfl | trivial) HB116.out)
                                rcases Bool.eq_false_or_eq_true (y106 == (wrap64 (y7 + (wrap64 (v2 * y8))))) with hc128 | hc128
                                · replace HB116 := Lib.hid (ifT hc128 HB116.out)
                                  have HK129 := Lib.hid hc128
                                  obtain rfl := Option.some.inj HB116.out
                                  obtain rfl := Option.some.inj HM.out
                                  go_wp2_with fail
                                  refine HC124.out.mono ?_; rintro e w' ⟨rfl, rfl⟩
                                  go_wp2_with fail
                                  go_ret
                                  exact ⟨(by first | rfl | (refine congrArg (fun b => Ending.returned (Value.bool b)) ?_; first | (exact decide_eq_true (by omega)) | (exact decide_eq_false (by omega)))), HD.out⟩
                                · replace HB116 := Lib.hid (ifF (bF hc128) HB116.out)
                                  have HK129 := Lib.hid hc128
                                  obtain rfl := Option.some.inj HB116.out
                                  obtain rfl := Option.some.inj HM.out
                                  go_wp2_with fail
                                  refine HC124.out.mono ?_; rintro e w' ⟨rfl, rfl⟩
                                  go_wp2_with fail
                                  go_ret
                                  exact ⟨(by first | rfl | (refine congrArg (fun b => Ending.returned (Value.bool b)) ?_; first | (exact decide_eq_true (by omega)) | (exact decide_eq_false (by omega)))), HD.out⟩
                              · replace HB120 := Lib.hid (ifF (bF hc126) HB120.out)
                                have HK127 := Lib.hid hc126
                                obtain rfl := Option.some.inj HB120.out
                                replace HB116 := Lib.hid (ifF (by first | exact Bool.false_ne_true | exact not_false) HB116.out)
                                obtain rfl := Option.some.inj HB116.out
                                obtain rfl := Option.some.inj HM.out
                                go_wp2_with fail
                                refine HC124.out.mono ?_; rintro e w' ⟨rfl, rfl⟩
                                go_wp2_with fail
                                go_ret
                                exact ⟨(by first | rfl | (refine congrArg (fun b => Ending.returned (Value.bool b)) ?_; first | (exact decide_eq_true (by omega)) | (exact decide_eq_false (by omega)))), HD.out⟩
                          · rw [errV_pos _ hz111] at HC105; replace HC105 := Lib.hid HC105
                            go_wp2_with fail
                            refine HC105.out.mono ?_; rintro e W113 ⟨rfl, hd⟩
                            try clear hc79 hc79d
                            replace HOA := Lib.hid (HOA.out.below hd)
                            replace HD := Lib.hid (HD.out.trans (hd.mono HD.out.size))
                            clear hd
                            have HZ114 := Lib.hid hz111; clear hz111
                            obtain ⟨b130, hb, hm⟩ := obind HM.out
                            replace HM := Lib.hid hm; have HB131 := Lib.hid hb; clear hm hb
                            obtain ⟨b132, hb, hm⟩ := obind HB131.out
                            replace HB131 := Lib.hid hm; have HB133 := Lib.hid hb; clear hm hb
                            replace HB133 := Lib.hid (ifT (bne_iff_ne.2 HZ114.out) HB133.out)
                            obtain ⟨y136, hy134, hm⟩ := obind HB133.out
                            replace HB133 := Lib.hid hm; clear hm
                            have HC135 := R3_Costs_ok W113 cap110 (HP.rd_C HOA.out (List.Mem.head _)) hy134
                            clear hy134
                            replace HC135 := Lib.hid HC135
                            go_wp2_with fail
                            refine HC135.out.mono ?_; rintro e W137 ⟨rfl, hd⟩
                            replace HOA := Lib.hid (HOA.out.below (hd.below _))
                            replace HD := Lib.hid (HD.out.trans ((hd.below _).mono HD.out.size))
                            clear hd
                            rcases Bool.eq_false_or_eq_true (y136 == 1) with hc138 | hc138
                            · replace HB133 := Lib.hid (ifT hc138 HB133.out)
                              have HK139 := Lib.hid hc138
                              obtain rfl := Option.some.inj HB133.out
                              replace HB131 := Lib.hid (ifT (by first | rfl | trivial) HB131.out)
                              obtain rfl := Option.some.inj HB131.out
                              obtain rfl := Option.some.inj HM.out
                              go_wp2_with fail
                              go_ret
                              exact ⟨(by first | rfl | (refine congrArg (fun b => Ending.returned (Value.bool b)) ?_; first | (exact decide_eq_true (by omega)) | (exact decide_eq_false (by omega)))), HD.out⟩
                            · replace HB133 := Lib.hid (ifF (bF hc138) HB133.out)
                              have HK139 := Lib.hid hc138
                              obtain rfl := Option.some.inj HB133.out
                              replace HB131 := Lib.hid (ifF (by first | exact Bool.false_ne_true | exact not_false) HB131.out)
                              obtain ⟨b140, hb, hm⟩ := obind HB131.out
                              replace HB131 := Lib.hid hm; have HB141 := Lib.hid hb; clear hm hb
                              obtain ⟨b142, hb, hm⟩ := obind HB141.out
                              replace HB141 := Lib.hid hm; have HB143 := Lib.hid hb; clear hm hb
                              replace HB143 := Lib.hid (ifF (fun h => HZ114.out (eq_of_beq h)) HB143.out)
                              obtain rfl := Option.some.inj HB143.out
                              replace HB141 := Lib.hid (ifF (by first | exact Bool.false_ne_true | exact not_false) HB141.out)
                              obtain rfl := Option.some.inj HB141.out
                              replace HB131 := Lib.hid (ifF (by first | exact Bool.false_ne_true | exact not_false) HB131.out)
                              obtain rfl := Option.some.inj HB131.out
                              obtain rfl := Option.some.inj HM.out
                              go_wp2_with fail
                              go_ret
                              exact ⟨(by first | rfl | (refine congrArg (fun b => Ending.returned (Value.bool b)) ?_; first | (exact decide_eq_true (by omega)) | (exact decide_eq_false (by omega)))), HD.out⟩
                · replace HM := Lib.hid (ifT rfl HM.out)
                  obtain rfl := Option.some.inj HM.out
                  go_wp2_with fail
                  go_ret
                  exact ⟨rfl, HD.out⟩
            · rw [errV_pos _ hz55] at HC49; replace HC49 := Lib.hid HC49
              go_wp2_with fail
              refine HC49.out.mono ?_; rintro e W57 ⟨rfl, hd⟩
              try clear hc23 hc23d
              replace HOA := Lib.hid (HOA.out.below hd)
              replace HD := Lib.hid (HD.out.trans (hd.mono HD.out.size))
              clear hd
              have HZ58 := Lib.hid hz55; clear hz55
              go_upto_region 13 with (fail)
              obtain ⟨b144, hb, hm⟩ := obind HM.out
              replace HM := Lib.hid hm; have HB145 := Lib.hid hb; clear hm hb
              go_cut [79] (fun uq wr => uq = .bool b144 ∧ Hid (Below W57.heap.size W57 wr))
              case first =>
                have HWC146 := Lib.hid (Below.refl W57.heap.size W57)
                obtain ⟨b147, hb, hm⟩ := obind HB145.out
                replace HB145 := Lib.hid hm; have HB148 := Lib.hid hb; clear hm hb
                replace HB148 := Lib.hid (ifT (bne_iff_ne.2 HZ58.out) HB148.out)
                obtain rfl := Option.some.inj HB148.out
                replace HB145 := Lib.hid (ifT (by first | rfl | trivial) HB145.out)
                cases Option.some.inj HB145.out
                try go_wp2_with fail
                go_meet
                case rel => exact ⟨rfl, HWC146⟩
              case rest =>
                obtain ⟨rfl, HWC146⟩ := hcut
                rename World => W149
                have hd := HWC146.out
                replace HOA := Lib.hid (HOA.out.below hd)
                replace HD := Lib.hid (HD.out.trans (hd.mono HD.out.size))
                clear hd
                cases b144
                · replace HM := Lib.hid (ifF Bool.false_ne_true HM.out)
                  obtain ⟨y152, hy150, hm⟩ := obind HM.out
                  replace HM := Lib.hid hm; clear hm
                  have HC151 := L3_in_ok W149  hy150
                  clear hy150
                  replace HC151 := Lib.hid HC151
                  cases y152
                  · replace HM := Lib.hid (ifF Bool.false_ne_true HM.out)
                    obtain rfl := Option.some.inj HM.out
                    go_wp2_with fail
                    refine HC151.out.mono ?_; rintro e w' ⟨rfl, rfl⟩
                    go_wp2_with fail
                    go_ret
                    exact ⟨rfl, HD.out⟩
                  · replace HM := Lib.hid (ifT rfl HM.out)
                    go_wp2_with fail
                    refine HC151.out.mono ?_; rintro e w' ⟨rfl, rfl⟩
                    go_wp2_with fail
                    obtain ⟨o153, ho, hm⟩ := obind HM.out
                    replace HM := Lib.hid hm; have HL2 := Lib.hid ho; clear hm ho
                    go_loopg [12, 16] F (fun gg ux156 ux157 wr => ∃ (x154 : List (Int × Int × Int)) (x155 : Int) (V158 : Value), V158 = ux156 ∧ ux157 = .int .i64 x155 ∧ Hid (Below w.heap.size w wr) ∧ Hid (HP wr w.heap.size [.fl (owC V158 (x154)), .fl (owC (.slice A53 (x17).length cap54) (x17))]) ∧ Hid (L3_MeanShift_L2 F (v1) (v2) gg x154 x155 = some o153))
                    case atStart => exact ⟨[], 0, (.slice none 0 0), rfl, rfl, HD, HOA, HL2⟩
                    case round =>
                      obtain ⟨x154, x155, V158, rfl, rfl, HD, HOA, HL2⟩ := hrel
                      rename World => W159
                      cases gk with
                      | zero => exact absurd ((L3_MeanShift_L2_0 ..).symm.trans HL2.out) (by intro h; cases h)
                      | succ g2 =>
                        replace HL2 := Lib.hid ((L3_MeanShift_L2_s ..).symm.trans HL2.out)
                        by_cases hc160 : x155 < ((v1).length : Int)
                        · replace HL2 := Lib.hid (ifT hc160 HL2.out)
                          have HK161 := Lib.hid hc160
                          try go_wp2_with fail
                          try clear hc160
                          obtain ⟨y162, hy163, hm⟩ := obind HL2.out
                          replace HL2 := Lib.hid hm; clear hm
                          obtain ⟨b164, o165, ea166, _, f167, f168, f169, f170, f171⟩ := ReadsC.ix (rdC HD.out HR1.out) hy163
                          cases ea166
                          try simp only [Nat.zero_add, Nat.add_zero, Int.toNat_natCast, Int.toNat_zero, Int.toNat_one] at f169 f170 f171
                          have HY172 := Lib.hid hy163; clear hy163
                          obtain ⟨y173, hy174, hm⟩ := obind HL2.out
                          replace HL2 := Lib.hid hm; clear hm
                          obtain rfl := Option.some.inj (HY172.out.symm.trans hy174)
                          clear hy174
                          obtain ⟨y175, hy176, hm⟩ := obind HL2.out
                          replace HL2 := Lib.hid hm; clear hm
                          obtain rfl := Option.some.inj (HY172.out.symm.trans hy176)
                          clear hy176
                          obtain ⟨y177, hy178, hm⟩ := obind HL2.out
                          replace HL2 := Lib.hid hm; clear hm
                          obtain ⟨f179, hy178⟩ := app_some hy178; subst hy178
                          have HF182 := Lib.hid f179; clear f179
                          have hd1 := Dr.one W159
                          replace HOA := Lib.hid (HOA.out.dr hd1)
                          replace HD := Lib.hid (HD.out.trans (hd1.below _))
                          clear hd1
                          go_region_law (first | (refine hp_appC_st (World.drew W159) (.tmp 89) (.tmp 108) 22 Try.underlying22 rfl rfl (L1 := []) HOA.out (by simp [Act.eval, Act.put]) (by simp [Act.eval, Act.put]) HF182.out HD.out.size ?_; intro g183 cap184 W181 hoa hd; have HOA2 := Lib.hid hoa; have HD2 := Lib.hid hd; clear hoa hd))
                          all_goals
                            try clear f167 f168 f169 f170 f171
                            replace HOA := Lib.hid (show HP W181 w.heap.size [.fl (owC (.slice (some ⟨g183, 0, none⟩) ((x154).length + 1) cap184) ((x154 ++ [(y162.1, y162.2.1, (wrap64 (y162.2.2 + v2)))]))), .fl (owC (.slice A53 (x17).length cap54) (x17))] from by have q := HOA2.out; (try simp only [i64w] at q); exact q); clear HOA2
                            replace HD := Lib.hid (HD.out.trans HD2.out); clear HD2
                            go_wp2_with fail
                            go_roundg g2
                            case measure => omega
                            case rel => exact ⟨(x154 ++ [(y162.1, y162.2.1, (wrap64 (y162.2.2 + v2)))]), (wrap64 (x155 + 1)), (.slice (some ⟨g183, 0, none⟩) ((x154).length + 1) cap184), rfl, rfl, HD, HOA, HL2⟩
                        · replace HL2 := Lib.hid (ifF hc160 HL2.out)
                          have hc160d := decide_eq_false hc160
                          have HK161 := Lib.hid hc160
                          obtain rfl := Option.some.inj HL2.out
                          have hm := HM.out; try dsimp only at hm
                          replace HM := Lib.hid hm; clear hm
                          obtain ⟨⟨y187, y188, y189⟩, hy185, hm⟩ := obind HM.out
                          dsimp only at hm
                          replace HM := Lib.hid hm; clear hm
                          obtain ⟨A190, cap191, he, _⟩ := HP.open_C HOA.out (List.Mem.head _)
                          subst he
                          have HC186 := mean_Least_ok W159 cap191 (HP.rd_C HOA.out (List.Mem.head _)) hy185
                          clear hy185
                          by_cases hz192 : y189 = 0
                          · subst hz192
                            rw [errV_zero] at HC186; replace HC186 := Lib.hid HC186
                            go_wp2_with fail
                            refine HC186.out.mono ?_; rintro e W193 ⟨rfl, hd⟩
                            try clear hc160 hc160d
                            replace HOA := Lib.hid (HOA.out.below hd)
                            replace HD := Lib.hid (HD.out.trans (hd.mono HD.out.size))
                            clear hd
                            obtain ⟨b196, hb, hm⟩ := obind HM.out
                            replace HM := Lib.hid hm; have HB197 := Lib.hid hb; clear hm hb
                            obtain ⟨b198, hb, hm⟩ := obind HB197.out
                            replace HB197 := Lib.hid hm; have HB199 := Lib.hid hb; clear hm hb
                            replace HB199 := Lib.hid (ifF (by decide) HB199.out)
                            obtain rfl := Option.some.inj HB199.out
                            replace HB197 := Lib.hid (ifF (by first | exact Bool.false_ne_true | exact not_false) HB197.out)
                            obtain ⟨b200, hb, hm⟩ := obind HB197.out
                            replace HB197 := Lib.hid hm; have HB201 := Lib.hid hb; clear hm hb
                            obtain ⟨b202, hb, hm⟩ := obind HB201.out
                            replace HB201 := Lib.hid hm; have HB203 := Lib.hid hb; clear hm hb
                            replace HB203 := Lib.hid (ifT (by decide) HB203.out)
                            obtain ⟨y206, hy204, hm⟩ := obind HB203.out
                            replace HB203 := Lib.hid hm; clear hm
                            have HC205 := L3_in_ok W193  hy204
                            clear hy204
                            replace HC205 := Lib.hid HC205
                            cases y206
                            · replace HB203 := Lib.hid (ifF Bool.false_ne_true HB203.out)
                              obtain rfl := Option.some.inj HB203.out
                              replace HB201 := Lib.hid (ifF (by first | exact Bool.false_ne_true | exact not_false) HB201.out)
                              obtain rfl := Option.some.inj HB201.out
                              replace HB197 := Lib.hid (ifF (by first | exact Bool.false_ne_true | exact not_false) HB197.out)
                              obtain rfl := Option.some.inj HB197.out
                              obtain rfl := Option.some.inj HM.out
                              go_wp2_with fail
                              refine HC205.out.mono ?_; rintro e w' ⟨rfl, rfl⟩
                              go_wp2_with fail
                              go_ret
                              exact ⟨rfl, HD.out⟩
                            · replace HB203 := Lib.hid (ifT rfl HB203.out)
                              obtain rfl := Option.some.inj HB203.out
                              replace HB201 := Lib.hid (ifT (by first | rfl | trivial) HB201.out)
                              rcases Bool.eq_false_or_eq_true (y188 == y8) with hc207 | hc207
                              · replace HB201 := Lib.hid (ifT hc207 HB201.out)
                                have HK208 := Lib.hid hc207
                                obtain rfl := Option.some.inj HB201.out
                                replace HB197 := Lib.hid (ifT (by first | rfl | trivial) HB197.out)
                                rcases Bool.eq_false_or_eq_true (y187 == (wrap64 (y7 + (wrap64 (v2 * y8))))) with hc209 | hc209
                                · replace HB197 := Lib.hid (ifT hc209 HB197.out)
                                  have HK210 := Lib.hid hc209
                                  obtain rfl := Option.some.inj HB197.out
                                  obtain rfl := Option.some.inj HM.out
                                  go_wp2_with fail
                                  refine HC205.out.mono ?_; rintro e w' ⟨rfl, rfl⟩
                                  go_wp2_with fail
                                  go_ret
                                  exact ⟨(by first | rfl | (refine congrArg (fun b => Ending.returned (Value.bool b)) ?_; first | (exact decide_eq_true (by omega)) | (exact decide_eq_false (by omega)))), HD.out⟩
                                · replace HB197 := Lib.hid (ifF (bF hc209) HB197.out)
                                  have HK210 := Lib.hid hc209
                                  obtain rfl := Option.some.inj HB197.out
                                  obtain rfl := Option.some.inj HM.out
                                  go_wp2_with fail
                                  refine HC205.out.mono ?_; rintro e w' ⟨rfl, rfl⟩
                                  go_wp2_with fail
                                  go_ret
                                  exact ⟨(by first | rfl | (refine congrArg (fun b => Ending.returned (Value.bool b)) ?_; first | (exact decide_eq_true (by omega)) | (exact decide_eq_false (by omega)))), HD.out⟩
                              · replace HB201 := Lib.hid (ifF (bF hc207) HB201.out)
                                have HK208 := Lib.hid hc207
                                obtain rfl := Option.some.inj HB201.out
                                replace HB197 := Lib.hid (ifF (by first | exact Bool.false_ne_true | exact not_false) HB197.out)
                                obtain rfl := Option.some.inj HB197.out
                                obtain rfl := Option.some.inj HM.out
                                go_wp2_with fail
                                refine HC205.out.mono ?_; rintro e w' ⟨rfl, rfl⟩
                                go_wp2_with fail
                                go_ret
                                exact ⟨(by first | rfl | (refine congrArg (fun b => Ending.returned (Value.bool b)) ?_; first | (exact decide_eq_true (by omega)) | (exact decide_eq_false (by omega)))), HD.out⟩
                          · rw [errV_pos _ hz192] at HC186; replace HC186 := Lib.hid HC186
                            go_wp2_with fail
                            refine HC186.out.mono ?_; rintro e W194 ⟨rfl, hd⟩
                            try clear hc160 hc160d
                            replace HOA := Lib.hid (HOA.out.below hd)
                            replace HD := Lib.hid (HD.out.trans (hd.mono HD.out.size))
                            clear hd
                            have HZ195 := Lib.hid hz192; clear hz192
                            obtain ⟨b211, hb, hm⟩ := obind HM.out
                            replace HM := Lib.hid hm; have HB212 := Lib.hid hb; clear hm hb
                            obtain ⟨b213, hb, hm⟩ := obind HB212.out
                            replace HB212 := Lib.hid hm; have HB214 := Lib.hid hb; clear hm hb
                            replace HB214 := Lib.hid (ifT (bne_iff_ne.2 HZ195.out) HB214.out)
                            obtain ⟨y217, hy215, hm⟩ := obind HB214.out
                            replace HB214 := Lib.hid hm; clear hm
                            have HC216 := R3_Costs_ok W194 cap191 (HP.rd_C HOA.out (List.Mem.head _)) hy215
                            clear hy215
                            replace HC216 := Lib.hid HC216
                            go_wp2_with fail
                            refine HC216.out.mono ?_; rintro e W218 ⟨rfl, hd⟩
                            replace HOA := Lib.hid (HOA.out.below (hd.below _))
                            replace HD := Lib.hid (HD.out.trans ((hd.below _).mono HD.out.size))
                            clear hd
                            rcases Bool.eq_false_or_eq_true (y217 == 1) with hc219 | hc219
                            · replace HB214 := Lib.hid (ifT hc219 HB214.out)
                              have HK220 := Lib.hid hc219
                              obtain rfl := Option.some.inj HB214.out
                              replace HB212 := Lib.hid (ifT (by first | rfl | trivial) HB212.out)
                              obtain rfl := Option.some.inj HB212.out
                              obtain rfl := Option.some.inj HM.out
                              go_wp2_with fail
                              go_ret
                              exact ⟨(by first | rfl | (refine congrArg (fun b => Ending.returned (Value.bool b)) ?_; first | (exact decide_eq_true (by omega)) | (exact decide_eq_false (by omega)))), HD.out⟩
                            · replace HB214 := Lib.hid (ifF (bF hc219) HB214.out)
                              have HK220 := Lib.hid hc219
                              obtain rfl := Option.some.inj HB214.out
                              replace HB212 := Lib.hid (ifF (by first | exact Bool.false_ne_true | exact not_false) HB212.out)
                              obtain ⟨b221, hb, hm⟩ := obind HB212.out
                              replace HB212 := Lib.hid hm; have HB222 := Lib.hid hb; clear hm hb
                              obtain ⟨b223, hb, hm⟩ := obind HB222.out
                              replace HB222 := Lib.hid hm; have HB224 := Lib.hid hb; clear hm hb
                              replace HB224 := Lib.hid (ifF (fun h => HZ195.out (eq_of_beq h)) HB224.out)
                              obtain rfl := Option.some.inj HB224.out
                              replace HB222 := Lib.hid (ifF (by first | exact Bool.false_ne_true | exact not_false) HB222.out)
                              obtain rfl := Option.some.inj HB222.out
                              replace HB212 := Lib.hid (ifF (by first | exact Bool.false_ne_true | exact not_false) HB212.out)
                              obtain rfl := Option.some.inj HB212.out
                              obtain rfl := Option.some.inj HM.out
                              go_wp2_with fail
                              go_ret
                              exact ⟨(by first | rfl | (refine congrArg (fun b => Ending.returned (Value.bool b)) ?_; first | (exact decide_eq_true (by omega)) | (exact decide_eq_false (by omega)))), HD.out⟩
                · replace HM := Lib.hid (ifT rfl HM.out)
                  obtain rfl := Option.some.inj HM.out
                  go_wp2_with fail
                  go_ret
                  exact ⟨rfl, HD.out⟩
    · rw [errV_pos _ hz10] at HC6; replace HC6 := Lib.hid HC6
      go_wp2_with fail
      refine HC6.out.mono ?_; rintro e W12 ⟨rfl, hd⟩
      replace HOA := Lib.hid (HOA.out.below hd)
      replace HD := Lib.hid (HD.out.trans (hd.mono HD.out.size))
      clear hd
      have HZ13 := Lib.hid hz10; clear hz10
      replace HM := Lib.hid (ifT (bne_iff_ne.2 HZ13.out) HM.out)
      obtain ⟨b225, hb, hm⟩ := obind HM.out
      replace HM := Lib.hid hm; have HB226 := Lib.hid hb; clear hm hb
      rcases Bool.eq_false_or_eq_true (y7 == 0) with hc227 | hc227
      · replace HB226 := Lib.hid (ifT hc227 HB226.out)
        have HK228 := Lib.hid hc227
        rcases Bool.eq_false_or_eq_true (y8 == 0) with hc229 | hc229
        · replace HB226 := Lib.hid (ifT hc229 HB226.out)
          have HK230 := Lib.hid hc229
          obtain rfl := Option.some.inj HB226.out
          obtain rfl := Option.some.inj HM.out
          go_wp2_with fail
          go_ret
          exact ⟨(by first | rfl | (refine congrArg (fun b => Ending.returned (Value.bool b)) ?_; first | (exact decide_eq_true (by omega)) | (exact decide_eq_false (by omega)))), HD.out⟩
        · replace HB226 := Lib.hid (ifF (bF hc229) HB226.out)
          have HK230 := Lib.hid hc229
          obtain rfl := Option.some.inj HB226.out
          obtain rfl := Option.some.inj HM.out
          go_wp2_with fail
          go_ret
          exact ⟨(by first | rfl | (refine congrArg (fun b => Ending.returned (Value.bool b)) ?_; first | (exact decide_eq_true (by omega)) | (exact decide_eq_false (by omega)))), HD.out⟩
      · replace HB226 := Lib.hid (ifF (bF hc227) HB226.out)
        have HK228 := Lib.hid hc227
        obtain rfl := Option.some.inj HB226.out
        obtain rfl := Option.some.inj HM.out
        go_wp2_with fail
        go_ret
        exact ⟨(by first | rfl | (refine congrArg (fun b => Ending.returned (Value.bool b)) ?_; first | (exact decide_eq_true (by omega)) | (exact decide_eq_false (by omega)))), HD.out⟩
end Go.Proofs.Ythgejnjfikljcaa
