import Derived.Test.YtabkmceajgpdjaaB
import Derived.Test.YtabkmceajgpdjaaReach
set_option linter.all false
set_option maxRecDepth 100000
namespace Go.Proofs.Ytabkmceajgpdjaa
open Go.RowKit
def R3_Tourn_L2 (F : Nat) (v1 : List (Int × Int)) (v4 : Int) : Nat → (Int) → Option ((Int) ⊕ (Int))
  | 0, _ => none
  | g+1, v5 => if v5 < v4 then ((R1_Between F (v1) (v4) (v5)).bind fun y2 => if (y2 != 1) = true then some (.inr (6)) else R3_Tourn_L2 F v1 v4 g ((wrap64 (v5 + 1)))) else some (.inl (v5))
theorem R3_Tourn_L2_0 (F : Nat) (v1 : List (Int × Int)) (v4 : Int) (v5 : Int) : R3_Tourn_L2 F v1 v4 0 v5 = none := by rw [R3_Tourn_L2]
theorem R3_Tourn_L2_s (F g : Nat) (v1 : List (Int × Int)) (v4 : Int) (v5 : Int) : R3_Tourn_L2 F v1 v4 (g+1) v5 = (if v5 < v4 then ((R1_Between F (v1) (v4) (v5)).bind fun y2 => if (y2 != 1) = true then some (.inr (6)) else R3_Tourn_L2 F v1 v4 g ((wrap64 (v5 + 1)))) else some (.inl (v5))) := by rw [R3_Tourn_L2]
def R3_Tourn_L1 (F : Nat) (v0 : Int) (v1 : List (Int × Int)) : Nat → (Int) → Option ((Int) ⊕ (Int))
  | 0, _ => none
  | g+1, v4 => if v4 < v0 then (R3_Tourn_L2 F (v1) (v4) F (0)).bind fun o3 => match o3 with | .inr r => some (.inr (r)) | .inl o3 => R3_Tourn_L1 F v0 v1 g ((wrap64 (v4 + 1))) else some (.inl (v4))
theorem R3_Tourn_L1_0 (F : Nat) (v0 : Int) (v1 : List (Int × Int)) (v4 : Int) : R3_Tourn_L1 F v0 v1 0 v4 = none := by rw [R3_Tourn_L1]
theorem R3_Tourn_L1_s (F g : Nat) (v0 : Int) (v1 : List (Int × Int)) (v4 : Int) : R3_Tourn_L1 F v0 v1 (g+1) v4 = (if v4 < v0 then (R3_Tourn_L2 F (v1) (v4) F (0)).bind fun o3 => match o3 with | .inr r => some (.inr (r)) | .inl o3 => R3_Tourn_L1 F v0 v1 g ((wrap64 (v4 + 1))) else some (.inl (v4))) := by rw [R3_Tourn_L1]
def R3_Tourn (F : Nat) (v0 : Int) (v1 : List (Int × Int)) : Option (Int) := (R1_Lines F (v0) (v1)).bind fun y1 => (if (y1 != 0) = true then some (y1) else (R3_Tourn_L1 F (v0) (v1) F (0)).bind fun o4 => match o4 with | .inr r => some (r) | .inl o4 => some (0))
set_option maxRecDepth 100000 in
set_option maxHeartbeats 4000000 in
theorem R3_Tourn_ok {F : Nat} {v0 : Int} {v1 : List (Int × Int)} {A1 : Option Addr} {r : Int} (w : World) (cap1 : Nat) (hr1 : ReadsL w w.heap.size A1 v1) (h : R3_Tourn F v0 v1 = some r) :
    Calls Try.prog 17 #[.int .i64 v0, .slice A1 v1.length cap1] w fun e w' => e = .returned (.int .i64 r) ∧ Dr w w' := by
  have HR1 := Lib.hid hr1; clear hr1
  have HD := Lib.hid (Dr.refl w)
  unfold R3_Tourn at h
  have HM := Lib.hid h; clear h
  go_enter Try.func17, Try.ntmps17
  obtain ⟨y3, hy1, hm⟩ := obind HM.out
  replace HM := Lib.hid hm; clear hm
  have HC2 := R1_Lines_ok w cap1 (rdL (HD.out.below _) HR1.out) hy1
  clear hy1
  replace HC2 := Lib.hid HC2
  go_wp2_with fail
  refine HC2.out.mono ?_; rintro e W4 ⟨rfl, hd⟩
  replace HD := Lib.hid (HD.out.trans hd); clear hd
  rcases Bool.eq_false_or_eq_true (y3 != 0) with hc5 | hc5
  · replace HM := Lib.hid (ifT hc5 HM.out)
    have HK6 := Lib.hid hc5
    obtain rfl := Option.some.inj HM.out
    go_wp2_with fail
    try clear hc5
    go_ret
    exact ⟨rfl, HD.out⟩
  · replace HM := Lib.hid (ifF (bF hc5) HM.out)
    have HK6 := Lib.hid hc5
    go_wp2_with fail
    try clear hc5
    obtain ⟨o7, ho, hm⟩ := obind HM.out
    replace HM := Lib.hid hm; have HL1 := Lib.hid ho; clear hm ho
    go_loopg [6] F (fun gg ux9 wr => ∃ (x8 : Int), ux9 = .int .i64 x8 ∧ Hid (Dr w wr) ∧ Hid (R3_Tourn_L1 F (v0) (v1) gg x8 = some o7))
    case atStart => exact ⟨0, rfl, HD, HL1⟩
    case round =>
      obtain ⟨x8, rfl, HD, HL1⟩ := hrel
      rename World => W10
      cases gk with
      | zero => exact absurd ((R3_Tourn_L1_0 ..).symm.trans HL1.out) (by intro h; cases h)
      | succ g1 =>
        replace HL1 := Lib.hid ((R3_Tourn_L1_s ..).symm.trans HL1.out)
        by_cases hc11 : x8 < v0
        · replace HL1 := Lib.hid (ifT hc11 HL1.out)
          have HK12 := Lib.hid hc11
          go_wp2_with fail
          try clear hc11
          obtain ⟨o13, ho, hm⟩ := obind HL1.out
          replace HL1 := Lib.hid hm; have HL2 := Lib.hid ho; clear hm ho
          go_loopg [7] F (fun gg ux15 wr => ∃ (x14 : Int), ux15 = .int .i64 x14 ∧ Hid (Dr w wr) ∧ Hid (R3_Tourn_L2 F (v1) (x8) gg x14 = some o13))
          case atStart => exact ⟨0, rfl, HD, HL2⟩
          case round =>
            obtain ⟨x14, rfl, HD, HL2⟩ := hrel
            rename World => W16
            cases gk with
            | zero => exact absurd ((R3_Tourn_L2_0 ..).symm.trans HL2.out) (by intro h; cases h)
            | succ g2 =>
              replace HL2 := Lib.hid ((R3_Tourn_L2_s ..).symm.trans HL2.out)
              by_cases hc17 : x14 < x8
              · replace HL2 := Lib.hid (ifT hc17 HL2.out)
                have HK18 := Lib.hid hc17
                obtain ⟨y21, hy19, hm⟩ := obind HL2.out
                replace HL2 := Lib.hid hm; clear hm
                have HC20 := R1_Between_ok W16 cap1 (rdL (HD.out.below _) HR1.out) hy19
                clear hy19
                replace HC20 := Lib.hid HC20
                rcases Bool.eq_false_or_eq_true (y21 != 1) with hc22 | hc22
                · replace HL2 := Lib.hid (ifT hc22 HL2.out)
                  have HK23 := Lib.hid hc22
                  obtain rfl := Option.some.inj HL2.out
                  have hm := HL1.out; try dsimp only at hm
                  replace HL1 := Lib.hid hm; clear hm
                  obtain rfl := Option.some.inj HL1.out
                  have hm := HM.out; try dsimp only at hm
                  replace HM := Lib.hid hm; clear hm
                  obtain rfl := Option.some.inj HM.out
                  go_wp2_with fail
                  refine HC20.out.mono ?_; rintro e w' ⟨rfl, rfl⟩
                  go_wp2_with fail
                  try clear hc17 hc22
                  go_ret
                  exact ⟨rfl, HD.out⟩
                · replace HL2 := Lib.hid (ifF (bF hc22) HL2.out)
                  have HK23 := Lib.hid hc22
                  go_wp2_with fail
                  refine HC20.out.mono ?_; rintro e w' ⟨rfl, rfl⟩
                  go_wp2_with fail
                  try clear hc17 hc22
                  go_roundg g2
                  case measure => omega
                  case rel => exact ⟨(wrap64 (x14 + 1)), rfl, HD, HL2⟩
              · replace HL2 := Lib.hid (ifF hc17 HL2.out)
                have hc17d := decide_eq_false hc17
                have HK18 := Lib.hid hc17
                obtain rfl := Option.some.inj HL2.out
                have hm := HL1.out; try dsimp only at hm
                replace HL1 := Lib.hid hm; clear hm
                go_wp2_with fail
                try clear hc17 hc17d
                go_roundg g1
                case measure => omega
                case rel => exact ⟨(wrap64 (x8 + 1)), rfl, HD, HL1⟩
        · replace HL1 := Lib.hid (ifF hc11 HL1.out)
          have hc11d := decide_eq_false hc11
          have HK12 := Lib.hid hc11
          obtain rfl := Option.some.inj HL1.out
          have hm := HM.out; try dsimp only at hm
          replace HM := Lib.hid hm; clear hm
          obtain rfl := Option.some.inj HM.out
          go_wp2_with fail
          try clear hc11 hc11d
          go_ret
          exact ⟨rfl, HD.out⟩
def strong_Parts_L1 (F : Nat) (v1 : List (Int × Int)) : Nat → (Int) → (List (Int × Int)) → Option (List (Int × Int))
  | 0, _, _ => none
  | g+1, j, v6 => if j < ((v1).length : Int) then (ix v1 j).bind fun y => (app v6 (y.2, y.1)).bind fun y3 => strong_Parts_L1 F v1 g (wrap64 (j + 1)) (y3) else some (v6)
theorem strong_Parts_L1_0 (F : Nat) (v1 : List (Int × Int)) (v6 : List (Int × Int)) (j : Int) : strong_Parts_L1 F v1 0 j v6 = none := by rw [strong_Parts_L1]
theorem strong_Parts_L1_s (F g : Nat) (v1 : List (Int × Int)) (v6 : List (Int × Int)) (j : Int) : strong_Parts_L1 F v1 (g+1) j v6 = (if j < ((v1).length : Int) then (ix v1 j).bind fun y => (app v6 (y.2, y.1)).bind fun y3 => strong_Parts_L1 F v1 g (wrap64 (j + 1)) (y3) else some (v6)) := by rw [strong_Parts_L1]
def strong_Parts_L2 (F : Nat) (v0 : Int) (v5 : List Nat) (v9 : List Nat) : Nat → (Int) → (List Int) → Option (List Int)
  | 0, _, _ => none
  | g+1, j, v10 => if j < v0 then (sBelow (v0)).bind fun y6 => (core_Reach F (j) (v5) (y6)).bind fun y7 => (sBelow (v0)).bind fun y8 => (core_Reach F (j) (v9) (y8)).bind fun y9 => (sAnd y7 y9).bind fun y10 => (sList (y10)).bind fun y12 => (ix y12 0).bind fun y13 => (app v10 y13).bind fun y11 => strong_Parts_L2 F v0 v5 v9 g (wrap64 (j + 1)) (y11) else some (v10)
theorem strong_Parts_L2_0 (F : Nat) (v0 : Int) (v5 : List Nat) (v9 : List Nat) (v10 : List Int) (j : Int) : strong_Parts_L2 F v0 v5 v9 0 j v10 = none := by rw [strong_Parts_L2]
theorem strong_Parts_L2_s (F g : Nat) (v0 : Int) (v5 : List Nat) (v9 : List Nat) (v10 : List Int) (j : Int) : strong_Parts_L2 F v0 v5 v9 (g+1) j v10 = (if j < v0 then (sBelow (v0)).bind fun y6 => (core_Reach F (j) (v5) (y6)).bind fun y7 => (sBelow (v0)).bind fun y8 => (core_Reach F (j) (v9) (y8)).bind fun y9 => (sAnd y7 y9).bind fun y10 => (sList (y10)).bind fun y12 => (ix y12 0).bind fun y13 => (app v10 y13).bind fun y11 => strong_Parts_L2 F v0 v5 v9 g (wrap64 (j + 1)) (y11) else some (v10)) := by rw [strong_Parts_L2]
def strong_Parts (F : Nat) (v0 : Int) (v1 : List (Int × Int)) : Option (List Int × Int) := (mCheck (v0) (v1)).bind fun y1 => (if (y1 != 0) = true then some (([], y1)) else (mOut (v0) (v1)).bind fun y2 => (strong_Parts_L1 F (v1) F (0) ([])).bind fun o4 => (mOut (v0) (o4)).bind fun y5 => (strong_Parts_L2 F (v0) (y2) (y5) F (0) ([])).bind fun o14 => some ((o14, 0)))
set_option maxRecDepth 100000 in
set_option maxHeartbeats 4000000 in
theorem strong_Parts_ok {F : Nat} {v0 : Int} {v1 : List (Int × Int)} {A1 : Option Addr} {r : List Int × Int} (w : World) (cap1 : Nat) (hr1 : ReadsL w w.heap.size A1 v1) (h : strong_Parts F v0 v1 = some r) :
    Calls Try.prog 18 #[.int .i64 v0, .slice A1 v1.length cap1] w (PostG (fun v => (.tuple #[v, (errV 58 r.2)])) (fun v => owI v r.1) w.heap.size w) := by
  have HR1 := Lib.hid hr1; clear hr1
  have HD := Lib.hid (Below.refl w.heap.size w)
  have HOA := Lib.hid (HP.nil (W := w) (B := w.heap.size))
  unfold strong_Parts at h
  have HM := Lib.hid h; clear h
  go_enter Try.func18, Try.ntmps18
  obtain ⟨y3, hy1, hm⟩ := obind HM.out
  replace HM := Lib.hid hm; clear hm
  have HC2 := mCheck_ok w cap1 (rdL HD.out HR1.out) hy1
  clear hy1
  by_cases hz4 : y3 = 0
  · subst hz4
    rw [errV_zero] at HC2; replace HC2 := Lib.hid HC2
    go_wp2_with fail
    refine HC2.out.mono ?_; rintro e W5 ⟨rfl, hd⟩
    replace HOA := Lib.hid (HOA.out.below hd)
    replace HD := Lib.hid (HD.out.trans (hd.mono HD.out.size))
    clear hd
    replace HM := Lib.hid (ifF (by decide) HM.out)
    obtain ⟨y10, hy8, hm⟩ := obind HM.out
    replace HM := Lib.hid hm; clear hm
    have HC9 := mOut_ok W5 cap1 (rdL HD.out HR1.out) hy8
    clear hy8
    replace HC9 := Lib.hid HC9
    go_wp2_with fail
    refine HC9.out.mono ?_; rintro e W11 ⟨V12, rfl, ho, hd⟩
    replace HOA := Lib.hid (HOA.out.call hd HD.out.size ho); clear ho
    replace HD := Lib.hid (HD.out.trans (hd.mono HD.out.size))
    clear hd
    replace HOA := Lib.hid (show HP _ _ (.fl (owL (.slice none 0 0) ([])) :: _) from HOA.out.pushNil _ _)
    go_wp2_with fail
    obtain ⟨o15, ho, hm⟩ := obind HM.out
    replace HM := Lib.hid hm; have HL1 := Lib.hid ho; clear hm ho
    go_loopg [26, 8] F (fun gg uj ux17 wr => ∃ (j19 : Int) (x16 : List (Int × Int)) (V18 : Value), uj = .int .i64 j19 ∧ V18 = ux17 ∧ Hid (Below w.heap.size w wr) ∧ Hid (HP wr w.heap.size [.fl (owL V18 (x16)), .fl (owM V12 (y10))]) ∧ Hid (strong_Parts_L1 F (v1) gg j19 x16 = some o15))
    case atStart => exact ⟨0, [], (.slice none 0 0), rfl, rfl, HD, HOA, HL1⟩
    case round =>
      obtain ⟨j19, x16, V18, rfl, rfl, HD, HOA, HL1⟩ := hrel
      rename World => W20
      cases gk with
      | zero => exact absurd ((strong_Parts_L1_0 ..).symm.trans HL1.out) (by intro h; cases h)
      | succ g1 =>
        replace HL1 := Lib.hid ((strong_Parts_L1_s ..).symm.trans HL1.out)
        by_cases hc21 : j19 < ((v1).length : Int)
        · replace HL1 := Lib.hid (ifT hc21 HL1.out)
          have HK22 := Lib.hid hc21
          obtain ⟨y23, hy24, hm⟩ := obind HL1.out
          replace HL1 := Lib.hid hm; clear hm
          obtain ⟨b25, o26, ea27, _, f28, f29, f30, f31⟩ := ReadsL.ix (rdL HD.out HR1.out) hy24
          cases ea27
          try simp only [Nat.zero_add, Nat.add_zero, Int.toNat_natCast, Int.toNat_zero, Int.toNat_one] at f30 f31
          have HY32 := Lib.hid hy24; clear hy24
          go_upto_region 9 with (fail)
          have hd : Below W20.heap.size W20 (W20.alloc (.cells #[Value.int .i64 y23.1, Value.int .i64 y23.2] 43)) := (Below.refl _ _).alloc (Nat.le_refl _) _
          have ho := boxRL W20 y23
          generalize hW : World.alloc W20 _ = W33 at *
          clear hW
          try clear hc21 f28 f29 f30 f31
          replace HOA := Lib.hid (HOA.out.call hd HD.out.size ho); clear ho
          replace HD := Lib.hid (HD.out.trans (hd.mono HD.out.size))
          clear hd
          obtain ⟨f36, f37⟩ := boxL (HP.rd_L HOA.out (List.Mem.head _))
          obtain ⟨y38, hy39, hm⟩ := obind HL1.out
          replace HL1 := Lib.hid hm; clear hm
          obtain ⟨f40, hy39⟩ := app_some hy39; subst hy39
          have HF43 := Lib.hid f40; clear f40
          go_wp2_with (at_builtin; refine hp_appL _ (.tmp 30) (.tmp 36) 22 Try.underlying22 rfl rfl (L1 := [_]) HOA.out rfl rfl HF43.out HD.out.size ?_; intro V41 W42 hoa hd)
          try clear f36 f37
          replace HOA := Lib.hid (show HP W42 w.heap.size [.fl (owL (.slice (some ⟨W20.heap.size, 0, none⟩) 1 1) ([y23])), .fl (owL V41 ((x16 ++ [(y23.2, y23.1)]))), .fl (owM V12 (y10))] from hoa); clear hoa
          replace HD := Lib.hid (HD.out.trans hd); clear hd
          go_wp2_with fail
          replace HOA := Lib.hid (HOA.out.sub (.cons _ (.cons₂ _ (.cons₂ _ .slnil))))
          go_roundg g1
          case measure => omega
          case rel => exact ⟨(wrap64 (j19 + 1)), (x16 ++ [(y23.2, y23.1)]), V41, rfl, rfl, HD, HOA, HL1⟩
        · replace HL1 := Lib.hid (ifF hc21 HL1.out)
          have hc21d := decide_eq_false hc21
          have HK22 := Lib.hid hc21
          obtain rfl := Option.some.inj HL1.out
          have hm := HM.out; try dsimp only at hm
          replace HM := Lib.hid hm; clear hm
          obtain ⟨y46, hy44, hm⟩ := obind HM.out
          replace HM := Lib.hid hm; clear hm
          obtain ⟨A47, cap48, he, _⟩ := HP.open_L HOA.out (List.Mem.head _)
          subst he
          have HC45 := mOut_ok W20 cap48 (HP.rd_L HOA.out (List.Mem.head _)) hy44
          clear hy44
          replace HC45 := Lib.hid HC45
          go_wp2_with fail
          refine HC45.out.mono ?_; rintro e W49 ⟨V50, rfl, ho, hd⟩
          try clear hc21 hc21d
          replace HOA := Lib.hid (HOA.out.call hd HD.out.size ho); clear ho
          replace HD := Lib.hid (HD.out.trans (hd.mono HD.out.size))
          clear hd
          replace HOA := Lib.hid (show HP _ _ (.fl (owI (.slice none 0 0) ([])) :: _) from HOA.out.pushNil _ _)
          go_wp2_with fail
          obtain ⟨o53, ho, hm⟩ := obind HM.out
          replace HM := Lib.hid hm; have HL2 := Lib.hid ho; clear hm ho
          go_loopg [43, 12] F (fun gg uj ux55 wr => ∃ (j57 : Int) (x54 : List Int) (V56 : Value), uj = .int .i64 j57 ∧ V56 = ux55 ∧ Hid (Below w.heap.size w wr) ∧ Hid (HP wr w.heap.size [.fl (owI V56 (x54)), .fl (owM V50 (y46)), .fl (owL (.slice A47 (x16).length cap48) (x16)), .fl (owM V12 (y10))]) ∧ Hid (strong_Parts_L2 F (v0) (y10) (y46) gg j57 x54 = some o53))
          case atStart => exact ⟨0, [], (.slice none 0 0), rfl, rfl, HD, HOA, HL2⟩
          case round =>
            obtain ⟨j57, x54, V56, rfl, rfl, HD, HOA, HL2⟩ := hrel
            rename World => W58
            cases gk with
            | zero => exact absurd ((strong_Parts_L2_0 ..).symm.trans HL2.out) (by intro h; cases h)
            | succ g2 =>
              replace HL2 := Lib.hid ((strong_Parts_L2_s ..).symm.trans HL2.out)
              by_cases hc59 : j57 < v0
              · replace HL2 := Lib.hid (ifT hc59 HL2.out)
                have HK60 := Lib.hid hc59
                obtain ⟨y63, hy61, hm⟩ := obind HL2.out
                replace HL2 := Lib.hid hm; clear hm
                have HC62 := sBelow_ok W58  hy61
                clear hy61
                replace HC62 := Lib.hid HC62
                obtain ⟨y66, hy64, hm⟩ := obind HL2.out
                replace HL2 := Lib.hid hm; clear hm
                obtain ⟨A67, cap68, he, _⟩ := HP.open_M HOA.out (List.Mem.tail _ (List.Mem.tail _ (List.Mem.tail _ (List.Mem.head _))))
                subst he
                have HC65 := core_Reach_ok W58 cap68 (HP.rd_M HOA.out (List.Mem.tail _ (List.Mem.tail _ (List.Mem.tail _ (List.Mem.head _))))) hy64
                clear hy64
                replace HC65 := Lib.hid HC65
                go_wp2_with fail
                refine HC62.out.mono ?_; rintro e w' ⟨rfl, rfl⟩
                go_wp2_with fail
                refine HC65.out.mono ?_; rintro e W69 ⟨rfl, hd⟩
                try clear hc59
                replace HOA := Lib.hid (HOA.out.below hd)
                replace HD := Lib.hid (HD.out.trans (hd.mono HD.out.size))
                clear hd
                obtain ⟨y72, hy70, hm⟩ := obind HL2.out
                replace HL2 := Lib.hid hm; clear hm
                have HC71 := sBelow_ok W69  hy70
                clear hy70
                replace HC71 := Lib.hid HC71
                obtain ⟨y75, hy73, hm⟩ := obind HL2.out
                replace HL2 := Lib.hid hm; clear hm
                obtain ⟨A76, cap77, he, _⟩ := HP.open_M HOA.out (List.Mem.tail _ (List.Mem.head _))
                subst he
                have HC74 := core_Reach_ok W69 cap77 (HP.rd_M HOA.out (List.Mem.tail _ (List.Mem.head _))) hy73
                clear hy73
                replace HC74 := Lib.hid HC74
                go_wp2_with fail
                refine HC71.out.mono ?_; rintro e w' ⟨rfl, rfl⟩
                go_wp2_with fail
                refine HC74.out.mono ?_; rintro e W78 ⟨rfl, hd⟩
                replace HOA := Lib.hid (HOA.out.below hd)
                replace HD := Lib.hid (HD.out.trans (hd.mono HD.out.size))
                clear hd
                obtain ⟨y79, hy80, hm⟩ := obind HL2.out
                replace HL2 := Lib.hid hm; clear hm
                obtain ⟨f81, hy80⟩ := sAnd_some hy80; subst hy80
                obtain ⟨y84, hy82, hm⟩ := obind HL2.out
                replace HL2 := Lib.hid hm; clear hm
                have HC83 := sList_ok W78  hy82
                clear hy82
                replace HC83 := Lib.hid HC83
                go_wp2_with fail
                refine HC83.out.mono ?_; rintro e W85 ⟨V86, rfl, ho, hd⟩
                try clear f81
                replace HOA := Lib.hid (HOA.out.call hd HD.out.size ho); clear ho
                replace HD := Lib.hid (HD.out.trans (hd.mono HD.out.size))
                clear hd
                obtain ⟨A90, cap91, he, _⟩ := HP.open_I HOA.out (List.Mem.head _)
                subst he
                obtain ⟨y88, hy89, hm⟩ := obind HL2.out
                replace HL2 := Lib.hid hm; clear hm
                obtain ⟨b92, o93, ea94, _, f95, f96, f97⟩ := ReadsI.ix (HP.rd_I HOA.out (List.Mem.head _)) hy89
                cases ea94
                try simp only [Nat.zero_add, Nat.add_zero, Int.toNat_natCast, Int.toNat_zero, Int.toNat_one] at f97
                have f96n := f96; try norm_cast at f96n
                try rw [← HP.len_I HOA.out (List.Mem.head _)] at f96
                have HY99 := Lib.hid hy89; clear hy89
                obtain ⟨y100, hy101, hm⟩ := obind HL2.out
                replace HL2 := Lib.hid hm; clear hm
                obtain ⟨f102, hy101⟩ := app_some hy101; subst hy101
                have HF105 := Lib.hid f102; clear f102
                go_wp2_with (at_builtin; refine hp_appI _ (.tmp 57) (.tmp 62) 24 Try.underlying24 rfl rfl (L1 := [_]) HOA.out rfl rfl HF105.out HD.out.size ?_; intro V103 W104 hoa hd)
                try clear f95 f96 f97 f96n
                replace HOA := Lib.hid (show HP W104 w.heap.size [.fl (owI (.slice (some ⟨b92, o93, none⟩) (y84).length cap91) (y84)), .fl (owI V103 ((x54 ++ [y88]))), .fl (owM (.slice A76 (y46).length cap77) (y46)), .fl (owL (.slice A47 (x16).length cap48) (x16)), .fl (owM (.slice A67 (y10).length cap68) (y10))] from hoa); clear hoa
                replace HD := Lib.hid (HD.out.trans hd); clear hd
                go_wp2_with fail
                replace HOA := Lib.hid (HOA.out.sub (.cons _ (.cons₂ _ (.cons₂ _ (.cons₂ _ (.cons₂ _ .slnil))))))
                go_roundg g2
                case measure => omega
                case rel => exact ⟨(wrap64 (j57 + 1)), (x54 ++ [y88]), V103, rfl, rfl, HD, HOA, HL2⟩
              · replace HL2 := Lib.hid (ifF hc59 HL2.out)
                have hc59d := decide_eq_false hc59
                have HK60 := Lib.hid hc59
                obtain rfl := Option.some.inj HL2.out
                have hm := HM.out; try dsimp only at hm
                replace HM := Lib.hid hm; clear hm
                obtain rfl := Option.some.inj HM.out
                go_wp2_with fail
                try clear hc59 hc59d
                go_ret2
                exact ⟨_, rfl, HOA.out.get (List.Mem.head _), HD.out⟩
  · rw [errV_pos _ hz4] at HC2; replace HC2 := Lib.hid HC2
    go_wp2_with fail
    refine HC2.out.mono ?_; rintro e W6 ⟨rfl, hd⟩
    replace HOA := Lib.hid (HOA.out.below hd)
    replace HD := Lib.hid (HD.out.trans (hd.mono HD.out.size))
    clear hd
    have HZ7 := Lib.hid hz4; clear hz4
    replace HM := Lib.hid (ifT (bne_iff_ne.2 HZ7.out) HM.out)
    obtain rfl := Option.some.inj HM.out
    go_wp2_with fail
    go_ret2
    exact ⟨_, (by first | (rw [errV_pos _ HZ7.out]; rfl) | rw [errV_pos _ HZ7.out]), World.ownsRow_nil _ _ _ _, HD.out⟩
def L4_ring_L1 (F : Nat) (rec : (Int) → (List (Int × Int)) → (List Int) → Option (Bool)) (v0 : Int) (v1 : List (Int × Int)) (v2 : List Int) (v4 : Int) : Nat → (Int) → Option ((Int) ⊕ (Bool))
  | 0, _ => none
  | g+1, v5 => if v5 < v0 then ((((R1_Goes F (v1) (v4) (v5)).bind fun y6 => if y6 = true then (R1_Has F (v2) (v5)).bind fun y7 => if y7 = true then some false else some true else some false).bind fun b5 => if b5 = true then (R1_Behind F (v2) (v5)).bind fun y8 => (rec (v0) (v1) (y8)).bind fun y9 => if y9 = true then some true else some false else some false).bind fun b4 => if b4 = true then some (.inr (true)) else L4_ring_L1 F rec v0 v1 v2 v4 g ((wrap64 (v5 + 1)))) else some (.inl (v5))
theorem L4_ring_L1_0 (F : Nat) (rec : (Int) → (List (Int × Int)) → (List Int) → Option (Bool)) (v0 : Int) (v1 : List (Int × Int)) (v2 : List Int) (v4 : Int) (v5 : Int) : L4_ring_L1 F rec v0 v1 v2 v4 0 v5 = none := by rw [L4_ring_L1]
theorem L4_ring_L1_s (F g : Nat) (rec : (Int) → (List (Int × Int)) → (List Int) → Option (Bool)) (v0 : Int) (v1 : List (Int × Int)) (v2 : List Int) (v4 : Int) (v5 : Int) : L4_ring_L1 F rec v0 v1 v2 v4 (g+1) v5 = (if v5 < v0 then ((((R1_Goes F (v1) (v4) (v5)).bind fun y6 => if y6 = true then (R1_Has F (v2) (v5)).bind fun y7 => if y7 = true then some false else some true else some false).bind fun b5 => if b5 = true then (R1_Behind F (v2) (v5)).bind fun y8 => (rec (v0) (v1) (y8)).bind fun y9 => if y9 = true then some true else some false else some false).bind fun b4 => if b4 = true then some (.inr (true)) else L4_ring_L1 F rec v0 v1 v2 v4 g ((wrap64 (v5 + 1)))) else some (.inl (v5))) := by rw [L4_ring_L1]
def L4_ring (F : Nat) : Nat → (Int) → (List (Int × Int)) → (List Int) → Option (Bool)
  | 0, _, _, _ => none
  | d+1, v0, v1, v2 => (ix v2 (wrap64 (((v2).length : Int) - 1))).bind fun y1 => (if (((v2).length : Int) == v0) = true then (ix v2 0).bind fun y2 => (R1_Goes F (v1) (y1) (y2)).bind fun y3 => some (y3) else (L4_ring_L1 F (L4_ring F d) (v0) (v1) (v2) (y1) F (0)).bind fun o10 => match o10 with | .inr r => some (r) | .inl o10 => some (false))
theorem L4_ring_s (F d : Nat) (v0 : Int) (v1 : List (Int × Int)) (v2 : List Int) : L4_ring F (d+1) v0 v1 v2 = ((ix v2 (wrap64 (((v2).length : Int) - 1))).bind fun y1 => (if (((v2).length : Int) == v0) = true then (ix v2 0).bind fun y2 => (R1_Goes F (v1) (y1) (y2)).bind fun y3 => some (y3) else (L4_ring_L1 F (L4_ring F d) (v0) (v1) (v2) (y1) F (0)).bind fun o10 => match o10 with | .inr r => some (r) | .inl o10 => some (false))) := by rw [L4_ring]
theorem L4_ring_0 (F : Nat) (v0 : Int) (v1 : List (Int × Int)) (v2 : List Int) : L4_ring F 0 v0 v1 v2 = none := by rw [L4_ring]
set_option maxRecDepth 100000 in
set_option maxHeartbeats 4000000 in
theorem L4_ring_ok {F : Nat} : ∀ (d : Nat) {v0 : Int} {v1 : List (Int × Int)} {A1 : Option Addr} {v2 : List Int} {A2 : Option Addr} {r : Bool} (w : World) (cap1 : Nat) (hr1 : ReadsL w w.heap.size A1 v1) (cap2 : Nat) (hr2 : ReadsI w w.heap.size A2 v2) (h : L4_ring F d v0 v1 v2 = some r),
    Calls Try.prog 19 #[.int .i64 v0, .slice A1 v1.length cap1, .slice A2 v2.length cap2] w fun e w' => e = .returned (.bool r) ∧ Below w.heap.size w w' := by
  intro d
  induction d with
  | zero =>
    intro v0 v1 A1 v2 A2 r w cap1 hr1 cap2 hr2 h
    rw [L4_ring_0] at h; cases h
  | succ d ih =>
    intro v0 v1 A1 v2 A2 r w cap1 hr1 cap2 hr2 h
    have HR1 := Lib.hid hr1; clear hr1
    have HR2 := Lib.hid hr2; clear hr2
    have HD := Lib.hid (Below.refl w.heap.size w)
    have HOA := Lib.hid (HP.nil (W := w) (B := w.heap.size))
    rw [L4_ring_s] at h
    have HM := Lib.hid h; clear h
    go_enter Try.func19, Try.ntmps19
    obtain ⟨y1, hy2, hm⟩ := obind HM.out
    replace HM := Lib.hid hm; clear hm
    obtain ⟨b3, o4, ea5, _, f6, f7, f8⟩ := ReadsI.ix (rdI HD.out HR2.out) hy2
    cases ea5
    try simp only [Nat.zero_add, Nat.add_zero, Int.toNat_natCast, Int.toNat_zero, Int.toNat_one] at f8
    have HY10 := Lib.hid hy2; clear hy2
    rcases Bool.eq_false_or_eq_true (((v2).length : Int) == v0) with hc11 | hc11
    · replace HM := Lib.hid (ifT hc11 HM.out)
      have HK12 := Lib.hid hc11
      obtain ⟨y13, hy14, hm⟩ := obind HM.out
      replace HM := Lib.hid hm; clear hm
      obtain ⟨b15, o16, ea17, _, f18, f19, f20⟩ := ReadsI.ix (rdI HD.out HR2.out) hy14
      cases ea17
      try simp only [Nat.zero_add, Nat.add_zero, Int.toNat_natCast, Int.toNat_zero, Int.toNat_one] at f20
      have f19n := f19; try norm_cast at f19n
      have HY22 := Lib.hid hy14; clear hy14
      obtain ⟨y25, hy23, hm⟩ := obind HM.out
      replace HM := Lib.hid hm; clear hm
      have HC24 := R1_Goes_ok w cap1 (rdL HD.out HR1.out) hy23
      clear hy23
      replace HC24 := Lib.hid HC24
      obtain rfl := Option.some.inj HM.out
      go_wp2_with fail
      refine HC24.out.mono ?_; rintro e w' ⟨rfl, rfl⟩
      go_wp2_with fail
      try clear f6 f7 f8 f18 f19 f20 f19n
      go_ret
      exact ⟨(by first | rfl | (refine congrArg (fun b => Ending.returned (Value.bool b)) ?_; first | (exact decide_eq_true (by omega)) | (exact decide_eq_false (by omega)) | (have q := hc11; rw [bne_iff_ne] at q ⊢; omega) | (have q := hc11; rw [bne_eq_false_iff_eq] at q ⊢; omega) | (have q := hc11; rw [beq_iff_eq] at q ⊢; omega) | (have q := hc11; rw [beq_eq_false_iff_ne] at q ⊢; omega))), HD.out⟩
    · replace HM := Lib.hid (ifF (bF hc11) HM.out)
      have HK12 := Lib.hid hc11
      go_wp2_with fail
      try clear f6 f7 f8 hc11
      obtain ⟨o26, ho, hm⟩ := obind HM.out
      replace HM := Lib.hid hm; have HL1 := Lib.hid ho; clear hm ho
      go_loopg [8] F (fun gg ux28 wr => ∃ (x27 : Int), ux28 = .int .i64 x27 ∧ Hid (Below w.heap.size w wr) ∧ Hid (L4_ring_L1 F (L4_ring F d) (v0) (v1) (v2) (y1) gg x27 = some o26))
      case atStart => exact ⟨0, rfl, (Lib.hid (Below.refl _ _)), HL1⟩
      case round =>
        obtain ⟨x27, rfl, HW1, HL1⟩ := hrel
        rename World => W29
        have hd := HW1.out
        replace HOA := Lib.hid (HOA.out.below hd)
        replace HD := Lib.hid (HD.out.trans (hd.mono HD.out.size))
        clear hd
        cases gk with
        | zero => exact absurd ((L4_ring_L1_0 ..).symm.trans HL1.out) (by intro h; cases h)
        | succ g1 =>
          replace HL1 := Lib.hid ((L4_ring_L1_s ..).symm.trans HL1.out)
          by_cases hc30 : x27 < v0
          · replace HL1 := Lib.hid (ifT hc30 HL1.out)
            have HK31 := Lib.hid hc30
            obtain ⟨b32, hb, hm⟩ := obind HL1.out
            replace HL1 := Lib.hid hm; have HB33 := Lib.hid hb; clear hm hb
            obtain ⟨b34, hb, hm⟩ := obind HB33.out
            replace HB33 := Lib.hid hm; have HB35 := Lib.hid hb; clear hm hb
            obtain ⟨y38, hy36, hm⟩ := obind HB35.out
            replace HB35 := Lib.hid hm; clear hm
            have HC37 := R1_Goes_ok W29 cap1 (rdL HD.out HR1.out) hy36
            clear hy36
            replace HC37 := Lib.hid HC37
            cases y38
            · replace HB35 := Lib.hid (ifF Bool.false_ne_true HB35.out)
              obtain rfl := Option.some.inj HB35.out
              replace HB33 := Lib.hid (ifF (by first | exact Bool.false_ne_true | exact not_false) HB33.out)
              obtain rfl := Option.some.inj HB33.out
              replace HL1 := Lib.hid (ifF (by first | exact Bool.false_ne_true | exact not_false) HL1.out)
              go_wp2_with fail
              refine HC37.out.mono ?_; rintro e w' ⟨rfl, rfl⟩
              go_wp2_with fail
              try clear hc30
              go_roundg g1
              case measure => omega
              case rel => exact ⟨(wrap64 (x27 + 1)), rfl, HW1, HL1⟩
            · replace HB35 := Lib.hid (ifT rfl HB35.out)
              obtain ⟨y41, hy39, hm⟩ := obind HB35.out
              replace HB35 := Lib.hid hm; clear hm
              have HC40 := R1_Has_ok W29 cap2 (rdI HD.out HR2.out) hy39
              clear hy39
              replace HC40 := Lib.hid HC40
              cases y41
              · replace HB35 := Lib.hid (ifF Bool.false_ne_true HB35.out)
                obtain rfl := Option.some.inj HB35.out
                replace HB33 := Lib.hid (ifT (by first | rfl | trivial) HB33.out)
                obtain ⟨y44, hy42, hm⟩ := obind HB33.out
                replace HB33 := Lib.hid hm; clear hm
                have HC43 := R1_Behind_ok W29 cap2 (rdI HD.out HR2.out) hy42
                clear hy42
                replace HC43 := Lib.hid HC43
                go_wp2_with fail
                refine HC37.out.mono ?_; rintro e w' ⟨rfl, rfl⟩
                go_wp2_with fail
                refine HC40.out.mono ?_; rintro e w' ⟨rfl, rfl⟩
                go_wp2_with fail
                refine HC43.out.mono ?_; rintro e W45 ⟨V46, rfl, ho, hd⟩
                try clear hc30
                replace HOA := Lib.hid (HOA.out.call hd HD.out.size ho); clear ho
                replace HD := Lib.hid (HD.out.trans (hd.mono HD.out.size))
                replace HW1 := Lib.hid (HW1.out.trans (hd.mono HW1.out.size))
                clear hd
                obtain ⟨y50, hy48, hm⟩ := obind HB33.out
                replace HB33 := Lib.hid hm; clear hm
                obtain ⟨A51, cap52, he, _⟩ := HP.open_I HOA.out (List.Mem.head _)
                subst he
                have HC49 := ih W45 cap1 (rdL HD.out HR1.out) cap52 (HP.rd_I HOA.out (List.Mem.head _)) hy48
                clear hy48
                replace HC49 := Lib.hid HC49
                go_wp2_with fail
                refine HC49.out.mono ?_; rintro e W53 ⟨rfl, hd⟩
                replace HOA := Lib.hid (HOA.out.below hd)
                replace HD := Lib.hid (HD.out.trans (hd.mono HD.out.size))
                replace HW1 := Lib.hid (HW1.out.trans (hd.mono HW1.out.size))
                clear hd
                cases y50
                · replace HB33 := Lib.hid (ifF Bool.false_ne_true HB33.out)
                  obtain rfl := Option.some.inj HB33.out
                  replace HL1 := Lib.hid (ifF (by first | exact Bool.false_ne_true | exact not_false) HL1.out)
                  go_wp2_with fail
                  go_roundg g1
                  case measure => omega
                  case rel => exact ⟨(wrap64 (x27 + 1)), rfl, HW1, HL1⟩
                · replace HB33 := Lib.hid (ifT rfl HB33.out)
                  obtain rfl := Option.some.inj HB33.out
                  replace HL1 := Lib.hid (ifT (by first | rfl | trivial) HL1.out)
                  obtain rfl := Option.some.inj HL1.out
                  have hm := HM.out; try dsimp only at hm
                  replace HM := Lib.hid hm; clear hm
                  obtain rfl := Option.some.inj HM.out
                  go_wp2_with fail
                  go_ret
                  exact ⟨rfl, HD.out⟩
              · replace HB35 := Lib.hid (ifT rfl HB35.out)
                obtain rfl := Option.some.inj HB35.out
                replace HB33 := Lib.hid (ifF (by first | exact Bool.false_ne_true | exact not_false) HB33.out)
                obtain rfl := Option.some.inj HB33.out
                replace HL1 := Lib.hid (ifF (by first | exact Bool.false_ne_true | exact not_false) HL1.out)
                go_wp2_with fail
                refine HC37.out.mono ?_; rintro e w' ⟨rfl, rfl⟩
                go_wp2_with fail
                refine HC40.out.mono ?_; rintro e w' ⟨rfl, rfl⟩
                go_wp2_with fail
                try clear hc30
                go_roundg g1
                case measure => omega
                case rel => exact ⟨(wrap64 (x27 + 1)), rfl, HW1, HL1⟩
          · replace HL1 := Lib.hid (ifF hc30 HL1.out)
            have hc30d := decide_eq_false hc30
            have HK31 := Lib.hid hc30
            obtain rfl := Option.some.inj HL1.out
            have hm := HM.out; try dsimp only at hm
            replace HM := Lib.hid hm; clear hm
            obtain rfl := Option.some.inj HM.out
            go_wp2_with fail
            go_ret
            exact ⟨(by first | rfl | (refine congrArg (fun b => Ending.returned (Value.bool b)) ?_; first | (exact decide_eq_true (by omega)) | (exact decide_eq_false (by omega)) | (have q := hc30; rw [bne_iff_ne] at q ⊢; omega) | (have q := hc30; rw [bne_eq_false_iff_eq] at q ⊢; omega) | (have q := hc30; rw [beq_iff_eq] at q ⊢; omega) | (have q := hc30; rw [beq_eq_false_iff_ne] at q ⊢; omega) | (have q := hc30d; rw [bne_iff_ne] at q ⊢; omega) | (have q := hc30d; rw [bne_eq_false_iff_eq] at q ⊢; omega) | (have q := hc30d; rw [beq_iff_eq] at q ⊢; omega) | (have q := hc30d; rw [beq_eq_false_iff_ne] at q ⊢; omega))), HD.out⟩
def L4_TournRing_L1 (F : Nat) (v0 : Int) (v4 : List Int) : Nat → (Bool) → (Int) → Option (Bool × Int)
  | 0, _, _ => none
  | g+1, v6, v7 => if v7 < v0 then (if v6 = true then (ix v4 v7).bind fun y10 => if (y10 == 0) = true then some true else some false else some false).bind fun b9 => L4_TournRing_L1 F v0 v4 g (b9) ((wrap64 (v7 + 1))) else some (v6, v7)
theorem L4_TournRing_L1_0 (F : Nat) (v0 : Int) (v4 : List Int) (v6 : Bool) (v7 : Int) : L4_TournRing_L1 F v0 v4 0 v6 v7 = none := by rw [L4_TournRing_L1]
theorem L4_TournRing_L1_s (F g : Nat) (v0 : Int) (v4 : List Int) (v6 : Bool) (v7 : Int) : L4_TournRing_L1 F v0 v4 (g+1) v6 v7 = (if v7 < v0 then (if v6 = true then (ix v4 v7).bind fun y10 => if (y10 == 0) = true then some true else some false else some false).bind fun b9 => L4_TournRing_L1 F v0 v4 g (b9) ((wrap64 (v7 + 1))) else some (v6, v7)) := by rw [L4_TournRing_L1]
def L4_TournRing (F : Nat) (v0 : Int) (v1 : List (Int × Int)) : Option (Bool) := (L4_tournFact F ).bind fun y1 => (if y1 = true then ((tourn_Check F (v0) (v1)).bind fun y2 => if (y2 != 0) = true then ((R3_Tourn F (v0) (v1)).bind fun y4 => if (y4 != 0) = true then some true else some false).bind fun b3 => some (b3) else (strong_Parts F (v0) (v1)).bind fun y5 => (((if (y5.2 != 0) = true then some true else if (((y5.1).length : Int) != v0) = true then some true else some false).bind fun b7 => if b7 = true then some true else (R3_Tourn F (v0) (v1)).bind fun y8 => if (y8 != 0) = true then some true else some false).bind fun b6 => if b6 = true then some (false) else (L4_TournRing_L1 F (v0) (y5.1) F (true) (0)).bind fun o11 => (if v0 < 3 then some true else (L4_ring F F (v0) (v1) ([0])).bind fun y13 => if (o11.1 == y13) = true then some true else some false).bind fun b12 => some (b12))) else some (false))
set_option maxRecDepth 100000 in
set_option maxHeartbeats 4000000 in
theorem L4_TournRing_ok {F : Nat} {v0 : Int} {v1 : List (Int × Int)} {A1 : Option Addr} {r : Bool} (w : World) (cap1 : Nat) (hr1 : ReadsL w w.heap.size A1 v1) (h : L4_TournRing F v0 v1 = some r) :
    Calls Try.prog 5 #[.int .i64 v0, .slice A1 v1.length cap1] w fun e w' => e = .returned (.bool r) ∧ Below w.heap.size w w' := by
  have HR1 := Lib.hid hr1; clear hr1
  have HD := Lib.hid (Below.refl w.heap.size w)
  have HOA := Lib.hid (HP.nil (W := w) (B := w.heap.size))
  unfold L4_TournRing at h
  have HM := Lib.hid h; clear h
  go_enter Try.func5, Try.ntmps5
  obtain ⟨y3, hy1, hm⟩ := obind HM.out
  replace HM := Lib.hid hm; clear hm
  have HC2 := L4_tournFact_ok w  hy1
  clear hy1
  replace HC2 := Lib.hid HC2
  go_wp2_with fail
  refine HC2.out.mono ?_; rintro e W4 ⟨rfl, hd⟩
  replace HOA := Lib.hid (HOA.out.below hd)
  replace HD := Lib.hid (HD.out.trans (hd.mono HD.out.size))
  clear hd
  cases y3
  · replace HM := Lib.hid (ifF Bool.false_ne_true HM.out)
    obtain rfl := Option.some.inj HM.out
    go_wp2_with fail
    go_ret
    exact ⟨rfl, HD.out⟩
  · replace HM := Lib.hid (ifT rfl HM.out)
    obtain ⟨y7, hy5, hm⟩ := obind HM.out
    replace HM := Lib.hid hm; clear hm
    have HC6 := tourn_Check_ok W4 cap1 (rdL HD.out HR1.out) hy5
    clear hy5
    by_cases hz8 : y7 = 0
    · subst hz8
      rw [errV_zero] at HC6; replace HC6 := Lib.hid HC6
      go_wp2_with fail
      refine HC6.out.mono ?_; rintro e W9 ⟨rfl, hd⟩
      replace HOA := Lib.hid (HOA.out.below hd)
      replace HD := Lib.hid (HD.out.trans (hd.mono HD.out.size))
      clear hd
      replace HM := Lib.hid (ifF (by decide) HM.out)
      obtain ⟨⟨y14, y15⟩, hy12, hm⟩ := obind HM.out
      dsimp only at hm
      replace HM := Lib.hid hm; clear hm
      have HC13 := strong_Parts_ok W9 cap1 (rdL HD.out HR1.out) hy12
      clear hy12
      by_cases hz16 : y15 = 0
      · subst hz16
        rw [errV_zero] at HC13; replace HC13 := Lib.hid HC13
        go_wp2_with fail
        refine HC13.out.mono ?_; rintro e W17 ⟨V18, rfl, ho, hd⟩
        replace HOA := Lib.hid (HOA.out.call hd HD.out.size ho); clear ho
        replace HD := Lib.hid (HD.out.trans (hd.mono HD.out.size))
        clear hd
        go_upto_region 7 with (fail)
        obtain ⟨b24, hb, hm⟩ := obind HM.out
        replace HM := Lib.hid hm; have HB25 := Lib.hid hb; clear hm hb
        go_cut [40] (fun uq wr => uq = .bool b24 ∧ Hid (Below W17.heap.size W17 wr))
        case first =>
          have HWC26 := Lib.hid (Below.refl W17.heap.size W17)
          obtain ⟨b27, hb, hm⟩ := obind HB25.out
          replace HB25 := Lib.hid hm; have HB28 := Lib.hid hb; clear hm hb
          replace HB28 := Lib.hid (ifF (by decide) HB28.out)
          obtain ⟨A29, cap30, he, _⟩ := HP.open_I HOA.out (List.Mem.head _)
          subst he
          rcases Bool.eq_false_or_eq_true (((y14).length : Int) != v0) with hc31 | hc31
          · replace HB28 := Lib.hid (ifT hc31 HB28.out)
            have HK32 := Lib.hid hc31
            obtain rfl := Option.some.inj HB28.out
            replace HB25 := Lib.hid (ifT (by first | rfl | trivial) HB25.out)
            cases Option.some.inj HB25.out
            try go_wp2_with fail
            go_meet
            case rel => exact ⟨rfl, HWC26⟩
          · replace HB28 := Lib.hid (ifF (bF hc31) HB28.out)
            have HK32 := Lib.hid hc31
            obtain rfl := Option.some.inj HB28.out
            replace HB25 := Lib.hid (ifF (by first | exact Bool.false_ne_true | exact not_false) HB25.out)
            obtain ⟨y35, hy33, hm⟩ := obind HB25.out
            replace HB25 := Lib.hid hm; clear hm
            have HC34 := R3_Tourn_ok W17 cap1 (rdL HD.out HR1.out) hy33
            clear hy33
            replace HC34 := Lib.hid HC34
            go_wp2_with fail
            refine HC34.out.mono ?_; rintro e W36 ⟨rfl, hd⟩
            try clear hc31
            replace HOA := Lib.hid (HOA.out.below (hd.below _))
            replace HD := Lib.hid (HD.out.trans ((hd.below _).mono HD.out.size))
            replace HWC26 := Lib.hid (HWC26.out.trans ((hd.below _).mono HWC26.out.size))
            clear hd
            rcases Bool.eq_false_or_eq_true (y35 != 0) with hc37 | hc37
            · replace HB25 := Lib.hid (ifT hc37 HB25.out)
              have HK38 := Lib.hid hc37
              cases Option.some.inj HB25.out
              try go_wp2_with fail
              go_meet
              case rel => exact ⟨rfl, HWC26⟩
            · replace HB25 := Lib.hid (ifF (bF hc37) HB25.out)
              have HK38 := Lib.hid hc37
              cases Option.some.inj HB25.out
              try go_wp2_with fail
              go_meet
              case rel => exact ⟨rfl, HWC26⟩
        case rest =>
          obtain ⟨rfl, HWC26⟩ := hcut
          rename World => W39
          have hd := HWC26.out
          replace HOA := Lib.hid (HOA.out.below hd)
          replace HD := Lib.hid (HD.out.trans (hd.mono HD.out.size))
          clear hd
          cases b24
          · replace HM := Lib.hid (ifF Bool.false_ne_true HM.out)
            go_wp2_with fail
            obtain ⟨o40, ho, hm⟩ := obind HM.out
            replace HM := Lib.hid hm; have HL1 := Lib.hid ho; clear hm ho
            go_loopg [8, 9] F (fun gg ux43 ux44 wr => ∃ (x41 : Bool) (x42 : Int), ux43 = .bool x41 ∧ ux44 = .int .i64 x42 ∧ Hid (Below W39.heap.size W39 wr) ∧ Hid (L4_TournRing_L1 F (v0) (y14) gg x41 x42 = some o40))
            case atStart => exact ⟨true, 0, rfl, rfl, (Lib.hid (Below.refl _ _)), HL1⟩
            case round =>
              obtain ⟨x41, x42, rfl, rfl, HW1, HL1⟩ := hrel
              rename World => W45
              have hd := HW1.out
              replace HOA := Lib.hid (HOA.out.below hd)
              replace HD := Lib.hid (HD.out.trans (hd.mono HD.out.size))
              clear hd
              cases gk with
              | zero => exact absurd ((L4_TournRing_L1_0 ..).symm.trans HL1.out) (by intro h; cases h)
              | succ g1 =>
                replace HL1 := Lib.hid ((L4_TournRing_L1_s ..).symm.trans HL1.out)
                by_cases hc46 : x42 < v0
                · replace HL1 := Lib.hid (ifT hc46 HL1.out)
                  have HK47 := Lib.hid hc46
                  obtain ⟨b48, hb, hm⟩ := obind HL1.out
                  replace HL1 := Lib.hid hm; have HB49 := Lib.hid hb; clear hm hb
                  cases x41
                  · replace HB49 := Lib.hid (ifF Bool.false_ne_true HB49.out)
                    obtain rfl := Option.some.inj HB49.out
                    go_wp2_with fail
                    try clear hc46
                    go_roundg g1
                    case measure => omega
                    case rel => exact ⟨false, (wrap64 (x42 + 1)), rfl, rfl, HW1, HL1⟩
                  · replace HB49 := Lib.hid (ifT rfl HB49.out)
                    obtain ⟨A52, cap53, he, _⟩ := HP.open_I HOA.out (List.Mem.head _)
                    subst he
                    obtain ⟨y50, hy51, hm⟩ := obind HB49.out
                    replace HB49 := Lib.hid hm; clear hm
                    obtain ⟨b54, o55, ea56, _, f57, f58, f59⟩ := ReadsI.ix (HP.rd_I HOA.out (List.Mem.head _)) hy51
                    cases ea56
                    try simp only [Nat.zero_add, Nat.add_zero, Int.toNat_natCast, Int.toNat_zero, Int.toNat_one] at f59
                    try rw [← HP.len_I HOA.out (List.Mem.head _)] at f58
                    have HY61 := Lib.hid hy51; clear hy51
                    rcases Bool.eq_false_or_eq_true (y50 == 0) with hc62 | hc62
                    · replace HB49 := Lib.hid (ifT hc62 HB49.out)
                      have HK63 := Lib.hid hc62
                      obtain rfl := Option.some.inj HB49.out
                      go_wp2_with fail
                      try clear hc46 f57 f58 f59 hc62
                      go_roundg g1
                      case measure => omega
                      case rel => exact ⟨true, (wrap64 (x42 + 1)), rfl, rfl, HW1, HL1⟩
                    · replace HB49 := Lib.hid (ifF (bF hc62) HB49.out)
                      have HK63 := Lib.hid hc62
                      obtain rfl := Option.some.inj HB49.out
                      go_wp2_with fail
                      try clear hc46 f57 f58 f59 hc62
                      go_roundg g1
                      case measure => omega
                      case rel => exact ⟨false, (wrap64 (x42 + 1)), rfl, rfl, HW1, HL1⟩
                · replace HL1 := Lib.hid (ifF hc46 HL1.out)
                  have hc46d := decide_eq_false hc46
                  have HK47 := Lib.hid hc46
                  obtain rfl := Option.some.inj HL1.out
                  have hm := HM.out; try dsimp only at hm
                  replace HM := Lib.hid hm; clear hm
                  obtain ⟨b64, hb, hm⟩ := obind HM.out
                  replace HM := Lib.hid hm; have HB65 := Lib.hid hb; clear hm hb
                  by_cases hc66 : v0 < 3
                  · replace HB65 := Lib.hid (ifT hc66 HB65.out)
                    have HK67 := Lib.hid hc66
                    obtain rfl := Option.some.inj HB65.out
                    obtain rfl := Option.some.inj HM.out
                    go_wp2_with fail
                    go_ret
                    exact ⟨(by first | rfl | (refine congrArg (fun b => Ending.returned (Value.bool b)) ?_; first | (exact decide_eq_true (by omega)) | (exact decide_eq_false (by omega)) | (have q := hc46d; rw [bne_iff_ne] at q ⊢; omega) | (have q := hc46d; rw [bne_eq_false_iff_eq] at q ⊢; omega) | (have q := hc46d; rw [beq_iff_eq] at q ⊢; omega) | (have q := hc46d; rw [beq_eq_false_iff_ne] at q ⊢; omega) | (have q := hc66; rw [bne_iff_ne] at q ⊢; omega) | (have q := hc66; rw [bne_eq_false_iff_eq] at q ⊢; omega) | (have q := hc66; rw [beq_iff_eq] at q ⊢; omega) | (have q := hc66; rw [beq_eq_false_iff_ne] at q ⊢; omega))), HD.out⟩
                  · replace HB65 := Lib.hid (ifF hc66 HB65.out)
                    have hc66d := decide_eq_false hc66
                    have HK67 := Lib.hid hc66
                    have hd : Below W45.heap.size W45 (World.alloc W45 (.cells #[Value.int .i64 (0)] 3)) := (Below.refl _ _).alloc (Nat.le_refl _) _
                    have ho : (owI (.slice (some ⟨W45.heap.size, 0, none⟩) 1 1) [0]).ok (World.alloc W45 (.cells #[Value.int .i64 (0)] 3)) W45.heap.size := litI_ok W45 [0] (by unfold maxLen; simp)
                    replace HOA := Lib.hid (HOA.out.call hd HD.out.size ho); clear ho
                    replace HD := Lib.hid (HD.out.trans (hd.mono HD.out.size))
                    clear hd
                    obtain ⟨y72, hy70, hm⟩ := obind HB65.out
                    replace HB65 := Lib.hid hm; clear hm
                    have HC71 := L4_ring_ok _ (World.alloc W45 (.cells #[Value.int .i64 (0)] 3)) cap1 (rdL HD.out HR1.out) 1 (HP.rd_I HOA.out (List.Mem.head _)) hy70
                    clear hy70
                    try rw [← HP.len_I HOA.out (List.Mem.head _)] at HC71
                    replace HC71 := Lib.hid HC71
                    go_wp2_with fail
                    refine HC71.out.mono ?_; rintro e W73 ⟨rfl, hd⟩
                    try clear hc46 hc46d hc66 hc66d
                    replace HOA := Lib.hid (HOA.out.below hd)
                    replace HD := Lib.hid (HD.out.trans (hd.mono HD.out.size))
                    clear hd
                    cases x41
                    · cases y72
                      · replace HB65 := Lib.hid (ifT (by decide) HB65.out)
                        obtain rfl := Option.some.inj HB65.out
                        obtain rfl := Option.some.inj HM.out
                        go_wp2_with fail
                        go_ret
                        exact ⟨rfl, HD.out⟩
                      · replace HB65 := Lib.hid (ifF (by decide) HB65.out)
                        obtain rfl := Option.some.inj HB65.out
                        obtain rfl := Option.some.inj HM.out
                        go_wp2_with fail
                        go_ret
                        exact ⟨rfl, HD.out⟩
                    · cases y72
                      · replace HB65 := Lib.hid (ifF (by decide) HB65.out)
                        obtain rfl := Option.some.inj HB65.out
                        obtain rfl := Option.some.inj HM.out
                        go_wp2_with fail
                        go_ret
                        exact ⟨rfl, HD.out⟩
                      · replace HB65 := Lib.hid (ifT (by decide) HB65.out)
                        obtain rfl := Option.some.inj HB65.out
                        obtain rfl := Option.some.inj HM.out
                        go_wp2_with fail
                        go_ret
                        exact ⟨rfl, HD.out⟩
          · replace HM := Lib.hid (ifT rfl HM.out)
            obtain rfl := Option.some.inj HM.out
            go_wp2_with fail
            go_ret
            exact ⟨rfl, HD.out⟩
      · rw [errV_pos _ hz16] at HC13; replace HC13 := Lib.hid HC13
        go_wp2_with fail
        refine HC13.out.mono ?_; rintro e W20 ⟨V21, rfl, ho, hd⟩
        replace HOA := Lib.hid (HOA.out.call hd HD.out.size ho); clear ho
        replace HD := Lib.hid (HD.out.trans (hd.mono HD.out.size))
        clear hd
        have HZ23 := Lib.hid hz16; clear hz16
        go_upto_region 7 with (fail)
        obtain ⟨b74, hb, hm⟩ := obind HM.out
        replace HM := Lib.hid hm; have HB75 := Lib.hid hb; clear hm hb
        go_cut [40] (fun uq wr => uq = .bool b74 ∧ Hid (Below W20.heap.size W20 wr))
        case first =>
          have HWC76 := Lib.hid (Below.refl W20.heap.size W20)
          obtain ⟨b77, hb, hm⟩ := obind HB75.out
          replace HB75 := Lib.hid hm; have HB78 := Lib.hid hb; clear hm hb
          replace HB78 := Lib.hid (ifT (bne_iff_ne.2 HZ23.out) HB78.out)
          obtain rfl := Option.some.inj HB78.out
          replace HB75 := Lib.hid (ifT (by first | rfl | trivial) HB75.out)
          cases Option.some.inj HB75.out
          try go_wp2_with fail
          go_meet
          case rel => exact ⟨rfl, HWC76⟩
        case rest =>
          obtain ⟨rfl, HWC76⟩ := hcut
          rename World => W79
          have hd := HWC76.out
          replace HOA := Lib.hid (HOA.out.below hd)
          replace HD := Lib.hid (HD.out.trans (hd.mono HD.out.size))
          clear hd
          cases b74
          · replace HM := Lib.hid (ifF Bool.false_ne_true HM.out)
            go_wp2_with fail
            obtain ⟨o80, ho, hm⟩ := obind HM.out
            replace HM := Lib.hid hm; have HL1 := Lib.hid ho; clear hm ho
            go_loopg [8, 9] F (fun gg ux83 ux84 wr => ∃ (x81 : Bool) (x82 : Int), ux83 = .bool x81 ∧ ux84 = .int .i64 x82 ∧ Hid (Below W79.heap.size W79 wr) ∧ Hid (L4_TournRing_L1 F (v0) (y14) gg x81 x82 = some o80))
            case atStart => exact ⟨true, 0, rfl, rfl, (Lib.hid (Below.refl _ _)), HL1⟩
            case round =>
              obtain ⟨x81, x82, rfl, rfl, HW1, HL1⟩ := hrel
              rename World => W85
              have hd := HW1.out
              replace HOA := Lib.hid (HOA.out.below hd)
              replace HD := Lib.hid (HD.out.trans (hd.mono HD.out.size))
              clear hd
              cases gk with
              | zero => exact absurd ((L4_TournRing_L1_0 ..).symm.trans HL1.out) (by intro h; cases h)
              | succ g1 =>
                replace HL1 := Lib.hid ((L4_TournRing_L1_s ..).symm.trans HL1.out)
                by_cases hc86 : x82 < v0
                · replace HL1 := Lib.hid (ifT hc86 HL1.out)
                  have HK87 := Lib.hid hc86
                  obtain ⟨b88, hb, hm⟩ := obind HL1.out
                  replace HL1 := Lib.hid hm; have HB89 := Lib.hid hb; clear hm hb
                  cases x81
                  · replace HB89 := Lib.hid (ifF Bool.false_ne_true HB89.out)
                    obtain rfl := Option.some.inj HB89.out
                    go_wp2_with fail
                    try clear hc86
                    go_roundg g1
                    case measure => omega
                    case rel => exact ⟨false, (wrap64 (x82 + 1)), rfl, rfl, HW1, HL1⟩
                  · replace HB89 := Lib.hid (ifT rfl HB89.out)
                    obtain ⟨A92, cap93, he, _⟩ := HP.open_I HOA.out (List.Mem.head _)
                    subst he
                    obtain ⟨y90, hy91, hm⟩ := obind HB89.out
                    replace HB89 := Lib.hid hm; clear hm
                    obtain ⟨b94, o95, ea96, _, f97, f98, f99⟩ := ReadsI.ix (HP.rd_I HOA.out (List.Mem.head _)) hy91
                    cases ea96
                    try simp only [Nat.zero_add, Nat.add_zero, Int.toNat_natCast, Int.toNat_zero, Int.toNat_one] at f99
                    try rw [← HP.len_I HOA.out (List.Mem.head _)] at f98
                    have HY101 := Lib.hid hy91; clear hy91
                    rcases Bool.eq_false_or_eq_true (y90 == 0) with hc102 | hc102
                    · replace HB89 := Lib.hid (ifT hc102 HB89.out)
                      have HK103 := Lib.hid hc102
                      obtain rfl := Option.some.inj HB89.out
                      go_wp2_with fail
                      try clear hc86 f97 f98 f99 hc102
                      go_roundg g1
                      case measure => omega
                      case rel => exact ⟨true, (wrap64 (x82 + 1)), rfl, rfl, HW1, HL1⟩
                    · replace HB89 := Lib.hid (ifF (bF hc102) HB89.out)
                      have HK103 := Lib.hid hc102
                      obtain rfl := Option.some.inj HB89.out
                      go_wp2_with fail
                      try clear hc86 f97 f98 f99 hc102
                      go_roundg g1
                      case measure => omega
                      case rel => exact ⟨false, (wrap64 (x82 + 1)), rfl, rfl, HW1, HL1⟩
                · replace HL1 := Lib.hid (ifF hc86 HL1.out)
                  have hc86d := decide_eq_false hc86
                  have HK87 := Lib.hid hc86
                  obtain rfl := Option.some.inj HL1.out
                  have hm := HM.out; try dsimp only at hm
                  replace HM := Lib.hid hm; clear hm
                  obtain ⟨b104, hb, hm⟩ := obind HM.out
                  replace HM := Lib.hid hm; have HB105 := Lib.hid hb; clear hm hb
                  by_cases hc106 : v0 < 3
                  · replace HB105 := Lib.hid (ifT hc106 HB105.out)
                    have HK107 := Lib.hid hc106
                    obtain rfl := Option.some.inj HB105.out
                    obtain rfl := Option.some.inj HM.out
                    go_wp2_with fail
                    go_ret
                    exact ⟨(by first | rfl | (refine congrArg (fun b => Ending.returned (Value.bool b)) ?_; first | (exact decide_eq_true (by omega)) | (exact decide_eq_false (by omega)) | (have q := hc86d; rw [bne_iff_ne] at q ⊢; omega) | (have q := hc86d; rw [bne_eq_false_iff_eq] at q ⊢; omega) | (have q := hc86d; rw [beq_iff_eq] at q ⊢; omega) | (have q := hc86d; rw [beq_eq_false_iff_ne] at q ⊢; omega) | (have q := hc106; rw [bne_iff_ne] at q ⊢; omega) | (have q := hc106; rw [bne_eq_false_iff_eq] at q ⊢; omega) | (have q := hc106; rw [beq_iff_eq] at q ⊢; omega) | (have q := hc106; rw [beq_eq_false_iff_ne] at q ⊢; omega))), HD.out⟩
                  · replace HB105 := Lib.hid (ifF hc106 HB105.out)
                    have hc106d := decide_eq_false hc106
                    have HK107 := Lib.hid hc106
                    have hd : Below W85.heap.size W85 (World.alloc W85 (.cells #[Value.int .i64 (0)] 3)) := (Below.refl _ _).alloc (Nat.le_refl _) _
                    have ho : (owI (.slice (some ⟨W85.heap.size, 0, none⟩) 1 1) [0]).ok (World.alloc W85 (.cells #[Value.int .i64 (0)] 3)) W85.heap.size := litI_ok W85 [0] (by unfold maxLen; simp)
                    replace HOA := Lib.hid (HOA.out.call hd HD.out.size ho); clear ho
                    replace HD := Lib.hid (HD.out.trans (hd.mono HD.out.size))
                    clear hd
                    obtain ⟨y112, hy110, hm⟩ := obind HB105.out
                    replace HB105 := Lib.hid hm; clear hm
                    have HC111 := L4_ring_ok _ (World.alloc W85 (.cells #[Value.int .i64 (0)] 3)) cap1 (rdL HD.out HR1.out) 1 (HP.rd_I HOA.out (List.Mem.head _)) hy110
                    clear hy110
                    try rw [← HP.len_I HOA.out (List.Mem.head _)] at HC111
                    replace HC111 := Lib.hid HC111
                    go_wp2_with fail
                    refine HC111.out.mono ?_; rintro e W113 ⟨rfl, hd⟩
                    try clear hc86 hc86d hc106 hc106d
                    replace HOA := Lib.hid (HOA.out.below hd)
                    replace HD := Lib.hid (HD.out.trans (hd.mono HD.out.size))
                    clear hd
                    cases x81
                    · cases y112
                      · replace HB105 := Lib.hid (ifT (by decide) HB105.out)
                        obtain rfl := Option.some.inj HB105.out
                        obtain rfl := Option.some.inj HM.out
                        go_wp2_with fail
                        go_ret
                        exact ⟨rfl, HD.out⟩
                      · replace HB105 := Lib.hid (ifF (by decide) HB105.out)
                        obtain rfl := Option.some.inj HB105.out
                        obtain rfl := Option.some.inj HM.out
                        go_wp2_with fail
                        go_ret
                        exact ⟨rfl, HD.out⟩
                    · cases y112
                      · replace HB105 := Lib.hid (ifF (by decide) HB105.out)
                        obtain rfl := Option.some.inj HB105.out
                        obtain rfl := Option.some.inj HM.out
                        go_wp2_with fail
                        go_ret
                        exact ⟨rfl, HD.out⟩
                      · replace HB105 := Lib.hid (ifT (by decide) HB105.out)
                        obtain rfl := Option.some.inj HB105.out
                        obtain rfl := Option.some.inj HM.out
                        go_wp2_with fail
                        go_ret
                        exact ⟨rfl, HD.out⟩
          · replace HM := Lib.hid (ifT rfl HM.out)
            obtain rfl := Option.some.inj HM.out
            go_wp2_with fail
            go_ret
            exact ⟨rfl, HD.out⟩
    · rw [errV_pos _ hz8] at HC6; replace HC6 := Lib.hid HC6
      go_wp2_with fail
      refine HC6.out.mono ?_; rintro e W10 ⟨rfl, hd⟩
      replace HOA := Lib.hid (HOA.out.below hd)
      replace HD := Lib.hid (HD.out.trans (hd.mono HD.out.size))
      clear hd
      have HZ11 := Lib.hid hz8; clear hz8
      replace HM := Lib.hid (ifT (bne_iff_ne.2 HZ11.out) HM.out)
      obtain ⟨b114, hb, hm⟩ := obind HM.out
      replace HM := Lib.hid hm; have HB115 := Lib.hid hb; clear hm hb
      obtain ⟨y118, hy116, hm⟩ := obind HB115.out
      replace HB115 := Lib.hid hm; clear hm
      have HC117 := R3_Tourn_ok W10 cap1 (rdL HD.out HR1.out) hy116
      clear hy116
      replace HC117 := Lib.hid HC117
      go_wp2_with fail
      refine HC117.out.mono ?_; rintro e W119 ⟨rfl, hd⟩
      replace HOA := Lib.hid (HOA.out.below (hd.below _))
      replace HD := Lib.hid (HD.out.trans ((hd.below _).mono HD.out.size))
      clear hd
      rcases Bool.eq_false_or_eq_true (y118 != 0) with hc120 | hc120
      · replace HB115 := Lib.hid (ifT hc120 HB115.out)
        have HK121 := Lib.hid hc120
        obtain rfl := Option.some.inj HB115.out
        obtain rfl := Option.some.inj HM.out
        go_wp2_with fail
        go_ret
        exact ⟨(by first | rfl | (refine congrArg (fun b => Ending.returned (Value.bool b)) ?_; first | (exact decide_eq_true (by omega)) | (exact decide_eq_false (by omega)) | (have q := hc120; rw [bne_iff_ne] at q ⊢; omega) | (have q := hc120; rw [bne_eq_false_iff_eq] at q ⊢; omega) | (have q := hc120; rw [beq_iff_eq] at q ⊢; omega) | (have q := hc120; rw [beq_eq_false_iff_ne] at q ⊢; omega))), HD.out⟩
      · replace HB115 := Lib.hid (ifF (bF hc120) HB115.out)
        have HK121 := Lib.hid hc120
        obtain rfl := Option.some.inj HB115.out
        obtain rfl := Option.some.inj HM.out
        go_wp2_with fail
        go_ret
        exact ⟨(by first | rfl | (refine congrArg (fun b => Ending.returned (Value.bool b)) ?_; first | (exact decide_eq_true (by omega)) | (exact decide_eq_false (by omega)) | (have q := hc120; rw [bne_iff_ne] at q ⊢; omega) | (have q := hc120; rw [bne_eq_false_iff_eq] at q ⊢; omega) | (have q := hc120; rw [beq_iff_eq] at q ⊢; omega) | (have q := hc120; rw [beq_eq_false_iff_ne] at q ⊢; omega))), HD.out⟩
end Go.Proofs.Ytabkmceajgpdjaa
