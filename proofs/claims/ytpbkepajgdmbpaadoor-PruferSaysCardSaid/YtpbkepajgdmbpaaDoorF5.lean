import Derived.Test.YtpbkepajgdmbpaaDoorF1
import Derived.Test.YtpbkepajgdmbpaaDoorF2
import Derived.Test.YtpbkepajgdmbpaaDoorGF
set_option linter.all false
set_option maxRecDepth 100000
namespace Go.Proofs.YtpbkepajgdmbpaaDoor
open Go.RowKit
def R3_Grown_L2 (F : Nat) (v0 : List Int) (v3 : List Int) (v5 : Int) : Nat → (Int) → Option (Int)
  | 0, _ => none
  | g+1, v6 => ((R1_Has F (v3) (v6)).bind fun y2 => if y2 = true then some true else (dr v0 v5).bind fun y3 => (R1_Has F (y3) (v6)).bind fun y4 => if y4 = true then some true else some false).bind fun b1 => if b1 = true then R3_Grown_L2 F v0 v3 v5 g ((wrap64 (v6 + 1))) else some (v6)
theorem R3_Grown_L2_0 (F : Nat) (v0 : List Int) (v3 : List Int) (v5 : Int) (v6 : Int) : R3_Grown_L2 F v0 v3 v5 0 v6 = none := by rw [R3_Grown_L2]
theorem R3_Grown_L2_s (F g : Nat) (v0 : List Int) (v3 : List Int) (v5 : Int) (v6 : Int) : R3_Grown_L2 F v0 v3 v5 (g+1) v6 = (((R1_Has F (v3) (v6)).bind fun y2 => if y2 = true then some true else (dr v0 v5).bind fun y3 => (R1_Has F (y3) (v6)).bind fun y4 => if y4 = true then some true else some false).bind fun b1 => if b1 = true then R3_Grown_L2 F v0 v3 v5 g ((wrap64 (v6 + 1))) else some (v6)) := by rw [R3_Grown_L2]
def R3_Grown_L1 (F : Nat) (v0 : List Int) : Nat → (List Int) → (List (Int × Int)) → (Int) → Option (List Int × List (Int × Int) × Int)
  | 0, _, _, _ => none
  | g+1, v3, v4, v5 => if v5 < ((v0).length : Int) then (R3_Grown_L2 F (v0) (v3) (v5) F (0)).bind fun o5 => (app v3 o5).bind fun y6 => (ix v0 v5).bind fun y8 => (app v4 (o5, y8)).bind fun y7 => R3_Grown_L1 F v0 g (y6) (y7) ((wrap64 (v5 + 1))) else some (v3, v4, v5)
theorem R3_Grown_L1_0 (F : Nat) (v0 : List Int) (v3 : List Int) (v4 : List (Int × Int)) (v5 : Int) : R3_Grown_L1 F v0 0 v3 v4 v5 = none := by rw [R3_Grown_L1]
theorem R3_Grown_L1_s (F g : Nat) (v0 : List Int) (v3 : List Int) (v4 : List (Int × Int)) (v5 : Int) : R3_Grown_L1 F v0 (g+1) v3 v4 v5 = (if v5 < ((v0).length : Int) then (R3_Grown_L2 F (v0) (v3) (v5) F (0)).bind fun o5 => (app v3 o5).bind fun y6 => (ix v0 v5).bind fun y8 => (app v4 (o5, y8)).bind fun y7 => R3_Grown_L1 F v0 g (y6) (y7) ((wrap64 (v5 + 1))) else some (v3, v4, v5)) := by rw [R3_Grown_L1]
def R3_Grown_L3 (F : Nat) (v3 : List Int) : Nat → (Int) → Option (Int)
  | 0, _ => none
  | g+1, v7 => (R1_Has F (v3) (v7)).bind fun y10 => if y10 = true then R3_Grown_L3 F v3 g ((wrap64 (v7 + 1))) else some (v7)
theorem R3_Grown_L3_0 (F : Nat) (v3 : List Int) (v7 : Int) : R3_Grown_L3 F v3 0 v7 = none := by rw [R3_Grown_L3]
theorem R3_Grown_L3_s (F g : Nat) (v3 : List Int) (v7 : Int) : R3_Grown_L3 F v3 (g+1) v7 = ((R1_Has F (v3) (v7)).bind fun y10 => if y10 = true then R3_Grown_L3 F v3 g ((wrap64 (v7 + 1))) else some (v7)) := by rw [R3_Grown_L3]
def R3_Grown_L4 (F : Nat) (v3 : List Int) : Nat → (Int) → Option (Int)
  | 0, _ => none
  | g+1, v8 => (R1_Has F (v3) (v8)).bind fun y12 => if y12 = true then R3_Grown_L4 F v3 g ((wrap64 (v8 + 1))) else some (v8)
theorem R3_Grown_L4_0 (F : Nat) (v3 : List Int) (v8 : Int) : R3_Grown_L4 F v3 0 v8 = none := by rw [R3_Grown_L4]
theorem R3_Grown_L4_s (F g : Nat) (v3 : List Int) (v8 : Int) : R3_Grown_L4 F v3 (g+1) v8 = ((R1_Has F (v3) (v8)).bind fun y12 => if y12 = true then R3_Grown_L4 F v3 g ((wrap64 (v8 + 1))) else some (v8)) := by rw [R3_Grown_L4]
def R3_Grown_L6 (F : Nat) (v2 : Int) (v4 : List (Int × Int)) (v10 : Int) : Nat → (List (Int × Int)) → (Int) → Option (List (Int × Int) × Int)
  | 0, _, _ => none
  | g+1, v9, v11 => if v11 < v2 then ((R1_Beside F (v4) (v10) (v11)).bind fun y15 => if y15 = true then (app v9 (v10, v11)).bind fun y16 => R3_Grown_L6 F v2 v4 v10 g (y16) ((wrap64 (v11 + 1))) else R3_Grown_L6 F v2 v4 v10 g (v9) ((wrap64 (v11 + 1)))) else some (v9, v11)
theorem R3_Grown_L6_0 (F : Nat) (v2 : Int) (v4 : List (Int × Int)) (v10 : Int) (v9 : List (Int × Int)) (v11 : Int) : R3_Grown_L6 F v2 v4 v10 0 v9 v11 = none := by rw [R3_Grown_L6]
theorem R3_Grown_L6_s (F g : Nat) (v2 : Int) (v4 : List (Int × Int)) (v10 : Int) (v9 : List (Int × Int)) (v11 : Int) : R3_Grown_L6 F v2 v4 v10 (g+1) v9 v11 = (if v11 < v2 then ((R1_Beside F (v4) (v10) (v11)).bind fun y15 => if y15 = true then (app v9 (v10, v11)).bind fun y16 => R3_Grown_L6 F v2 v4 v10 g (y16) ((wrap64 (v11 + 1))) else R3_Grown_L6 F v2 v4 v10 g (v9) ((wrap64 (v11 + 1)))) else some (v9, v11)) := by rw [R3_Grown_L6]
def R3_Grown_L5 (F : Nat) (v2 : Int) (v4 : List (Int × Int)) : Nat → (List (Int × Int)) → (Int) → Option (List (Int × Int) × Int)
  | 0, _, _ => none
  | g+1, v9, v10 => if v10 < v2 then (R3_Grown_L6 F (v2) (v4) (v10) F (v9) ((wrap64 (v10 + 1)))).bind fun o17 => R3_Grown_L5 F v2 v4 g (o17.1) ((wrap64 (v10 + 1))) else some (v9, v10)
theorem R3_Grown_L5_0 (F : Nat) (v2 : Int) (v4 : List (Int × Int)) (v9 : List (Int × Int)) (v10 : Int) : R3_Grown_L5 F v2 v4 0 v9 v10 = none := by rw [R3_Grown_L5]
theorem R3_Grown_L5_s (F g : Nat) (v2 : Int) (v4 : List (Int × Int)) (v9 : List (Int × Int)) (v10 : Int) : R3_Grown_L5 F v2 v4 (g+1) v9 v10 = (if v10 < v2 then (R3_Grown_L6 F (v2) (v4) (v10) F (v9) ((wrap64 (v10 + 1)))).bind fun o17 => R3_Grown_L5 F v2 v4 g (o17.1) ((wrap64 (v10 + 1))) else some (v9, v10)) := by rw [R3_Grown_L5]
def R3_Grown (F : Nat) (v0 : List Int) : Option (List (Int × Int)) := (R3_Grown_L1 F (v0) F ([]) ([]) (0)).bind fun o9 => (R3_Grown_L3 F (o9.1) F (0)).bind fun o11 => (R3_Grown_L4 F (o9.1) F ((wrap64 (o11 + 1)))).bind fun o13 => (app o9.2.1 (o11, o13)).bind fun y14 => (R3_Grown_L5 F ((wrap64 (((v0).length : Int) + 2))) (y14) F ([]) (0)).bind fun o18 => some (o18.1)
set_option maxRecDepth 100000 in
set_option maxHeartbeats 4000000 in
theorem R3_Grown_ok {F : Nat} {v0 : List Int} {A0 : Option Addr} {r : List (Int × Int)} (w : World) (cap0 : Nat) (hr0 : ReadsI w w.heap.size A0 v0) (hcap0 : v0.length ≤ cap0) (h : R3_Grown F v0 = some r) :
    Calls Tryd.prog 10 #[.slice A0 v0.length cap0] w (PostG (fun v => v) (fun v => owL v r) w.heap.size w) := by
  have HR0 := Lib.hid hr0; clear hr0
  have HCAP0 := Lib.hid hcap0; clear hcap0
  have HD := Lib.hid (Below.refl w.heap.size w)
  have HOA := Lib.hid (HP.nil (W := w) (B := w.heap.size))
  unfold R3_Grown at h
  have HM := Lib.hid h; clear h
  go_enter Tryd.func10, Tryd.ntmps10
  replace HOA := Lib.hid (show HP _ _ (.fl (owI (.slice none 0 0) ([])) :: _) from HOA.out.pushNil _ _)
  replace HOA := Lib.hid (show HP _ _ (.fl (owL (.slice none 0 0) ([])) :: _) from HOA.out.pushNil _ _)
  go_wp2_with fail
  obtain ⟨o3, ho, hm⟩ := obind HM.out
  replace HM := Lib.hid hm; have HL1 := Lib.hid ho; clear hm ho
  go_loopg [4, 5, 6] F (fun gg ux7 ux8 ux9 wr => ∃ (x4 : List Int) (x5 : List (Int × Int)) (x6 : Int) (V10 : Value) (V11 : Value), V10 = ux7 ∧ V11 = ux8 ∧ ux9 = .int .i64 x6 ∧ Hid (Below w.heap.size w wr) ∧ Hid (HP wr w.heap.size [.fl (owL V11 (x5)), .fl (owI V10 (x4))]) ∧ Hid (R3_Grown_L1 F (v0) gg x4 x5 x6 = some o3))
  case atStart => exact ⟨[], [], 0, (.slice none 0 0), (.slice none 0 0), rfl, rfl, rfl, HD, HOA, HL1⟩
  case round =>
    obtain ⟨x4, x5, x6, V10, V11, rfl, rfl, rfl, HD, HOA, HL1⟩ := hrel
    rename World => W12
    cases gk with
    | zero => exact absurd ((R3_Grown_L1_0 ..).symm.trans HL1.out) (by intro h; cases h)
    | succ g1 =>
      replace HL1 := Lib.hid ((R3_Grown_L1_s ..).symm.trans HL1.out)
      by_cases hc13 : x6 < ((v0).length : Int)
      · replace HL1 := Lib.hid (ifT hc13 HL1.out)
        have HK14 := Lib.hid hc13
        go_wp2_with fail
        try clear hc13
        obtain ⟨o15, ho, hm⟩ := obind HL1.out
        replace HL1 := Lib.hid hm; have HL2 := Lib.hid ho; clear hm ho
        go_loopg [7] F (fun gg ux17 wr => ∃ (x16 : Int), ux17 = .int .i64 x16 ∧ Hid (Below W12.heap.size W12 wr) ∧ Hid (R3_Grown_L2 F (v0) (x4) (x6) gg x16 = some o15))
        case atStart => exact ⟨0, rfl, (Lib.hid (Below.refl _ _)), HL2⟩
        case round =>
          obtain ⟨x16, rfl, HW2, HL2⟩ := hrel
          rename World => W18
          have hd := HW2.out
          replace HOA := Lib.hid (HOA.out.below hd)
          replace HD := Lib.hid (HD.out.trans (hd.mono HD.out.size))
          clear hd
          cases gk with
          | zero => exact absurd ((R3_Grown_L2_0 ..).symm.trans HL2.out) (by intro h; cases h)
          | succ g2 =>
            replace HL2 := Lib.hid ((R3_Grown_L2_s ..).symm.trans HL2.out)
            obtain ⟨b19, hb, hm⟩ := obind HL2.out
            replace HL2 := Lib.hid hm; have HB20 := Lib.hid hb; clear hm hb
            obtain ⟨y23, hy21, hm⟩ := obind HB20.out
            replace HB20 := Lib.hid hm; clear hm
            obtain ⟨A24, cap25, he, _⟩ := HP.open_I HOA.out (List.Mem.tail _ (List.Mem.head _))
            subst he
            have HC22 := R1_Has_ok W18 cap25 (HP.rd_I HOA.out (List.Mem.tail _ (List.Mem.head _))) hy21
            clear hy21
            replace HC22 := Lib.hid HC22
            cases y23
            · replace HB20 := Lib.hid (ifF Bool.false_ne_true HB20.out)
              obtain ⟨y26, hy27, hm⟩ := obind HB20.out
              replace HB20 := Lib.hid hm; clear hm
              obtain ⟨f28, hy27⟩ := dr_some hy27; subst hy27
              obtain ⟨A29, n34, cap30, hsl31, hrs, hcs, hns⟩ := ReadsI.sliceD (rdI HD.out HR0.out) HCAP0.out f28
              have HR32 := Lib.hid hrs; have HCAP33 := Lib.hid hcs; have HN35 := Lib.hid hns; clear hrs hcs hns f28
              obtain ⟨y38, hy36, hm⟩ := obind HB20.out
              replace HB20 := Lib.hid hm; clear hm
              have HC37 := R1_Has_ok W18 cap30 HR32.out hy36
              clear hy36
              simp only [← HN35.out] at HC37
              replace HC37 := Lib.hid HC37
              cases y38
              · replace HB20 := Lib.hid (ifF Bool.false_ne_true HB20.out)
                obtain rfl := Option.some.inj HB20.out
                replace HL2 := Lib.hid (ifF (by first | exact Bool.false_ne_true | exact not_false) HL2.out)
                obtain rfl := Option.some.inj HL2.out
                have hm := HL1.out; try dsimp only at hm
                replace HL1 := Lib.hid hm; clear hm
                obtain ⟨y39, hy40, hm⟩ := obind HL1.out
                replace HL1 := Lib.hid hm; clear hm
                obtain ⟨f41, hy40⟩ := app_some hy40; subst hy40
                go_wp2_with fail
                refine HC22.out.mono ?_; rintro e w' ⟨rfl, rfl⟩
                go_wp2_with fail
                refine HC37.out.mono ?_; rintro e w' ⟨rfl, rfl⟩
                have HF44 := Lib.hid f41; clear f41
                go_upto_region 11 with (at_builtin; refine hp_appI _ (.tmp 34) (.tmp 36) 23 Tryd.underlying23 rfl rfl (L1 := [_]) HOA.out rfl rfl HF44.out HD.out.size ?_; intro V42 W43 hoa hd)
                try clear hsl31
                replace HOA := Lib.hid (show HP W43 w.heap.size [.fl (owL V11 (x5)), .fl (owI V42 ((x4 ++ [x16])))] from hoa); clear hoa
                replace HD := Lib.hid (HD.out.trans hd); clear hd
                obtain ⟨y45, hy46, hm⟩ := obind HL1.out
                replace HL1 := Lib.hid hm; clear hm
                obtain ⟨b47, o48, ea49, _, f50, f51, f52⟩ := ReadsI.ix (rdI HD.out HR0.out) hy46
                cases ea49
                try simp only [Nat.zero_add, Nat.add_zero, Int.toNat_natCast, Int.toNat_zero, Int.toNat_one] at f52
                have HY54 := Lib.hid hy46; clear hy46
                obtain ⟨y55, hy56, hm⟩ := obind HL1.out
                replace HL1 := Lib.hid hm; clear hm
                obtain ⟨f57, hy56⟩ := app_some hy56; subst hy56
                have HF60 := Lib.hid f57; clear f57
                go_upto_region 6 with (at_builtin; refine hp_appL _ (.tmp 38) (.tmp 45) 22 Tryd.underlying22 rfl rfl (L1 := []) HOA.out rfl rfl HF60.out HD.out.size ?_; intro V58 W59 hoa hd)
                try clear f50 f51 f52
                replace HOA := Lib.hid (show HP W59 w.heap.size [.fl (owL V58 ((x5 ++ [(x16, y45)]))), .fl (owI V42 ((x4 ++ [x16])))] from hoa); clear hoa
                replace HD := Lib.hid (HD.out.trans hd); clear hd
                go_wp2_with fail
                go_roundg g1
                case measure => omega
                case rel => exact ⟨(x4 ++ [x16]), (x5 ++ [(x16, y45)]), (wrap64 (x6 + 1)), V42, V58, rfl, rfl, rfl, HD, HOA, HL1⟩
              · replace HB20 := Lib.hid (ifT rfl HB20.out)
                obtain rfl := Option.some.inj HB20.out
                replace HL2 := Lib.hid (ifT (by first | rfl | trivial) HL2.out)
                go_wp2_with fail
                refine HC22.out.mono ?_; rintro e w' ⟨rfl, rfl⟩
                go_wp2_with fail
                refine HC37.out.mono ?_; rintro e w' ⟨rfl, rfl⟩
                go_wp2_with fail
                try clear hsl31
                go_roundg g2
                case measure => omega
                case rel => exact ⟨(wrap64 (x16 + 1)), rfl, HW2, HL2⟩
            · replace HB20 := Lib.hid (ifT rfl HB20.out)
              obtain rfl := Option.some.inj HB20.out
              replace HL2 := Lib.hid (ifT (by first | rfl | trivial) HL2.out)
              go_wp2_with fail
              refine HC22.out.mono ?_; rintro e w' ⟨rfl, rfl⟩
              go_wp2_with fail
              go_roundg g2
              case measure => omega
              case rel => exact ⟨(wrap64 (x16 + 1)), rfl, HW2, HL2⟩
      · replace HL1 := Lib.hid (ifF hc13 HL1.out)
        have hc13d := decide_eq_false hc13
        have HK14 := Lib.hid hc13
        obtain rfl := Option.some.inj HL1.out
        have hm := HM.out; try dsimp only at hm
        replace HM := Lib.hid hm; clear hm
        go_wp2_with fail
        try clear hc13 hc13d
        obtain ⟨o61, ho, hm⟩ := obind HM.out
        replace HM := Lib.hid hm; have HL3 := Lib.hid ho; clear hm ho
        go_loopg [8] F (fun gg ux63 wr => ∃ (x62 : Int), ux63 = .int .i64 x62 ∧ Hid (Below W12.heap.size W12 wr) ∧ Hid (R3_Grown_L3 F (x4) gg x62 = some o61))
        case atStart => exact ⟨0, rfl, (Lib.hid (Below.refl _ _)), HL3⟩
        case round =>
          obtain ⟨x62, rfl, HW3, HL3⟩ := hrel
          rename World => W64
          have hd := HW3.out
          replace HOA := Lib.hid (HOA.out.below hd)
          replace HD := Lib.hid (HD.out.trans (hd.mono HD.out.size))
          clear hd
          cases gk with
          | zero => exact absurd ((R3_Grown_L3_0 ..).symm.trans HL3.out) (by intro h; cases h)
          | succ g3 =>
            replace HL3 := Lib.hid ((R3_Grown_L3_s ..).symm.trans HL3.out)
            obtain ⟨y67, hy65, hm⟩ := obind HL3.out
            replace HL3 := Lib.hid hm; clear hm
            obtain ⟨A68, cap69, he, _⟩ := HP.open_I HOA.out (List.Mem.tail _ (List.Mem.head _))
            subst he
            have HC66 := R1_Has_ok W64 cap69 (HP.rd_I HOA.out (List.Mem.tail _ (List.Mem.head _))) hy65
            clear hy65
            replace HC66 := Lib.hid HC66
            cases y67
            · replace HL3 := Lib.hid (ifF Bool.false_ne_true HL3.out)
              obtain rfl := Option.some.inj HL3.out
              have hm := HM.out; try dsimp only at hm
              replace HM := Lib.hid hm; clear hm
              go_wp2_with fail
              refine HC66.out.mono ?_; rintro e w' ⟨rfl, rfl⟩
              go_wp2_with fail
              obtain ⟨o70, ho, hm⟩ := obind HM.out
              replace HM := Lib.hid hm; have HL4 := Lib.hid ho; clear hm ho
              go_loopg [9] F (fun gg ux72 wr => ∃ (x71 : Int), ux72 = .int .i64 x71 ∧ Hid (Below W64.heap.size W64 wr) ∧ Hid (R3_Grown_L4 F (x4) gg x71 = some o70))
              case atStart => exact ⟨(wrap64 (x62 + 1)), rfl, (Lib.hid (Below.refl _ _)), HL4⟩
              case round =>
                obtain ⟨x71, rfl, HW4, HL4⟩ := hrel
                rename World => W73
                have hd := HW4.out
                replace HOA := Lib.hid (HOA.out.below hd)
                replace HD := Lib.hid (HD.out.trans (hd.mono HD.out.size))
                clear hd
                cases gk with
                | zero => exact absurd ((R3_Grown_L4_0 ..).symm.trans HL4.out) (by intro h; cases h)
                | succ g4 =>
                  replace HL4 := Lib.hid ((R3_Grown_L4_s ..).symm.trans HL4.out)
                  obtain ⟨y76, hy74, hm⟩ := obind HL4.out
                  replace HL4 := Lib.hid hm; clear hm
                  have HC75 := R1_Has_ok W73 cap69 (HP.rd_I HOA.out (List.Mem.tail _ (List.Mem.head _))) hy74
                  clear hy74
                  replace HC75 := Lib.hid HC75
                  cases y76
                  · replace HL4 := Lib.hid (ifF Bool.false_ne_true HL4.out)
                    obtain rfl := Option.some.inj HL4.out
                    have hm := HM.out; try dsimp only at hm
                    replace HM := Lib.hid hm; clear hm
                    obtain ⟨y77, hy78, hm⟩ := obind HM.out
                    replace HM := Lib.hid hm; clear hm
                    obtain ⟨f79, hy78⟩ := app_some hy78; subst hy78
                    go_wp2_with fail
                    refine HC75.out.mono ?_; rintro e w' ⟨rfl, rfl⟩
                    have HF82 := Lib.hid f79; clear f79
                    go_upto_region 19 with (at_builtin; refine hp_appL _ (.tmp 59) (.tmp 63) 22 Tryd.underlying22 rfl rfl (L1 := []) HOA.out rfl rfl HF82.out HD.out.size ?_; intro V80 W81 hoa hd)
                    replace HOA := Lib.hid (show HP W81 w.heap.size [.fl (owL V80 ((x5 ++ [(x62, x71)]))), .fl (owI (.slice A68 (x4).length cap69) (x4))] from hoa); clear hoa
                    replace HD := Lib.hid (HD.out.trans hd); clear hd
                    generalize (x5 ++ [(x62, x71)]) = xl at HOA HM
                    replace HOA := Lib.hid (show HP _ _ (.fl (owL (.slice none 0 0) ([])) :: _) from HOA.out.pushNil _ _)
                    go_wp2_with fail
                    obtain ⟨o84, ho, hm⟩ := obind HM.out
                    replace HM := Lib.hid hm; have HL5 := Lib.hid ho; clear hm ho
                    go_loopg [10, 11] F (fun gg ux87 ux88 wr => ∃ (x85 : List (Int × Int)) (x86 : Int) (V89 : Value), V89 = ux87 ∧ ux88 = .int .i64 x86 ∧ Hid (Below w.heap.size w wr) ∧ Hid (HP wr w.heap.size [.fl (owL V89 (x85)), .fl (owL V80 (xl)), .fl (owI (.slice A68 (x4).length cap69) (x4))]) ∧ Hid (R3_Grown_L5 F ((wrap64 (((v0).length : Int) + 2))) (xl) gg x85 x86 = some o84))
                    case atStart => exact ⟨[], 0, (.slice none 0 0), rfl, rfl, HD, HOA, HL5⟩
                    case round =>
                      obtain ⟨x85, x86, V89, rfl, rfl, HD, HOA, HL5⟩ := hrel
                      rename World => W90
                      cases gk with
                      | zero => exact absurd ((R3_Grown_L5_0 ..).symm.trans HL5.out) (by intro h; cases h)
                      | succ g5 =>
                        replace HL5 := Lib.hid ((R3_Grown_L5_s ..).symm.trans HL5.out)
                        by_cases hc91 : x86 < (wrap64 (((v0).length : Int) + 2))
                        · replace HL5 := Lib.hid (ifT hc91 HL5.out)
                          have HK92 := Lib.hid hc91
                          go_wp2_with fail
                          try clear hc91
                          obtain ⟨o93, ho, hm⟩ := obind HL5.out
                          replace HL5 := Lib.hid hm; have HL6 := Lib.hid ho; clear hm ho
                          go_loopg [10, 12] F (fun gg ux96 ux97 wr => ∃ (x94 : List (Int × Int)) (x95 : Int) (V98 : Value), V98 = ux96 ∧ ux97 = .int .i64 x95 ∧ Hid (Below w.heap.size w wr) ∧ Hid (HP wr w.heap.size [.fl (owL V98 (x94)), .fl (owL V80 (xl)), .fl (owI (.slice A68 (x4).length cap69) (x4))]) ∧ Hid (R3_Grown_L6 F ((wrap64 (((v0).length : Int) + 2))) (xl) (x86) gg x94 x95 = some o93))
                          case atStart => exact ⟨x85, (wrap64 (x86 + 1)), V89, rfl, rfl, HD, HOA, HL6⟩
                          case round =>
                            obtain ⟨x94, x95, V98, rfl, rfl, HD, HOA, HL6⟩ := hrel
                            rename World => W99
                            cases gk with
                            | zero => exact absurd ((R3_Grown_L6_0 ..).symm.trans HL6.out) (by intro h; cases h)
                            | succ g6 =>
                              replace HL6 := Lib.hid ((R3_Grown_L6_s ..).symm.trans HL6.out)
                              by_cases hc100 : x95 < (wrap64 (((v0).length : Int) + 2))
                              · replace HL6 := Lib.hid (ifT hc100 HL6.out)
                                have HK101 := Lib.hid hc100
                                obtain ⟨y104, hy102, hm⟩ := obind HL6.out
                                replace HL6 := Lib.hid hm; clear hm
                                obtain ⟨A105, cap106, he, _⟩ := HP.open_L HOA.out (List.Mem.tail _ (List.Mem.head _))
                                subst he
                                have HC103 := R1_Beside_ok W99 cap106 (HP.rd_L HOA.out (List.Mem.tail _ (List.Mem.head _))) hy102
                                clear hy102
                                replace HC103 := Lib.hid HC103
                                cases y104
                                · replace HL6 := Lib.hid (ifF Bool.false_ne_true HL6.out)
                                  go_wp2_with fail
                                  refine HC103.out.mono ?_; rintro e w' ⟨rfl, rfl⟩
                                  go_wp2_with fail
                                  try clear hc100
                                  go_roundg g6
                                  case measure => omega
                                  case rel => exact ⟨x94, (wrap64 (x95 + 1)), V98, rfl, rfl, HD, HOA, HL6⟩
                                · replace HL6 := Lib.hid (ifT rfl HL6.out)
                                  obtain ⟨y107, hy108, hm⟩ := obind HL6.out
                                  replace HL6 := Lib.hid hm; clear hm
                                  obtain ⟨f109, hy108⟩ := app_some hy108; subst hy108
                                  go_wp2_with fail
                                  refine HC103.out.mono ?_; rintro e w' ⟨rfl, rfl⟩
                                  have HF112 := Lib.hid f109; clear f109
                                  go_upto_region 25 with (at_builtin; refine hp_appL _ (.tmp 81) (.tmp 85) 22 Tryd.underlying22 rfl rfl (L1 := []) HOA.out rfl rfl HF112.out HD.out.size ?_; intro V110 W111 hoa hd)
                                  try clear hc100
                                  replace HOA := Lib.hid (show HP W111 w.heap.size [.fl (owL V110 ((x94 ++ [(x86, x95)]))), .fl (owL (.slice A105 (xl).length cap106) (xl)), .fl (owI (.slice A68 (x4).length cap69) (x4))] from hoa); clear hoa
                                  replace HD := Lib.hid (HD.out.trans hd); clear hd
                                  go_wp2_with fail
                                  go_roundg g6
                                  case measure => omega
                                  case rel => exact ⟨(x94 ++ [(x86, x95)]), (wrap64 (x95 + 1)), V110, rfl, rfl, HD, HOA, HL6⟩
                              · replace HL6 := Lib.hid (ifF hc100 HL6.out)
                                have hc100d := decide_eq_false hc100
                                have HK101 := Lib.hid hc100
                                obtain rfl := Option.some.inj HL6.out
                                have hm := HL5.out; try dsimp only at hm
                                replace HL5 := Lib.hid hm; clear hm
                                go_wp2_with fail
                                try clear hc100 hc100d
                                go_roundg g5
                                case measure => omega
                                case rel => exact ⟨x94, (wrap64 (x86 + 1)), V98, rfl, rfl, HD, HOA, HL5⟩
                        · replace HL5 := Lib.hid (ifF hc91 HL5.out)
                          have hc91d := decide_eq_false hc91
                          have HK92 := Lib.hid hc91
                          obtain rfl := Option.some.inj HL5.out
                          have hm := HM.out; try dsimp only at hm
                          replace HM := Lib.hid hm; clear hm
                          obtain rfl := Option.some.inj HM.out
                          go_wp2_with fail
                          try clear hc91 hc91d
                          go_ret
                          exact ⟨_, rfl, HOA.out.get (List.Mem.head _), HD.out⟩
                  · replace HL4 := Lib.hid (ifT rfl HL4.out)
                    go_wp2_with fail
                    refine HC75.out.mono ?_; rintro e w' ⟨rfl, rfl⟩
                    go_wp2_with fail
                    go_roundg g4
                    case measure => omega
                    case rel => exact ⟨(wrap64 (x71 + 1)), rfl, HW4, HL4⟩
            · replace HL3 := Lib.hid (ifT rfl HL3.out)
              go_wp2_with fail
              refine HC66.out.mono ?_; rintro e w' ⟨rfl, rfl⟩
              go_wp2_with fail
              go_roundg g3
              case measure => omega
              case rel => exact ⟨(wrap64 (x62 + 1)), rfl, HW3, HL3⟩
end Go.Proofs.YtpbkepajgdmbpaaDoor
