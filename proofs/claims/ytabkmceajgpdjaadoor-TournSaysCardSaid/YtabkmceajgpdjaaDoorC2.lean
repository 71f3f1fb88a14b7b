import Derived.Test.YtabkmceajgpdjaaDoorB
import Derived.Test.YtabkmceajgpdjaaDoorReach
set_option linter.all false
set_option maxRecDepth 100000
namespace Go.Proofs.YtabkmceajgpdjaaDoor
open Go.RowKit
def R3_Tourn_L2 (F : Nat) (v1 : List (Int × Int)) (v4 : Int) : Nat → (Int) → Option ((Int) ⊕ (Int))
  | 0, _ => none
  | g+1, v5 => if v5 < v4 then ((R1_Between F (v1) (v4) (v5)).bind fun y2 => if (y2 != 1) = true then some (.inr (6)) else R3_Tourn_L2 F v1 v4 g ((wrap64 (v5 + 1)))) else some (.inl (v5))
theorem R3_Tourn_L2_0 (F : Nat) (v1 : List (Int × Int)) (v4 : Int) (v5 : Int) : R3_Tourn_L2 F v1 v4 0 v5 = none := by rw [R3_Tourn_L2]
theorem R3_Tourn_L2_s (F g : Nat) (v1 : List (Int × Int)) (v4 : Int) (v5 : Int) : R3_Tourn_L2 F v1 v4 (g+1) v5 = (if v5 < v4 then ((R1_Between F (v1) (v4) (v5)).bind fun y2 => if (y2 != 1) = true then some (.inr (6)) else R3_Tourn_L2 F v1 v4 g ((wrap64 (v5 + 1)))) else some (.inl (v5))) := by rw [R3_Tourn_L2]
def R3_Tourn_L1 (F : Nat) (v0 : Int) (v1 : List (Int × Int)) : Nat → (Int) → Option ((Int) ⊕ (Int))
  | 0, _ => none
  | g+1, v4 => if v4 < v0 then (R3_Tourn_L2 F (v1) (v4) F (0)).bind fun o3 => match o3 with | .inr r => some (.inr (r)) | .inl o3 => R3_Tourn_L1 F v0 v1 g ((wrap64 (v4 + 1))) else some (.inl (v4))
theorem R3_Tourn_L1_0 (F : Nat) (v0 : Int) (v1 : List (Int × Int)) (v4 : Int) : R3_Tourn_L1 F v0 v1 0 v4 = none := by rw [R3_Tourn_L1]
theorem R3_Tourn_L1_s (F g : Nat) (v0 : Int) (v1 : List (Int × Int)) (v4 : Int) : R3_Tourn_L1 F v0 v1 (g+1) v4 = (if v4 < v0 then (R3_Tourn_L2 F (v1) (v4) F (0)).bind fun o3 => match o3 with | .inr r => some (.inr (r)) | .inl o3 => R3_Tourn_L1 F v0 v1 g ((wrap64 (v4 + 1))) else some (.inl (v4))) := by rw [R3_Tourn_L1]
def R3_Tourn (F : Nat) (v0 : Int) (v1 : List (Int × Int)) : Option (Int) := (R1_Lines F (v0) (v1)).bind fun y1 => (if (y1 != 0) = true then some (y1) else (R3_Tourn_L1 F (v0) (v1) F (0)).bind fun o4 => match o4 with | .inr r => some (r) | .inl o4 => some (0))
set_option maxRecDepth 100000 in
set_option maxHeartbeats 4000000 in
theorem R3_Tourn_ok {F : Nat} {v0 : Int} {v1 : List (Int × Int)} {A1 : Option Addr} {r : Int} (w : World) (cap1 : Nat) (hr1 : ReadsL w w.heap.size A1 v1) (h : R3_Tourn F v0 v1 = some r) :
    Calls Tryd.prog 4 #[.int .i64 v0, .slice A1 v1.length cap1] w fun e w' => e = .returned (.int .i64 r) ∧ Dr w w' := by
  have HR1 := Lib.hid hr1; clear hr1
  have HD := Lib.hid (Dr.refl w)
  unfold R3_Tourn at h
  have HM := Lib.hid h; clear h
  go_enter Tryd.func4, Tryd.ntmps4
  obtain ⟨y3, hy1, hm⟩ := obind HM.out
  replace HM := Lib.hid hm; clear hm
  have HC2 := R1_Lines_ok w cap1 (rdL (HD.out.below _) HR1.out) hy1
  clear hy1
  replace HC2 := Lib.hid HC2
  go_wp2_with fail
  refine HC2.out.mono ?_; rintro e W4 ⟨rfl, hd⟩
  replace HD := Lib.hid (HD.out.trans hd); clear hd
  rcases Bool.eq_false_or_eq_true (y3 != 0) with hc5 | hc5
  · replace HM := Lib.hid (ifT hc5 HM.out)
    have HK6 := Lib.hid hc5
    obtain rfl := Option.some.inj HM.out
    go_wp2_with fail
    try clear hc5
    go_ret
    exact ⟨rfl, HD.out⟩
  · replace HM := Lib.hid (ifF (bF hc5) HM.out)
    have HK6 := Lib.hid hc5
    go_wp2_with fail
    try clear hc5
    obtain ⟨o7, ho, hm⟩ := obind HM.out
    replace HM := Lib.hid hm; have HL1 := Lib.hid ho; clear hm ho
    go_loopg [6] F (fun gg ux9 wr => ∃ (x8 : Int), ux9 = .int .i64 x8 ∧ Hid (Dr w wr) ∧ Hid (R3_Tourn_L1 F (v0) (v1) gg x8 = some o7))
    case atStart => exact ⟨0, rfl, HD, HL1⟩
    case round =>
      obtain ⟨x8, rfl, HD, HL1⟩ := hrel
      rename World => W10
      cases gk with
      | zero => exact absurd ((R3_Tourn_L1_0 ..).symm.trans HL1.out) (by intro h; cases h)
      | succ g1 =>
        replace HL1 := Lib.hid ((R3_Tourn_L1_s ..).symm.trans HL1.out)
        by_cases hc11 : x8 < v0
        · replace HL1 := Lib.hid (ifT hc11 HL1.out)
          have HK12 := Lib.hid hc11
          go_wp2_with fail
          try clear hc11
          obtain ⟨o13, ho, hm⟩ := obind HL1.out
          replace HL1 := Lib.hid hm; have HL2 := Lib.hid ho; clear hm ho
          go_loopg [7] F (fun gg ux15 wr => ∃ (x14 : Int), ux15 = .int .i64 x14 ∧ Hid (Dr w wr) ∧ Hid (R3_Tourn_L2 F (v1) (x8) gg x14 = some o13))
          case atStart => exact ⟨0, rfl, HD, HL2⟩
          case round =>
            obtain ⟨x14, rfl, HD, HL2⟩ := hrel
            rename World => W16
            cases gk with
            | zero => exact absurd ((R3_Tourn_L2_0 ..).symm.trans HL2.out) (by intro h; cases h)
            | succ g2 =>
              replace HL2 := Lib.hid ((R3_Tourn_L2_s ..).symm.trans HL2.out)
              by_cases hc17 : x14 < x8
              · replace HL2 := Lib.hid (ifT hc17 HL2.out)
                have HK18 := Lib.hid hc17
                obtain ⟨y21, hy19, hm⟩ := obind HL2.out
                replace HL2 := Lib.hid hm; clear hm
                have HC20 := R1_Between_ok W16 cap1 (rdL (HD.out.below _) HR1.out) hy19
                clear hy19
                replace HC20 := Lib.hid HC20
                rcases Bool.eq_false_or_eq_true (y21 != 1) with hc22 | hc22
                · replace HL2 := Lib.hid (ifT hc22 HL2.out)
                  have HK23 := Lib.hid hc22
                  obtain rfl := Option.some.inj HL2.out
                  have hm := HL1.out; try dsimp only at hm
                  replace HL1 := Lib.hid hm; clear hm
                  obtain rfl := Option.some.inj HL1.out
                  have hm := HM.out; try dsimp only at hm
                  replace HM := Lib.hid hm; clear hm
                  obtain rfl := Option.some.inj HM.out
                  go_wp2_with fail
                  refine HC20.out.mono ?_; rintro e w' ⟨rfl, rfl⟩
                  go_wp2_with fail
                  try clear hc17 hc22
                  go_ret
                  exact ⟨rfl, HD.out⟩
                · replace HL2 := Lib.hid (ifF (bF hc22) HL2.out)
                  have HK23 := Lib.hid hc22
                  go_wp2_with fail
                  refine HC20.out.mono ?_; rintro e w' ⟨rfl, rfl⟩
                  go_wp2_with fail
                  try clear hc17 hc22
                  go_roundg g2
                  case measure => omega
                  case rel => exact ⟨(wrap64 (x14 + 1)), rfl, HD, HL2⟩
              · replace HL2 := Lib.hid (ifF hc17 HL2.out)
                have hc17d := decide_eq_false hc17
                have HK18 := Lib.hid hc17
                obtain rfl := Option.some.inj HL2.out
                have hm := HL1.out; try dsimp only at hm
                replace HL1 := Lib.hid hm; clear hm
                go_wp2_with fail
                try clear hc17 hc17d
                go_roundg g1
                case measure => omega
                case rel => exact ⟨(wrap64 (x8 + 1)), rfl, HD, HL1⟩
        · replace HL1 := Lib.hid (ifF hc11 HL1.out)
          have hc11d := decide_eq_false hc11
          have HK12 := Lib.hid hc11
          obtain rfl := Option.some.inj HL1.out
          have hm := HM.out; try dsimp only at hm
          replace HM := Lib.hid hm; clear hm
          obtain rfl := Option.some.inj HM.out
          go_wp2_with fail
          try clear hc11 hc11d
          go_ret
          exact ⟨rfl, HD.out⟩
end Go.Proofs.YtabkmceajgpdjaaDoor
