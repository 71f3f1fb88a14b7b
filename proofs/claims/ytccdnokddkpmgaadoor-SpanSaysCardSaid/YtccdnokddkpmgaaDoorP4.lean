import Derived.Test.YtccdnokddkpmgaaDoorP3
import Derived.Test.YtccdnokddkpmgaaDoorGF
import Derived.Test.YtccdnokddkpmgaaDoorAst
set_option linter.all false
set_option maxRecDepth 100000
namespace Go.Proofs.YtccdnokddkpmgaaDoor
open Go.RowKit
def R3_Costs_L1 (F : Nat) (v0 : Int) (v1 : List (Int × Int × Int)) : Nat → (Int) → Option ((Int) ⊕ (Int))
  | 0, _ => none
  | g+1, v3 => if v3 < ((v1).length : Int) then ((((ix v1 v3).bind fun y4 => (R3_in F (y4.1) (0) ((wrap64 (v0 - 1)))).bind fun y5 => if y5 = true then (ix v1 v3).bind fun y6 => (R3_in F (y6.2.1) (0) ((wrap64 (v0 - 1)))).bind fun y7 => if y7 = true then some false else some true else some true).bind fun b3 => if b3 = true then some true else (ix v1 v3).bind fun y8 => (R3_in F (y8.2.2) (0) (20)).bind fun y9 => if y9 = true then some false else some true).bind fun b2 => if b2 = true then some (.inr (1)) else ((ix v1 v3).bind fun y10 => (ix v1 v3).bind fun y11 => if (y10.1 == y11.2.1) = true then some (.inr (3)) else R3_Costs_L1 F v0 v1 g ((wrap64 (v3 + 1))))) else some (.inl (v3))
theorem R3_Costs_L1_0 (F : Nat) (v0 : Int) (v1 : List (Int × Int × Int)) (v3 : Int) : R3_Costs_L1 F v0 v1 0 v3 = none := by rw [R3_Costs_L1]
theorem R3_Costs_L1_s (F g : Nat) (v0 : Int) (v1 : List (Int × Int × Int)) (v3 : Int) : R3_Costs_L1 F v0 v1 (g+1) v3 = (if v3 < ((v1).length : Int) then ((((ix v1 v3).bind fun y4 => (R3_in F (y4.1) (0) ((wrap64 (v0 - 1)))).bind fun y5 => if y5 = true then (ix v1 v3).bind fun y6 => (R3_in F (y6.2.1) (0) ((wrap64 (v0 - 1)))).bind fun y7 => if y7 = true then some false else some true else some true).bind fun b3 => if b3 = true then some true else (ix v1 v3).bind fun y8 => (R3_in F (y8.2.2) (0) (20)).bind fun y9 => if y9 = true then some false else some true).bind fun b2 => if b2 = true then some (.inr (1)) else ((ix v1 v3).bind fun y10 => (ix v1 v3).bind fun y11 => if (y10.1 == y11.2.1) = true then some (.inr (3)) else R3_Costs_L1 F v0 v1 g ((wrap64 (v3 + 1))))) else some (.inl (v3))) := by rw [R3_Costs_L1]
def R3_Costs (F : Nat) (v0 : Int) (v1 : List (Int × Int × Int)) : Option (Int) := ((R3_in F (v0) (1) (8)).bind fun y1 => if y1 = true then (if 24 < ((v1).length : Int) then some (4) else (R3_Costs_L1 F (v0) (v1) F (0)).bind fun o12 => match o12 with | .inr r => some (r) | .inl o12 => some (0)) else some (1))
set_option maxRecDepth 100000 in
set_option maxHeartbeats 4000000 in
theorem R3_Costs_ok {F : Nat} {v0 : Int} {v1 : List (Int × Int × Int)} {A1 : Option Addr} {r : Int} (w : World) (cap1 : Nat) (hr1 : ReadsC w w.heap.size A1 v1) (h : R3_Costs F v0 v1 = some r) :
    Calls Tryd.prog 4 #[.int .i64 v0, .slice A1 v1.length cap1] w fun e w' => e = .returned (.int .i64 r) ∧ Dr w w' := by
  have HR1 := Lib.hid hr1; clear hr1
  have HD := Lib.hid (Dr.refl w)
  unfold R3_Costs at h
  have HM := Lib.hid h; clear h
  go_enter Tryd.func4, Tryd.ntmps4
  obtain ⟨y3, hy1, hm⟩ := obind HM.out
  replace HM := Lib.hid hm; clear hm
  have HC2 := R3_in_ok w  hy1
  clear hy1
  replace HC2 := Lib.hid HC2
  cases y3
  · replace HM := Lib.hid (ifF Bool.false_ne_true HM.out)
    obtain rfl := Option.some.inj HM.out
    go_wp2_with fail
    refine HC2.out.mono ?_; rintro e w' ⟨rfl, rfl⟩
    go_wp2_with fail
    go_ret
    exact ⟨rfl, HD.out⟩
  · replace HM := Lib.hid (ifT rfl HM.out)
    by_cases hc4 : 24 < ((v1).length : Int)
    · replace HM := Lib.hid (ifT hc4 HM.out)
      have HK5 := Lib.hid hc4
      have hc4n := hc4; try norm_cast at hc4n
      obtain rfl := Option.some.inj HM.out
      go_wp2_with fail
      refine HC2.out.mono ?_; rintro e w' ⟨rfl, rfl⟩
      go_wp2_with fail
      try clear hc4 hc4n
      go_ret
      exact ⟨rfl, HD.out⟩
    · replace HM := Lib.hid (ifF hc4 HM.out)
      have hc4d := decide_eq_false hc4
      have HK5 := Lib.hid hc4
      have hc4n := hc4; try norm_cast at hc4n
      go_wp2_with fail
      refine HC2.out.mono ?_; rintro e w' ⟨rfl, rfl⟩
      go_wp2_with fail
      try clear hc4 hc4n hc4d
      obtain ⟨o6, ho, hm⟩ := obind HM.out
      replace HM := Lib.hid hm; have HL1 := Lib.hid ho; clear hm ho
      go_loopg [5] F (fun gg ux8 wr => ∃ (x7 : Int), ux8 = .int .i64 x7 ∧ Hid (Dr w wr) ∧ Hid (R3_Costs_L1 F (v0) (v1) gg x7 = some o6))
      case atStart => exact ⟨0, rfl, HD, HL1⟩
      case round =>
        obtain ⟨x7, rfl, HD, HL1⟩ := hrel
        rename World => W9
        cases gk with
        | zero => exact absurd ((R3_Costs_L1_0 ..).symm.trans HL1.out) (by intro h; cases h)
        | succ g1 =>
          replace HL1 := Lib.hid ((R3_Costs_L1_s ..).symm.trans HL1.out)
          by_cases hc10 : x7 < ((v1).length : Int)
          · replace HL1 := Lib.hid (ifT hc10 HL1.out)
            have HK11 := Lib.hid hc10
            obtain ⟨b12, hb, hm⟩ := obind HL1.out
            replace HL1 := Lib.hid hm; have HB13 := Lib.hid hb; clear hm hb
            obtain ⟨b14, hb, hm⟩ := obind HB13.out
            replace HB13 := Lib.hid hm; have HB15 := Lib.hid hb; clear hm hb
            obtain ⟨y16, hy17, hm⟩ := obind HB15.out
            replace HB15 := Lib.hid hm; clear hm
            obtain ⟨b18, o19, ea20, _, f21, f22, f23, f24, f25⟩ := ReadsC.ix (rdC (HD.out.below _) HR1.out) hy17
            cases ea20
            try simp only [Nat.zero_add, Nat.add_zero, Int.toNat_natCast, Int.toNat_zero, Int.toNat_one] at f23 f24 f25
            have HY26 := Lib.hid hy17; clear hy17
            obtain ⟨y29, hy27, hm⟩ := obind HB15.out
            replace HB15 := Lib.hid hm; clear hm
            have HC28 := R3_in_ok W9  hy27
            clear hy27
            replace HC28 := Lib.hid HC28
            cases y29
            · replace HB15 := Lib.hid (ifF Bool.false_ne_true HB15.out)
              obtain rfl := Option.some.inj HB15.out
              replace HB13 := Lib.hid (ifT (by first | rfl | trivial) HB13.out)
              obtain rfl := Option.some.inj HB13.out
              replace HL1 := Lib.hid (ifT (by first | rfl | trivial) HL1.out)
              obtain rfl := Option.some.inj HL1.out
              have hm := HM.out; try dsimp only at hm
              replace HM := Lib.hid hm; clear hm
              obtain rfl := Option.some.inj HM.out
              go_wp2_with fail
              refine HC28.out.mono ?_; rintro e w' ⟨rfl, rfl⟩
              go_wp2_with fail
              try clear hc10 f21 f22 f23 f24 f25
              go_ret
              exact ⟨rfl, HD.out⟩
            · replace HB15 := Lib.hid (ifT rfl HB15.out)
              obtain ⟨y30, hy31, hm⟩ := obind HB15.out
              replace HB15 := Lib.hid hm; clear hm
              obtain rfl := Option.some.inj (HY26.out.symm.trans hy31)
              clear hy31
              obtain ⟨y34, hy32, hm⟩ := obind HB15.out
              replace HB15 := Lib.hid hm; clear hm
              have HC33 := R3_in_ok W9  hy32
              clear hy32
              replace HC33 := Lib.hid HC33
              cases y34
              · replace HB15 := Lib.hid (ifF Bool.false_ne_true HB15.out)
                obtain rfl := Option.some.inj HB15.out
                replace HB13 := Lib.hid (ifT (by first | rfl | trivial) HB13.out)
                obtain rfl := Option.some.inj HB13.out
                replace HL1 := Lib.hid (ifT (by first | rfl | trivial) HL1.out)
                obtain rfl := Option.some.inj HL1.out
                have hm := HM.out; try dsimp only at hm
                replace HM := Lib.hid hm; clear hm
                obtain rfl := Option.some.inj HM.out
                go_wp2_with fail
                refine HC28.out.mono ?_; rintro e w' ⟨rfl, rfl⟩
                go_wp2_with fail
                refine HC33.out.mono ?_; rintro e w' ⟨rfl, rfl⟩
                go_wp2_with fail
                try clear hc10 f21 f22 f23 f24 f25
                go_ret
                exact ⟨rfl, HD.out⟩
              · replace HB15 := Lib.hid (ifT rfl HB15.out)
                obtain rfl := Option.some.inj HB15.out
                replace HB13 := Lib.hid (ifF (by first | exact Bool.false_ne_true | exact not_false) HB13.out)
                obtain ⟨y35, hy36, hm⟩ := obind HB13.out
                replace HB13 := Lib.hid hm; clear hm
                obtain rfl := Option.some.inj (HY26.out.symm.trans hy36)
                clear hy36
                obtain ⟨y39, hy37, hm⟩ := obind HB13.out
                replace HB13 := Lib.hid hm; clear hm
                have HC38 := R3_in_ok W9  hy37
                clear hy37
                replace HC38 := Lib.hid HC38
                cases y39
                · replace HB13 := Lib.hid (ifF Bool.false_ne_true HB13.out)
                  obtain rfl := Option.some.inj HB13.out
                  replace HL1 := Lib.hid (ifT (by first | rfl | trivial) HL1.out)
                  obtain rfl := Option.some.inj HL1.out
                  have hm := HM.out; try dsimp only at hm
                  replace HM := Lib.hid hm; clear hm
                  obtain rfl := Option.some.inj HM.out
                  go_wp2_with fail
                  refine HC28.out.mono ?_; rintro e w' ⟨rfl, rfl⟩
                  go_wp2_with fail
                  refine HC33.out.mono ?_; rintro e w' ⟨rfl, rfl⟩
                  go_wp2_with fail
                  refine HC38.out.mono ?_; rintro e w' ⟨rfl, rfl⟩
                  go_wp2_with fail
                  try clear hc10 f21 f22 f23 f24 f25
                  go_ret
                  exact ⟨rfl, HD.out⟩
                · replace HB13 := Lib.hid (ifT rfl HB13.out)
                  obtain rfl := Option.some.inj HB13.out
                  replace HL1 := Lib.hid (ifF (by first | exact Bool.false_ne_true | exact not_false) HL1.out)
                  try go_wp2_with fail
                  refine HC28.out.mono ?_; rintro e w' ⟨rfl, rfl⟩
                  try go_wp2_with fail
                  refine HC33.out.mono ?_; rintro e w' ⟨rfl, rfl⟩
                  try go_wp2_with fail
                  refine HC38.out.mono ?_; rintro e w' ⟨rfl, rfl⟩
                  try go_wp2_with fail
                  try clear hc10 f21 f22 f23 f24 f25
                  obtain ⟨y40, hy41, hm⟩ := obind HL1.out
                  replace HL1 := Lib.hid hm; clear hm
                  obtain ⟨b42, o43, ea44, _, f45, f46, f47, f48, f49⟩ := ReadsC.ix (rdC (HD.out.below _) HR1.out) hy41
                  cases ea44
                  try simp only [Nat.zero_add, Nat.add_zero, Int.toNat_natCast, Int.toNat_zero, Int.toNat_one] at f47 f48 f49
                  have HY50 := Lib.hid hy41; clear hy41
                  obtain ⟨y51, hy52, hm⟩ := obind HL1.out
                  replace HL1 := Lib.hid hm; clear hm
                  obtain rfl := Option.some.inj (HY50.out.symm.trans hy52)
                  clear hy52
                  rcases Bool.eq_false_or_eq_true (y40.1 == y40.2.1) with hc53 | hc53
                  · replace HL1 := Lib.hid (ifT hc53 HL1.out)
                    have HK54 := Lib.hid hc53
                    go_quiet (fail)
                    generalize hW : World.drewN W9 _ = W55
                    have hd : Dr W9 W55 := ⟨_, hW.symm⟩
                    clear hW
                    try clear f45 f46 f47 f48 f49 hc53
                    replace HD := Lib.hid (HD.out.trans hd); clear hd
                    obtain rfl := Option.some.inj HL1.out
                    have hm := HM.out; try dsimp only at hm
                    replace HM := Lib.hid hm; clear hm
                    obtain rfl := Option.some.inj HM.out
                    go_wp2_with fail
                    go_ret
                    exact ⟨rfl, HD.out⟩
                  · replace HL1 := Lib.hid (ifF (bF hc53) HL1.out)
                    have HK54 := Lib.hid hc53
                    go_quiet (fail)
                    generalize hW : World.drewN W9 _ = W56
                    have hd : Dr W9 W56 := ⟨_, hW.symm⟩
                    clear hW
                    try clear f45 f46 f47 f48 f49 hc53
                    replace HD := Lib.hid (HD.out.trans hd); clear hd
                    go_wp2_with fail
                    go_roundg g1
                    case measure => omega
                    case rel => exact ⟨(wrap64 (x7 + 1)), rfl, HD, HL1⟩
          · replace HL1 := Lib.hid (ifF hc10 HL1.out)
            have hc10d := decide_eq_false hc10
            have HK11 := Lib.hid hc10
            obtain rfl := Option.some.inj HL1.out
            have hm := HM.out; try dsimp only at hm
            replace HM := Lib.hid hm; clear hm
            obtain rfl := Option.some.inj HM.out
            go_wp2_with fail
            try clear hc10 hc10d
            go_ret
            exact ⟨rfl, HD.out⟩
end Go.Proofs.YtccdnokddkpmgaaDoor
