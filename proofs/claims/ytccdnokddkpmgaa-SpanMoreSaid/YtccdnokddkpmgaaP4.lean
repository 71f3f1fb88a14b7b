import Derived.Test.YtccdnokddkpmgaaP3
import Derived.Test.YtccdnokddkpmgaaGF
import Derived.Test.YtccdnokddkpmgaaAst
set_option linter.all false
set_option maxRecDepth 100000
namespace Go.Proofs.Ytccdnokddkpmgaa
open Go.RowKit
def R3_Costs_L1 (F : Nat) (v0 : Int) (v1 : List (Int × Int × Int)) : Nat → (Int) → Option ((Int) ⊕ (Int))
  | 0, _ => none
  | g+1, v3 => if v3 < ((v1).length : Int) then ((((ix v1 v3).bind fun y4 => (R3_in F (y4.1) (0) ((wrap64 (v0 - 1)))).bind fun y5 => if y5 = true then (ix v1 v3).bind fun y6 => (R3_in F (y6.2.1) (0) ((wrap64 (v0 - 1)))).bind fun y7 => if y7 = true then some false else some true else some true).bind fun b3 => if b3 = true then some true else (ix v1 v3).bind fun y8 => (R3_in F (y8.2.2) (0) (20)).bind fun y9 => if y9 = true then some false else some true).bind fun b2 => if b2 = true then some (.inr (1)) else ((ix v1 v3).bind fun y10 => (ix v1 v3).bind fun y11 => if (y10.1 == y11.2.1) = true then some (.inr (3)) else R3_Costs_L1 F v0 v1 g ((wrap64 (v3 + 1))))) else some (.inl (v3))
theorem R3_Costs_L1_0 (F : Nat) (v0 : Int) (v1 : List (Int × Int × Int)) (v3 : Int) : R3_Costs_L1 F v0 v1 0 v3 = none := by rw [R3_Costs_L1]
theorem R3_Costs_L1_s (F g : Nat) (v0 : Int) (v1 : List (Int × Int × Int)) (v3 : Int) : R3_Costs_L1 F v0 v1 (g+1) v3 = (if v3 < ((v1).length : Int) then ((((ix v1 v3).bind fun y4 => (R3_in F (y4.1) (0) ((wrap64 (v0 - 1)))).bind fun y5 => if y5 = true then (ix v1 v3).bind fun y6 => (R3_in F (y6.2.1) (0) ((wrap64 (v0 - 1)))).bind fun y7 => if y7 = true then some false else some true else some true).bind fun b3 => if b3 = true then some true else (ix v1 v3).bind fun y8 => (R3_in F (y8.2.2) (0) (20)).bind fun y9 => if y9 = true then some false else some true).bind fun b2 => if b2 = true then some (.inr (1)) else ((ix v1 v3).bind fun y10 => (ix v1 v3).bind fun y11 => if (y10.1 == y11.2.1) = true then some (.inr (3)) else R3_Costs_L1 F v0 v1 g ((wrap64 (v3 + 1))))) else some (.inl (v3))) := by rw [R3_Costs_L1]
def R3_Costs (F : Nat) (v0 : Int) (v1 : List (Int × Int × Int)) : Option (Int) := ((R3_in F (v0) (1) (8)).bind fun y1 => if y1 = true then (if 24 < ((v1).length : Int) then some (4) else (R3_Costs_L1 F (v0) (v1) F (0)).bind fun o12 => match o12 with | .inr r => some (r) | .inl o12 => some (0)) else some (1))
set_option maxRecDepth 100000 in
set_option maxHeartbeats 4000000 in
theorem R3_Costs_ok {F : Nat} {v0 : Int} {v1 : List (Int × Int × Int)} {A1 : Option Addr} {r : Int} (w : World) (cap1 : Nat) (hr1 : ReadsC w w.heap.size A1 v1) (h : R3_Costs F v0 v1 = some r) :
    Calls Try.prog 9 #[.int .i64 v0, .slice A1 v1.length cap1] w fun e w' => e = .returned (.int .i64 r) ∧ Dr w w' := by
  have HR1 := Lib.hid hr1; clear hr1
  have HD := Lib.hid (Dr.refl w)
  unfold R3_Costs at h
  have HM := Lib.hid h; clear h
  go_enter Try.func9, Try.ntmps9
  obtain ⟨y3, hy1, hm⟩ := obind HM.out
  replace HM := Lib.hid hm; clear hm
  have HC2 := R3_in_ok w  hy1
  clear hy1
  replace HC2 := Lib.hid HC2
  cases y3
  · replace HM := Lib.hid (ifF Bool.false_ne_true HM.out)
    obtain rfl := Option.some.inj HM.out
    go_wp2_with fail
    refine HC2.out.mono ?_; rintro e w' ⟨rfl, rfl⟩
    go_wp2_with fail
    go_ret
    exact ⟨rfl, HD.out⟩
  · replace HM := Lib.hid (ifT rfl HM.out)
    by_cases hc4 : 24 < ((v1).length : Int)
    · replace HM := Lib.hid (ifT hc4 HM.out)
      have HK5 := Lib.hid hc4
      have hc4n := hc4; try norm_cast at hc4n
      obtain rfl := Option.some.inj HM.out
      go_wp2_with fail
      refine HC2.out.mono ?_; rintro e w' ⟨rfl, rfl⟩
      go_wp2_with fail
      try clear hc4 hc4n
      go_ret
      exact ⟨rfl, HD.out⟩
    · replace HM := Lib.hid (ifF hc4 HM.out)
      have hc4d := decide_eq_false hc4
      have HK5 := Lib.hid hc4
      have hc4n := hc4; try norm_cast at hc4n
      go_wp2_with fail
      refine HC2.out.mono ?_; rintro e w' ⟨rfl, rfl⟩
      go_wp2_with fail
      try clear hc4 hc4n hc4d
      obtain ⟨o6, ho, hm⟩ := obind HM.out
      replace HM := Lib.hid hm; have HL1 := Lib.hid ho; clear hm ho
      go_loopg [5] F (fun gg ux8 wr => ∃ (x7 : Int), ux8 = .int .i64 x7 ∧ Hid (Dr w wr) ∧ Hid (R3_Costs_L1 F (v0) (v1) gg x7 = some o6))
      case atStart => exact ⟨0, rfl, HD, HL1⟩
      case round =>
        obtain ⟨x7, rfl, HD, HL1⟩ := hrel
        rename World => W9
        cases gk with
        | zero => exact absurd ((R3_Costs_L1_0 ..).symm.trans HL1.out) (by intro h; cases h)
        | succ g1 =>
          replace HL1 := Lib.hid ((R3_Costs_L1_s ..).symm.trans HL1.out)
          by_cases hc10 : x7 < ((v1).length : Int)
          · replace HL1 := Lib.hid (ifT hc10 HL1.out)
            have HK11 := Lib.hid hc10
            obtain ⟨b12, hb, hm⟩ := obind HL1.out
            replace HL1 := Lib.hid hm; have HB13 := Lib.hid hb; clear hm hb
            obtain ⟨b14, hb, hm⟩ := obind HB13.out
            replace HB13 := Lib.hid hm; have HB15 := Lib.hid hb; clear hm hb
            obtain ⟨y16, hy17, hm⟩ := obind HB15.out
            replace HB15 := Lib.hid hm; clear hm
            obtain ⟨b18, o19, ea20, _, f21, f22, f23, f24, f25⟩ := ReadsC.ix (rdC (HD.out.below _) HR1.out) hy17
            cases ea20
            try simp only [Nat.zero_add, Nat.add_zero, Int.toNat_natCast, Int.toNat_zero, Int.toNat_one] at f23 f24 f25
            have HY26 := Lib.hid hy17; clear hy17
            obtain ⟨y29, hy27, hm⟩ := obind HB15.out
            replace HB15 := Lib.hid hm; clear hm
            have HC28 := R3_in_ok W9  hy27
            clear hy27
            replace HC28 := Lib.hid HC28
            cases y29
            · replace HB15 := Lib.hid (ifF Bool.false_ne_true HB15.out)
              obtain rfl := Option.some.inj HB15.out
              replace HB13 := Lib.hid (ifT (by first | rfl | trivial) HB13.out)
              obtain rfl := Option.some.inj HB13.out
              replace HL1 := Lib.hid (ifT (by first | rfl | trivial) HL1.out)
              obtain rfl := Option.some.inj HL1.out
              have hm := HM.out; try dsimp only at hm
              replace HM := Lib.hid hm; clear hm
              obtain rfl := Option.some.inj HM.out
              go_wp2_with fail
              refine HC28.out.mono ?_; rintro e w' ⟨rfl, rfl⟩
              go_wp2_with fail
              try clear hc10 f21 f22 f23 f24 f25
              go_ret
              exact ⟨rfl, HD.out⟩
            · replace HB15 := Lib.hid (ifT rfl HB15.out)
              obtain ⟨y30, hy31, hm⟩ := obind HB15.out
              replace HB15 := Lib.hid hm; clear hm
              obtain rfl := Option.some.inj (HY26.out.symm.trans hy31)
              clear hy31
              obtain ⟨y34, hy32, hm⟩ := obind HB15.out
              replace HB15 := Lib.hid hm; clear hm
              have HC33 := R3_in_ok W9  hy32
              clear hy32
              replace HC33 := Lib.hid HC33
              cases y34
              · replace HB15 := Lib.hid (ifF Bool.false_ne_true HB15.out)
                obtain rfl := Option.some.inj HB15.out
                replace HB13 := Lib.hid (ifT (by first | rfl | trivial) HB13.out)
                obtain rfl := Option.some.inj HB13.out
                replace HL1 := Lib.hid (ifT (by first | rfl | trivial) HL1.out)
                obtain rfl := Option.some.inj HL1.out
                have hm := HM.out; try dsimp only at hm
                replace HM := Lib.hid hm; clear hm
                obtain rfl := Option.some.inj HM.out
                go_wp2_with fail
                refine HC28.out.mono ?_; rintro e w' ⟨rfl, rfl⟩
                go_wp2_with fail
                refine HC33.out.mono ?_; rintro e w' ⟨rfl, rfl⟩
                go_wp2_with fail
                try clear hc10 f21 f22 f23 f24 f25
                go_ret
                exact ⟨rfl, HD.out⟩
              · replace HB15 := Lib.hid (ifT rfl HB15.out)
                obtain rfl := Option.some.inj HB15.out
                replace HB13 := Lib.hid (ifF (by first | exact Bool.false_ne_true | exact not_false) HB13.out)
                obtain ⟨y35, hy36, hm⟩ := obind HB13.out
                replace HB13 := Lib.hid hm; clear hm
                obtain rfl := Option.some.inj (HY26.out.symm.trans hy36)
                clear hy36
                obtain ⟨y39, hy37, hm⟩ := obind HB13.out
                replace HB13 := Lib.hid hm; clear hm
                have HC38 := R3_in_ok W9  hy37
                clear hy37
                replace HC38 := Lib.hid HC38
                cases y39
                · replace HB13 := Lib.hid (ifF Bool.false_ne_true HB13.out)
                  obtain rfl := Option.some.inj HB13.out
                  replace HL1 := Lib.hid (ifT (by first | rfl | trivial) HL1.out)
                  obtain rfl := Option.some.inj HL1.out
                  have hm := HM.out; try dsimp only at hm
                  replace HM := Lib.hid hm; clear hm
                  obtain rfl := Option.some.inj HM.out
                  go_wp2_with fail
                  refine HC28.out.mono ?_; rintro e w' ⟨rfl, rfl⟩
                  go_wp2_with fail
                  refine HC33.out.mono ?_; rintro e w' ⟨rfl, rfl⟩
                  go_wp2_with fail
                  refine HC38.out.mono ?_; rintro e w' ⟨rfl, rfl⟩
                  go_wp2_with fail
                  try clear hc10 f21 f22 f23 f24 f25
                  go_ret
                  exact ⟨rfl, HD.out⟩
                · replace HB13 := Lib.hid (ifT rfl HB13.out)
                  obtain rfl := Option.some.inj HB13.out
                  replace HL1 := Lib.hid (ifF (by first | exact Bool.false_ne_true | exact not_false) HL1.out)
                  try go_wp2_with fail
                  refine HC28.out.mono ?_; rintro e w' ⟨rfl, rfl⟩
                  try go_wp2_with fail
                  refine HC33.out.mono ?_; rintro e w' ⟨rfl, rfl⟩
                  try go_wp2_with fail
                  refine HC38.out.mono ?_; rintro e w' ⟨rfl, rfl⟩
                  try go_wp2_with fail
                  try clear hc10 f21 f22 f23 f24 f25
                  obtain ⟨y40, hy41, hm⟩ := obind HL1.out
                  replace HL1 := Lib.hid hm; clear hm
                  obtain ⟨b42, o43, ea44, _, f45, f46, f47, f48, f49⟩ := ReadsC.ix (rdC (HD.out.below _) HR1.out) hy41
                  cases ea44
                  try simp only [Nat.zero_add, Nat.add_zero, Int.toNat_natCast, Int.toNat_zero, Int.toNat_one] at f47 f48 f49
                  have HY50 := Lib.hid hy41; clear hy41
                  obtain ⟨y51, hy52, hm⟩ := obind HL1.out
                  replace HL1 := Lib.hid hm; clear hm
                  obtain rfl := Option.some.inj (HY50.out.symm.trans hy52)
                  clear hy52
                  rcases Bool.eq_false_or_eq_true (y40.1 == y40.2.1) with hc53 | hc53
                  · replace HL1 := Lib.hid (ifT hc53 HL1.out)
                    have HK54 := Lib.hid hc53
                    go_quiet (fail)
                    generalize hW : World.drewN W9 _ = W55
                    have hd : Dr W9 W55 := ⟨_, hW.symm⟩
                    clear hW
                    try clear f45 f46 f47 f48 f49 hc53
                    replace HD := Lib.hid (HD.out.trans hd); clear hd
                    obtain rfl := Option.some.inj HL1.out
                    have hm := HM.out; try dsimp only at hm
                    replace HM := Lib.hid hm; clear hm
                    obtain rfl := Option.some.inj HM.out
                    go_wp2_with fail
                    go_ret
                    exact ⟨rfl, HD.out⟩
                  · replace HL1 := Lib.hid (ifF (bF hc53) HL1.out)
                    have HK54 := Lib.hid hc53
                    go_quiet (fail)
                    generalize hW : World.drewN W9 _ = W56
                    have hd : Dr W9 W56 := ⟨_, hW.symm⟩
                    clear hW
                    try clear f45 f46 f47 f48 f49 hc53
                    replace HD := Lib.hid (HD.out.trans hd); clear hd
                    go_wp2_with fail
                    go_roundg g1
                    case measure => omega
                    case rel => exact ⟨(wrap64 (x7 + 1)), rfl, HD, HL1⟩
          · replace HL1 := Lib.hid (ifF hc10 HL1.out)
            have hc10d := decide_eq_false hc10
            have HK11 := Lib.hid hc10
            obtain rfl := Option.some.inj HL1.out
            have hm := HM.out; try dsimp only at hm
            replace HM := Lib.hid hm; clear hm
            obtain rfl := Option.some.inj HM.out
            go_wp2_with fail
            try clear hc10 hc10d
            go_ret
            exact ⟨rfl, HD.out⟩
def L3_chosen_L1 (F : Nat) (v0 : List (Int × Int × Int)) (v1 : List Bool) : Nat → (List (Int × Int)) → (Int) → Option (List (Int × Int) × Int)
  | 0, _, _ => none
  | g+1, v3, v4 => (if v4 < ((v0).length : Int) then if v4 < ((v1).length : Int) then some true else some false else some false).bind fun b1 => if b1 = true then ((ix v1 v4).bind fun y2 => if y2 = true then (ix v0 v4).bind fun y4 => (ix v0 v4).bind fun y5 => (app v3 (y4.1, y5.2.1)).bind fun y3 => L3_chosen_L1 F v0 v1 g (y3) ((wrap64 (v4 + 1))) else L3_chosen_L1 F v0 v1 g (v3) ((wrap64 (v4 + 1)))) else some (v3, v4)
theorem L3_chosen_L1_0 (F : Nat) (v0 : List (Int × Int × Int)) (v1 : List Bool) (v3 : List (Int × Int)) (v4 : Int) : L3_chosen_L1 F v0 v1 0 v3 v4 = none := by rw [L3_chosen_L1]
theorem L3_chosen_L1_s (F g : Nat) (v0 : List (Int × Int × Int)) (v1 : List Bool) (v3 : List (Int × Int)) (v4 : Int) : L3_chosen_L1 F v0 v1 (g+1) v3 v4 = ((if v4 < ((v0).length : Int) then if v4 < ((v1).length : Int) then some true else some false else some false).bind fun b1 => if b1 = true then ((ix v1 v4).bind fun y2 => if y2 = true then (ix v0 v4).bind fun y4 => (ix v0 v4).bind fun y5 => (app v3 (y4.1, y5.2.1)).bind fun y3 => L3_chosen_L1 F v0 v1 g (y3) ((wrap64 (v4 + 1))) else L3_chosen_L1 F v0 v1 g (v3) ((wrap64 (v4 + 1)))) else some (v3, v4)) := by rw [L3_chosen_L1]
def L3_chosen (F : Nat) (v0 : List (Int × Int × Int)) (v1 : List Bool) : Option (List (Int × Int)) := (L3_chosen_L1 F (v0) (v1) F ([]) (0)).bind fun o6 => some (o6.1)
set_option maxRecDepth 100000 in
set_option maxHeartbeats 4000000 in
theorem L3_chosen_ok {F : Nat} {v0 : List (Int × Int × Int)} {A0 : Option Addr} {v1 : List Bool} {A1 : Option Addr} {r : List (Int × Int)} (w : World) (cap0 : Nat) (hr0 : ReadsC w w.heap.size A0 v0) (cap1 : Nat) (hr1 : ReadsB w w.heap.size A1 v1) (h : L3_chosen F v0 v1 = some r) :
    Calls Try.prog 10 #[.slice A0 v0.length cap0, .slice A1 v1.length cap1] w (PostG (fun v => v) (fun v => owL v r) w.heap.size w) := by
  have HR0 := Lib.hid hr0; clear hr0
  have HR1 := Lib.hid hr1; clear hr1
  have HD := Lib.hid (Below.refl w.heap.size w)
  have HOA := Lib.hid (HP.nil (W := w) (B := w.heap.size))
  unfold L3_chosen at h
  have HM := Lib.hid h; clear h
  go_enter Try.func10, Try.ntmps10
  replace HOA := Lib.hid (show HP _ _ (.fl (owL (.slice none 0 0) ([])) :: _) from HOA.out.pushNil _ _)
  go_wp2_with fail
  obtain ⟨o2, ho, hm⟩ := obind HM.out
  replace HM := Lib.hid hm; have HL1 := Lib.hid ho; clear hm ho
  go_loopg [5, 6] F (fun gg ux5 ux6 wr => ∃ (x3 : List (Int × Int)) (x4 : Int) (V7 : Value), V7 = ux5 ∧ ux6 = .int .i64 x4 ∧ Hid (Below w.heap.size w wr) ∧ Hid (HP wr w.heap.size [.fl (owL V7 (x3))]) ∧ Hid (L3_chosen_L1 F (v0) (v1) gg x3 x4 = some o2))
  case atStart => exact ⟨[], 0, (.slice none 0 0), rfl, rfl, HD, HOA, HL1⟩
  case round =>
    obtain ⟨x3, x4, V7, rfl, rfl, HD, HOA, HL1⟩ := hrel
    rename World => W8
    cases gk with
    | zero => exact absurd ((L3_chosen_L1_0 ..).symm.trans HL1.out) (by intro h; cases h)
    | succ g1 =>
      replace HL1 := Lib.hid ((L3_chosen_L1_s ..).symm.trans HL1.out)
      obtain ⟨b9, hb, hm⟩ := obind HL1.out
      replace HL1 := Lib.hid hm; have HB10 := Lib.hid hb; clear hm hb
      by_cases hc11 : x4 < ((v0).length : Int)
      · replace HB10 := Lib.hid (ifT hc11 HB10.out)
        have HK12 := Lib.hid hc11
        by_cases hc13 : x4 < ((v1).length : Int)
        · replace HB10 := Lib.hid (ifT hc13 HB10.out)
          have HK14 := Lib.hid hc13
          obtain rfl := Option.some.inj HB10.out
          replace HL1 := Lib.hid (ifT (by first | rfl | trivial) HL1.out)
          obtain ⟨y15, hy16, hm⟩ := obind HL1.out
          replace HL1 := Lib.hid hm; clear hm
          obtain ⟨b17, o18, ea19, _, f20, f21, f22⟩ := ReadsB.ix (rdB HD.out HR1.out) hy16
          cases ea19
          try simp only [Nat.zero_add, Nat.add_zero, Int.toNat_natCast, Int.toNat_zero, Int.toNat_one] at f22
          have HY24 := Lib.hid hy16; clear hy16
          cases y15
          · replace HL1 := Lib.hid (ifF Bool.false_ne_true HL1.out)
            go_wp2_with fail
            try clear hc11 hc13 f20 f21 f22
            go_roundg g1
            case measure => omega
            case rel => exact ⟨x3, (wrap64 (x4 + 1)), V7, rfl, rfl, HD, HOA, HL1⟩
          · replace HL1 := Lib.hid (ifT rfl HL1.out)
            try go_wp2_with fail
            try clear hc11 hc13 f20 f21 f22
            obtain ⟨y25, hy26, hm⟩ := obind HL1.out
            replace HL1 := Lib.hid hm; clear hm
            obtain ⟨b27, o28, ea29, _, f30, f31, f32, f33, f34⟩ := ReadsC.ix (rdC HD.out HR0.out) hy26
            cases ea29
            try simp only [Nat.zero_add, Nat.add_zero, Int.toNat_natCast, Int.toNat_zero, Int.toNat_one] at f32 f33 f34
            have HY35 := Lib.hid hy26; clear hy26
            obtain ⟨y36, hy37, hm⟩ := obind HL1.out
            replace HL1 := Lib.hid hm; clear hm
            obtain rfl := Option.some.inj (HY35.out.symm.trans hy37)
            clear hy37
            obtain ⟨y38, hy39, hm⟩ := obind HL1.out
            replace HL1 := Lib.hid hm; clear hm
            obtain ⟨f40, hy39⟩ := app_some hy39; subst hy39
            have HF43 := Lib.hid f40; clear f40
            have hd1 := Dr.one W8
            replace HOA := Lib.hid (HOA.out.dr hd1)
            replace HD := Lib.hid (HD.out.trans (hd1.below _))
            clear hd1
            go_region_law (first | (refine hp_appL_st (World.drew W8) (.tmp 23) (.tmp 35) 30 Try.underlying30 rfl rfl (L1 := []) HOA.out (by simp [Act.eval, Act.put]) (by simp [Act.eval, Act.put]) HF43.out HD.out.size ?_; intro g44 cap45 W42 hoa hd; have HOA2 := Lib.hid hoa; have HD2 := Lib.hid hd; clear hoa hd))
            all_goals
              try clear f30 f31 f32 f33 f34
              replace HOA := Lib.hid (show HP W42 w.heap.size [.fl (owL (.slice (some ⟨g44, 0, none⟩) ((x3).length + 1) cap45) ((x3 ++ [(y25.1, y25.2.1)])))] from by have q := HOA2.out; (try simp only [i64w] at q); exact q); clear HOA2
              replace HD := Lib.hid (HD.out.trans HD2.out); clear HD2
              go_wp2_with fail
              go_roundg g1
              case measure => omega
              case rel => exact ⟨(x3 ++ [(y25.1, y25.2.1)]), (wrap64 (x4 + 1)), (.slice (some ⟨g44, 0, none⟩) ((x3).length + 1) cap45), rfl, rfl, HD, HOA, HL1⟩
        · replace HB10 := Lib.hid (ifF hc13 HB10.out)
          have hc13d := decide_eq_false hc13
          have HK14 := Lib.hid hc13
          obtain rfl := Option.some.inj HB10.out
          replace HL1 := Lib.hid (ifF (by first | exact Bool.false_ne_true | exact not_false) HL1.out)
          obtain rfl := Option.some.inj HL1.out
          have hm := HM.out; try dsimp only at hm
          replace HM := Lib.hid hm; clear hm
          obtain rfl := Option.some.inj HM.out
          go_wp2_with fail
          try clear hc11 hc13 hc13d
          go_ret
          exact ⟨_, rfl, HOA.out.get (List.Mem.head _), HD.out⟩
      · replace HB10 := Lib.hid (ifF hc11 HB10.out)
        have hc11d := decide_eq_false hc11
        have HK12 := Lib.hid hc11
        obtain rfl := Option.some.inj HB10.out
        replace HL1 := Lib.hid (ifF (by first | exact Bool.false_ne_true | exact not_false) HL1.out)
        obtain rfl := Option.some.inj HL1.out
        have hm := HM.out; try dsimp only at hm
        replace HM := Lib.hid hm; clear hm
        obtain rfl := Option.some.inj HM.out
        go_wp2_with fail
        try clear hc11 hc11d
        go_ret
        exact ⟨_, rfl, HOA.out.get (List.Mem.head _), HD.out⟩
def L3_SpanKruskal_L1 (F : Nat) (v0 : Int) (v10 : List (List Int)) : Nat → (Int) → Option ((Int) ⊕ (Bool))
  | 0, _ => none
  | g+1, v11 => if v11 < v0 then ((ix v10 0).bind fun y10 => (ix y10 v11).bind fun y11 => if y11 < 0 then some (.inr (true)) else L3_SpanKruskal_L1 F v0 v10 g ((wrap64 (v11 + 1)))) else some (.inl (v11))
theorem L3_SpanKruskal_L1_0 (F : Nat) (v0 : Int) (v10 : List (List Int)) (v11 : Int) : L3_SpanKruskal_L1 F v0 v10 0 v11 = none := by rw [L3_SpanKruskal_L1]
theorem L3_SpanKruskal_L1_s (F g : Nat) (v0 : Int) (v10 : List (List Int)) (v11 : Int) : L3_SpanKruskal_L1 F v0 v10 (g+1) v11 = (if v11 < v0 then ((ix v10 0).bind fun y10 => (ix y10 v11).bind fun y11 => if y11 < 0 then some (.inr (true)) else L3_SpanKruskal_L1 F v0 v10 g ((wrap64 (v11 + 1)))) else some (.inl (v11))) := by rw [L3_SpanKruskal_L1]
def L3_SpanKruskal_L2 (F : Nat) (v1 : List (Int × Int × Int)) (v2 : List Bool) : Nat → (Int) → (Int) → Option (Int × Int)
  | 0, _, _ => none
  | g+1, v12, v13 => (if v13 < ((v1).length : Int) then if v13 < ((v2).length : Int) then some true else some false else some false).bind fun b13 => if b13 = true then ((ix v2 v13).bind fun y14 => if y14 = true then (ix v1 v13).bind fun y15 => L3_SpanKruskal_L2 F v1 v2 g ((wrap64 (v12 + y15.2.2))) ((wrap64 (v13 + 1))) else L3_SpanKruskal_L2 F v1 v2 g (v12) ((wrap64 (v13 + 1)))) else some (v12, v13)
theorem L3_SpanKruskal_L2_0 (F : Nat) (v1 : List (Int × Int × Int)) (v2 : List Bool) (v12 : Int) (v13 : Int) : L3_SpanKruskal_L2 F v1 v2 0 v12 v13 = none := by rw [L3_SpanKruskal_L2]
theorem L3_SpanKruskal_L2_s (F g : Nat) (v1 : List (Int × Int × Int)) (v2 : List Bool) (v12 : Int) (v13 : Int) : L3_SpanKruskal_L2 F v1 v2 (g+1) v12 v13 = ((if v13 < ((v1).length : Int) then if v13 < ((v2).length : Int) then some true else some false else some false).bind fun b13 => if b13 = true then ((ix v2 v13).bind fun y14 => if y14 = true then (ix v1 v13).bind fun y15 => L3_SpanKruskal_L2 F v1 v2 g ((wrap64 (v12 + y15.2.2))) ((wrap64 (v13 + 1))) else L3_SpanKruskal_L2 F v1 v2 g (v12) ((wrap64 (v13 + 1)))) else some (v12, v13)) := by rw [L3_SpanKruskal_L2]
def L3_SpanKruskal (F : Nat) (v0 : Int) (v1 : List (Int × Int × Int)) (v2 : List Bool) : Option (Bool) := (L3_spanFact F ).bind fun y1 => (if y1 = true then (span_Least F (v0) (v1)).bind fun y2 => (if (y2.2.2 != 0) = true then (if (((y2.1).length : Int) == 0) = true then if (y2.2.1 == 0) = true then some true else some false else some false).bind fun b3 => some (b3) else ((if (((y2.1).length : Int) != ((v1).length : Int)) = true then some true else (R3_Costs F (v0) (v1)).bind fun y5 => if (y5 != 0) = true then some true else some false).bind fun b4 => if b4 = true then some (false) else (L3_chosen F (v1) (y2.1)).bind fun y6 => ((R3_Tree F (v0) (y6)).bind fun y7 => if (y7 != 0) = true then some (false) else (L3_chosen F (v1) (v2)).bind fun y8 => (if ((y8).length : Int) < (wrap64 (v0 - 1)) then some (true) else (R1_Far F (v0) (y8) (true) ((-1))).bind fun y9 => (L3_SpanKruskal_L1 F (v0) (y9) F (0)).bind fun o12 => match o12 with | .inr r => some (r) | .inl o12 => (L3_SpanKruskal_L2 F (v1) (v2) F (0) (0)).bind fun o16 => (if y2.2.1 ≤ o16.1 then some true else some false).bind fun b17 => some (b17))))) else some (false))
set_option maxRecDepth 100000 in
set_option maxHeartbeats 4000000 in
theorem L3_SpanKruskal_ok {F : Nat} {v0 : Int} {v1 : List (Int × Int × Int)} {A1 : Option Addr} {v2 : List Bool} {A2 : Option Addr} {r : Bool} (w : World) (cap1 : Nat) (hr1 : ReadsC w w.heap.size A1 v1) (cap2 : Nat) (hr2 : ReadsB w w.heap.size A2 v2) (h : L3_SpanKruskal F v0 v1 v2 = some r) :
    Calls Try.prog 3 #[.int .i64 v0, .slice A1 v1.length cap1, .slice A2 v2.length cap2] w fun e w' => e = .returned (.bool r) ∧ Below w.heap.size w w' := by
  have HR1 := Lib.hid hr1; clear hr1
  have HR2 := Lib.hid hr2; clear hr2
  have HD := Lib.hid (Below.refl w.heap.size w)
  have HOA := Lib.hid (HP.nil (W := w) (B := w.heap.size))
  unfold L3_SpanKruskal at h
  have HM := Lib.hid h; clear h
  go_enter Try.func3, Try.ntmps3
  obtain ⟨y3, hy1, hm⟩ := obind HM.out
  replace HM := Lib.hid hm; clear hm
  have HC2 := L3_spanFact_ok w  hy1
  clear hy1
  replace HC2 := Lib.hid HC2
  go_wp2_with fail
  refine HC2.out.mono ?_; rintro e W4 ⟨rfl, hd⟩
  replace HOA := Lib.hid (HOA.out.below hd)
  replace HD := Lib.hid (HD.out.trans (hd.mono HD.out.size))
  clear hd
  cases y3
  · replace HM := Lib.hid (ifF Bool.false_ne_true HM.out)
    obtain rfl := Option.some.inj HM.out
    go_wp2_with fail
    go_ret
    exact ⟨rfl, HD.out⟩
  · replace HM := Lib.hid (ifT rfl HM.out)
    obtain ⟨⟨y7, y8, y9⟩, hy5, hm⟩ := obind HM.out
    dsimp only at hm
    replace HM := Lib.hid hm; clear hm
    have HC6 := span_Least_ok W4 cap1 (rdC HD.out HR1.out) hy5
    clear hy5
    replace HC6 := Lib.hid HC6
    go_wp2_with fail
    refine HC6.out.mono ?_; rintro e W10 ⟨V11, rfl, ho, hd⟩
    replace HOA := Lib.hid (HOA.out.call hd HD.out.size ho); clear ho
    replace HD := Lib.hid (HD.out.trans (hd.mono HD.out.size))
    clear hd
    by_cases hz13 : y9 = 0
    · subst hz13
      try simp only [errV_zero]
      replace HM := Lib.hid (ifF (by decide) HM.out)
      go_upto_region 7 with (fail)
      obtain ⟨b15, hb, hm⟩ := obind HM.out
      replace HM := Lib.hid hm; have HB16 := Lib.hid hb; clear hm hb
      go_cut [46] (fun uq wr => uq = .bool b15 ∧ Hid (Below W10.heap.size W10 wr))
      case first =>
        have HWC17 := Lib.hid (Below.refl W10.heap.size W10)
        obtain ⟨A18, cap19, he, _⟩ := HP.open_B HOA.out (List.Mem.head _)
        subst he
        rcases Bool.eq_false_or_eq_true (((y7).length : Int) != ((v1).length : Int)) with hc20 | hc20
        · replace HB16 := Lib.hid (ifT hc20 HB16.out)
          have HK21 := Lib.hid hc20
          cases Option.some.inj HB16.out
          try go_wp2_with fail
          go_meet
          case rel => exact ⟨rfl, HWC17⟩
        · replace HB16 := Lib.hid (ifF (bF hc20) HB16.out)
          have HK21 := Lib.hid hc20
          obtain ⟨y24, hy22, hm⟩ := obind HB16.out
          replace HB16 := Lib.hid hm; clear hm
          have HC23 := R3_Costs_ok W10 cap1 (rdC HD.out HR1.out) hy22
          clear hy22
          replace HC23 := Lib.hid HC23
          go_wp2_with fail
          refine HC23.out.mono ?_; rintro e W25 ⟨rfl, hd⟩
          try clear hc20
          replace HOA := Lib.hid (HOA.out.below (hd.below _))
          replace HD := Lib.hid (HD.out.trans ((hd.below _).mono HD.out.size))
          replace HWC17 := Lib.hid (HWC17.out.trans ((hd.below _).mono HWC17.out.size))
          clear hd
          rcases Bool.eq_false_or_eq_true (y24 != 0) with hc26 | hc26
          · replace HB16 := Lib.hid (ifT hc26 HB16.out)
            have HK27 := Lib.hid hc26
            cases Option.some.inj HB16.out
            try go_wp2_with fail
            go_meet
            case rel => exact ⟨rfl, HWC17⟩
          · replace HB16 := Lib.hid (ifF (bF hc26) HB16.out)
            have HK27 := Lib.hid hc26
            cases Option.some.inj HB16.out
            try go_wp2_with fail
            go_meet
            case rel => exact ⟨rfl, HWC17⟩
      case rest =>
        obtain ⟨rfl, HWC17⟩ := hcut
        rename World => W28
        have hd := HWC17.out
        replace HOA := Lib.hid (HOA.out.below hd)
        replace HD := Lib.hid (HD.out.trans (hd.mono HD.out.size))
        clear hd
        cases b15
        · replace HM := Lib.hid (ifF Bool.false_ne_true HM.out)
          obtain ⟨y31, hy29, hm⟩ := obind HM.out
          replace HM := Lib.hid hm; clear hm
          obtain ⟨A32, cap33, he, _⟩ := HP.open_B HOA.out (List.Mem.head _)
          subst he
          have HC30 := L3_chosen_ok W28 cap1 (rdC HD.out HR1.out) cap33 (HP.rd_B HOA.out (List.Mem.head _)) hy29
          clear hy29
          replace HC30 := Lib.hid HC30
          go_wp2_with fail
          refine HC30.out.mono ?_; rintro e W34 ⟨V35, rfl, ho, hd⟩
          replace HOA := Lib.hid (HOA.out.call hd HD.out.size ho); clear ho
          replace HD := Lib.hid (HD.out.trans (hd.mono HD.out.size))
          clear hd
          obtain ⟨y39, hy37, hm⟩ := obind HM.out
          replace HM := Lib.hid hm; clear hm
          obtain ⟨A40, cap41, he, _⟩ := HP.open_L HOA.out (List.Mem.head _)
          subst he
          have HC38 := R3_Tree_ok W34 cap41 (HP.rd_L HOA.out (List.Mem.head _)) hy37
          clear hy37
          replace HC38 := Lib.hid HC38
          go_wp2_with fail
          refine HC38.out.mono ?_; rintro e W42 ⟨rfl, hd⟩
          replace HOA := Lib.hid (HOA.out.below hd)
          replace HD := Lib.hid (HD.out.trans (hd.mono HD.out.size))
          clear hd
          rcases Bool.eq_false_or_eq_true (y39 != 0) with hc43 | hc43
          · replace HM := Lib.hid (ifT hc43 HM.out)
            have HK44 := Lib.hid hc43
            obtain rfl := Option.some.inj HM.out
            go_wp2_with fail
            go_ret
            exact ⟨(by first | rfl | (refine congrArg (fun b => Ending.returned (Value.bool b)) ?_; first | (exact decide_eq_true (by omega)) | (exact decide_eq_false (by omega)) | (have q := hc43; rw [bne_iff_ne] at q ⊢; omega) | (have q := hc43; rw [bne_eq_false_iff_eq] at q ⊢; omega) | (have q := hc43; rw [beq_iff_eq] at q ⊢; omega) | (have q := hc43; rw [beq_eq_false_iff_ne] at q ⊢; omega))), HD.out⟩
          · replace HM := Lib.hid (ifF (bF hc43) HM.out)
            have HK44 := Lib.hid hc43
            obtain ⟨y47, hy45, hm⟩ := obind HM.out
            replace HM := Lib.hid hm; clear hm
            have HC46 := L3_chosen_ok W42 cap1 (rdC HD.out HR1.out) cap2 (rdB HD.out HR2.out) hy45
            clear hy45
            replace HC46 := Lib.hid HC46
            go_wp2_with fail
            refine HC46.out.mono ?_; rintro e W48 ⟨V49, rfl, ho, hd⟩
            try clear hc43
            replace HOA := Lib.hid (HOA.out.call hd HD.out.size ho); clear ho
            replace HD := Lib.hid (HD.out.trans (hd.mono HD.out.size))
            clear hd
            obtain ⟨A51, cap52, he, _⟩ := HP.open_L HOA.out (List.Mem.head _)
            subst he
            by_cases hc53 : ((y47).length : Int) < (wrap64 (v0 - 1))
            · replace HM := Lib.hid (ifT hc53 HM.out)
              have HK54 := Lib.hid hc53
              obtain rfl := Option.some.inj HM.out
              go_wp2_with fail
              go_ret
              exact ⟨(by first | rfl | (refine congrArg (fun b => Ending.returned (Value.bool b)) ?_; first | (exact decide_eq_true (by omega)) | (exact decide_eq_false (by omega)) | (have q := hc53; rw [bne_iff_ne] at q ⊢; omega) | (have q := hc53; rw [bne_eq_false_iff_eq] at q ⊢; omega) | (have q := hc53; rw [beq_iff_eq] at q ⊢; omega) | (have q := hc53; rw [beq_eq_false_iff_ne] at q ⊢; omega))), HD.out⟩
            · replace HM := Lib.hid (ifF hc53 HM.out)
              have hc53d := decide_eq_false hc53
              have HK54 := Lib.hid hc53
              obtain ⟨y57, hy55, hm⟩ := obind HM.out
              replace HM := Lib.hid hm; clear hm
              have HC56 := R1_Far_ok W48 cap52 (HP.rd_L HOA.out (List.Mem.head _)) hy55
              clear hy55
              replace HC56 := Lib.hid HC56
              go_wp2_with fail
              refine HC56.out.mono ?_; rintro e W58 ⟨V59, rfl, ho, hd⟩
              try clear hc53 hc53d
              replace HOA := Lib.hid (HOA.out.callR hd HD.out.size ho); clear ho
              replace HD := Lib.hid (HD.out.trans (hd.mono HD.out.size))
              clear hd
              go_wp2_with fail
              obtain ⟨o61, ho, hm⟩ := obind HM.out
              replace HM := Lib.hid hm; have HL1 := Lib.hid ho; clear hm ho
              go_loopg [14] F (fun gg ux63 wr => ∃ (x62 : Int), ux63 = .int .i64 x62 ∧ Hid (Below W58.heap.size W58 wr) ∧ Hid (L3_SpanKruskal_L1 F (v0) (y57) gg x62 = some o61))
              case atStart => exact ⟨0, rfl, (Lib.hid (Below.refl _ _)), HL1⟩
              case round =>
                obtain ⟨x62, rfl, HW1, HL1⟩ := hrel
                rename World => W64
                have hd := HW1.out
                replace HOA := Lib.hid (HOA.out.below hd)
                replace HD := Lib.hid (HD.out.trans (hd.mono HD.out.size))
                clear hd
                cases gk with
                | zero => exact absurd ((L3_SpanKruskal_L1_0 ..).symm.trans HL1.out) (by intro h; cases h)
                | succ g1 =>
                  replace HL1 := Lib.hid ((L3_SpanKruskal_L1_s ..).symm.trans HL1.out)
                  by_cases hc65 : x62 < v0
                  · replace HL1 := Lib.hid (ifT hc65 HL1.out)
                    have HK66 := Lib.hid hc65
                    obtain ⟨A69, cap70, he, _⟩ := HP.open_R HOA.out (List.Mem.head _)
                    subst he
                    obtain ⟨y67, hy68, hm⟩ := obind HL1.out
                    replace HL1 := Lib.hid hm; clear hm
                    obtain ⟨b71, o72, A78, cap79, ea73, _, f74, f75, f76, hrr, hrc⟩ := ReadsR.ixc (HP.rd_R HOA.out (List.Mem.head _)) hy68
                    cases ea73
                    have HR80c := Lib.hid hrc; clear hrc
                    try simp only [Nat.zero_add, Nat.add_zero, Int.toNat_natCast, Int.toNat_zero, Int.toNat_one] at f76
                    have HR80 := Lib.hid hrr; clear hrr
                    try rw [← HP.len_R HOA.out (List.Mem.head _)] at f75
                    have HY81 := Lib.hid hy68; clear hy68
                    obtain ⟨y82, hy83, hm⟩ := obind HL1.out
                    replace HL1 := Lib.hid hm; clear hm
                    obtain ⟨b84, o85, ea86, _, f87, f88, f89⟩ := ReadsI.ix HR80.out hy83
                    cases ea86
                    try simp only [Nat.zero_add, Nat.add_zero, Int.toNat_natCast, Int.toNat_zero, Int.toNat_one] at f89
                    have HY91 := Lib.hid hy83; clear hy83
                    by_cases hc92 : y82 < 0
                    · replace HL1 := Lib.hid (ifT hc92 HL1.out)
                      have HK93 := Lib.hid hc92
                      obtain rfl := Option.some.inj HL1.out
                      have hm := HM.out; try dsimp only at hm
                      replace HM := Lib.hid hm; clear hm
                      obtain rfl := Option.some.inj HM.out
                      go_wp2_with fail
                      try clear f74 f75 f76 f87 f88 f89
                      go_ret
                      exact ⟨(by first | rfl | (refine congrArg (fun b => Ending.returned (Value.bool b)) ?_; first | (exact decide_eq_true (by omega)) | (exact decide_eq_false (by omega)) | (have q := hc65; rw [bne_iff_ne] at q ⊢; omega) | (have q := hc65; rw [bne_eq_false_iff_eq] at q ⊢; omega) | (have q := hc65; rw [beq_iff_eq] at q ⊢; omega) | (have q := hc65; rw [beq_eq_false_iff_ne] at q ⊢; omega) | (have q := hc92; rw [bne_iff_ne] at q ⊢; omega) | (have q := hc92; rw [bne_eq_false_iff_eq] at q ⊢; omega) | (have q := hc92; rw [beq_iff_eq] at q ⊢; omega) | (have q := hc92; rw [beq_eq_false_iff_ne] at q ⊢; omega))), HD.out⟩
                    · replace HL1 := Lib.hid (ifF hc92 HL1.out)
                      have hc92d := decide_eq_false hc92
                      have HK93 := Lib.hid hc92
                      go_wp2_with fail
                      try clear hc65 f74 f75 f76 f87 f88 f89 hc92 hc92d
                      go_roundg g1
                      case measure => omega
                      case rel => exact ⟨(wrap64 (x62 + 1)), rfl, HW1, HL1⟩
                  · replace HL1 := Lib.hid (ifF hc65 HL1.out)
                    have hc65d := decide_eq_false hc65
                    have HK66 := Lib.hid hc65
                    obtain rfl := Option.some.inj HL1.out
                    have hm := HM.out; try dsimp only at hm
                    replace HM := Lib.hid hm; clear hm
                    go_wp2_with fail
                    try clear hc65 hc65d
                    obtain ⟨o94, ho, hm⟩ := obind HM.out
                    replace HM := Lib.hid hm; have HL2 := Lib.hid ho; clear hm ho
                    go_loopg [15, 16] F (fun gg ux97 ux98 wr => ∃ (x95 : Int) (x96 : Int), ux97 = .int .i64 x95 ∧ ux98 = .int .i64 x96 ∧ Hid (Below W64.heap.size W64 wr) ∧ Hid (L3_SpanKruskal_L2 F (v1) (v2) gg x95 x96 = some o94))
                    case atStart => exact ⟨0, 0, rfl, rfl, (Lib.hid (Below.refl _ _)), HL2⟩
                    case round =>
                      obtain ⟨x95, x96, rfl, rfl, HW2, HL2⟩ := hrel
                      rename World => W99
                      have hd := HW2.out
                      replace HOA := Lib.hid (HOA.out.below hd)
                      replace HD := Lib.hid (HD.out.trans (hd.mono HD.out.size))
                      clear hd
                      cases gk with
                      | zero => exact absurd ((L3_SpanKruskal_L2_0 ..).symm.trans HL2.out) (by intro h; cases h)
                      | succ g2 =>
                        replace HL2 := Lib.hid ((L3_SpanKruskal_L2_s ..).symm.trans HL2.out)
                        obtain ⟨b100, hb, hm⟩ := obind HL2.out
                        replace HL2 := Lib.hid hm; have HB101 := Lib.hid hb; clear hm hb
                        by_cases hc102 : x96 < ((v1).length : Int)
                        · replace HB101 := Lib.hid (ifT hc102 HB101.out)
                          have HK103 := Lib.hid hc102
                          by_cases hc104 : x96 < ((v2).length : Int)
                          · replace HB101 := Lib.hid (ifT hc104 HB101.out)
                            have HK105 := Lib.hid hc104
                            obtain rfl := Option.some.inj HB101.out
                            replace HL2 := Lib.hid (ifT (by first | rfl | trivial) HL2.out)
                            obtain ⟨y106, hy107, hm⟩ := obind HL2.out
                            replace HL2 := Lib.hid hm; clear hm
                            obtain ⟨b108, o109, ea110, _, f111, f112, f113⟩ := ReadsB.ix (rdB HD.out HR2.out) hy107
                            cases ea110
                            try simp only [Nat.zero_add, Nat.add_zero, Int.toNat_natCast, Int.toNat_zero, Int.toNat_one] at f113
                            have HY115 := Lib.hid hy107; clear hy107
                            cases y106
                            · replace HL2 := Lib.hid (ifF Bool.false_ne_true HL2.out)
                              go_wp2_with fail
                              try clear hc102 hc104 f111 f112 f113
                              go_roundg g2
                              case measure => omega
                              case rel => exact ⟨x95, (wrap64 (x96 + 1)), rfl, rfl, HW2, HL2⟩
                            · replace HL2 := Lib.hid (ifT rfl HL2.out)
                              obtain ⟨y116, hy117, hm⟩ := obind HL2.out
                              replace HL2 := Lib.hid hm; clear hm
                              obtain ⟨b118, o119, ea120, _, f121, f122, f123, f124, f125⟩ := ReadsC.ix (rdC HD.out HR1.out) hy117
                              cases ea120
                              try simp only [Nat.zero_add, Nat.add_zero, Int.toNat_natCast, Int.toNat_zero, Int.toNat_one] at f123 f124 f125
                              have HY126 := Lib.hid hy117; clear hy117
                              go_wp2_with fail
                              try clear hc102 hc104 f111 f112 f113 f121 f122 f123 f124 f125
                              go_roundg g2
                              case measure => omega
                              case rel => exact ⟨(wrap64 (x95 + y116.2.2)), (wrap64 (x96 + 1)), rfl, rfl, HW2, HL2⟩
                          · replace HB101 := Lib.hid (ifF hc104 HB101.out)
                            have hc104d := decide_eq_false hc104
                            have HK105 := Lib.hid hc104
                            obtain rfl := Option.some.inj HB101.out
                            replace HL2 := Lib.hid (ifF (by first | exact Bool.false_ne_true | exact not_false) HL2.out)
                            obtain rfl := Option.some.inj HL2.out
                            have hm := HM.out; try dsimp only at hm
                            replace HM := Lib.hid hm; clear hm
                            obtain ⟨b127, hb, hm⟩ := obind HM.out
                            replace HM := Lib.hid hm; have HB128 := Lib.hid hb; clear hm hb
                            by_cases hc129 : y8 ≤ x95
                            · replace HB128 := Lib.hid (ifT hc129 HB128.out)
                              have HK130 := Lib.hid hc129
                              obtain rfl := Option.some.inj HB128.out
                              obtain rfl := Option.some.inj HM.out
                              go_wp2_with fail
                              go_ret
                              exact ⟨(by first | rfl | (refine congrArg (fun b => Ending.returned (Value.bool b)) ?_; first | (exact decide_eq_true (by omega)) | (exact decide_eq_false (by omega)) | (have q := hc104d; rw [bne_iff_ne] at q ⊢; omega) | (have q := hc104d; rw [bne_eq_false_iff_eq] at q ⊢; omega) | (have q := hc104d; rw [beq_iff_eq] at q ⊢; omega) | (have q := hc104d; rw [beq_eq_false_iff_ne] at q ⊢; omega) | (have q := hc129; rw [bne_iff_ne] at q ⊢; omega) | (have q := hc129; rw [bne_eq_false_iff_eq] at q ⊢; omega) | (have q := hc129; rw [beq_iff_eq] at q ⊢; omega) | (have q := hc129; rw [beq_eq_false_iff_ne] at q ⊢; omega))), HD.out⟩
                            · replace HB128 := Lib.hid (ifF hc129 HB128.out)
                              have hc129d := decide_eq_false hc129
                              have HK130 := Lib.hid hc129
                              obtain rfl := Option.some.inj HB128.out
                              obtain rfl := Option.some.inj HM.out
                              go_wp2_with fail
                              go_ret
                              exact ⟨(by first | rfl | (refine congrArg (fun b => Ending.returned (Value.bool b)) ?_; first | (exact decide_eq_true (by omega)) | (exact decide_eq_false (by omega)) | (have q := hc129; rw [bne_iff_ne] at q ⊢; omega) | (have q := hc129; rw [bne_eq_false_iff_eq] at q ⊢; omega) | (have q := hc129; rw [beq_iff_eq] at q ⊢; omega) | (have q := hc129; rw [beq_eq_false_iff_ne] at q ⊢; omega) | (have q := hc129d; rw [bne_iff_ne] at q ⊢; omega) | (have q := hc129d; rw [bne_eq_false_iff_eq] at q ⊢; omega) | (have q := hc129d; rw [beq_iff_eq] at q ⊢; omega) | (have q := hc129d; rw [beq_eq_false_iff_ne] at q ⊢; omega))), HD.out⟩
                        · replace HB101 := Lib.hid (ifF hc102 HB101.out)
                          have hc102d := decide_eq_false hc102
                          have HK103 := Lib.hid hc102
                          obtain rfl := Option.some.inj HB101.out
                          replace HL2 := Lib.hid (ifF (by first | exact Bool.false_ne_true | exact not_false) HL2.out)
                          obtain rfl := Option.some.inj HL2.out
                          have hm := HM.out; try dsimp only at hm
                          replace HM := Lib.hid hm; clear hm
                          obtain ⟨b131, hb, hm⟩ := obind HM.out
                          replace HM := Lib.hid hm; have HB132 := Lib.hid hb; clear hm hb
                          by_cases hc133 : y8 ≤ x95
                          · replace HB132 := Lib.hid (ifT hc133 HB132.out)
                            have HK134 := Lib.hid hc133
                            obtain rfl := Option.some.inj HB132.out
                            obtain rfl := Option.some.inj HM.out
                            go_wp2_with fail
                            go_ret
                            exact ⟨(by first | rfl | (refine congrArg (fun b => Ending.returned (Value.bool b)) ?_; first | (exact decide_eq_true (by omega)) | (exact decide_eq_false (by omega)) | (have q := hc102d; rw [bne_iff_ne] at q ⊢; omega) | (have q := hc102d; rw [bne_eq_false_iff_eq] at q ⊢; omega) | (have q := hc102d; rw [beq_iff_eq] at q ⊢; omega) | (have q := hc102d; rw [beq_eq_false_iff_ne] at q ⊢; omega) | (have q := hc133; rw [bne_iff_ne] at q ⊢; omega) | (have q := hc133; rw [bne_eq_false_iff_eq] at q ⊢; omega) | (have q := hc133; rw [beq_iff_eq] at q ⊢; omega) | (have q := hc133; rw [beq_eq_false_iff_ne] at q ⊢; omega))), HD.out⟩
                          · replace HB132 := Lib.hid (ifF hc133 HB132.out)
                            have hc133d := decide_eq_false hc133
                            have HK134 := Lib.hid hc133
                            obtain rfl := Option.some.inj HB132.out
                            obtain rfl := Option.some.inj HM.out
                            go_wp2_with fail
                            go_ret
                            exact ⟨(by first | rfl | (refine congrArg (fun b => Ending.returned (Value.bool b)) ?_; first | (exact decide_eq_true (by omega)) | (exact decide_eq_false (by omega)) | (have q := hc133; rw [bne_iff_ne] at q ⊢; omega) | (have q := hc133; rw [bne_eq_false_iff_eq] at q ⊢; omega) | (have q := hc133; rw [beq_iff_eq] at q ⊢; omega) | (have q := hc133; rw [beq_eq_false_iff_ne] at q ⊢; omega) | (have q := hc133d; rw [bne_iff_ne] at q ⊢; omega) | (have q := hc133d; rw [bne_eq_false_iff_eq] at q ⊢; omega) | (have q := hc133d; rw [beq_iff_eq] at q ⊢; omega) | (have q := hc133d; rw [beq_eq_false_iff_ne] at q ⊢; omega))), HD.out⟩
        · replace HM := Lib.hid (ifT rfl HM.out)
          obtain rfl := Option.some.inj HM.out
          go_wp2_with fail
          go_ret
          exact ⟨rfl, HD.out⟩
    · try rw [errV_pos _ hz13]
      have HZ14 := Lib.hid hz13; clear hz13
      replace HM := Lib.hid (ifT (bne_iff_ne.2 HZ14.out) HM.out)
      obtain ⟨b135, hb, hm⟩ := obind HM.out
      replace HM := Lib.hid hm; have HB136 := Lib.hid hb; clear hm hb
      obtain ⟨A137, cap138, he, _⟩ := HP.open_B HOA.out (List.Mem.head _)
      subst he
      rcases Bool.eq_false_or_eq_true (((y7).length : Int) == 0) with hc139 | hc139
      · replace HB136 := Lib.hid (ifT hc139 HB136.out)
        have HK140 := Lib.hid hc139
        rcases Bool.eq_false_or_eq_true (y8 == 0) with hc141 | hc141
        · replace HB136 := Lib.hid (ifT hc141 HB136.out)
          have HK142 := Lib.hid hc141
          obtain rfl := Option.some.inj HB136.out
          obtain rfl := Option.some.inj HM.out
          go_wp2_with fail
          go_ret
          exact ⟨(by first | rfl | (refine congrArg (fun b => Ending.returned (Value.bool b)) ?_; first | (exact decide_eq_true (by omega)) | (exact decide_eq_false (by omega)) | (have q := hc139; rw [bne_iff_ne] at q ⊢; omega) | (have q := hc139; rw [bne_eq_false_iff_eq] at q ⊢; omega) | (have q := hc139; rw [beq_iff_eq] at q ⊢; omega) | (have q := hc139; rw [beq_eq_false_iff_ne] at q ⊢; omega) | (have q := hc141; rw [bne_iff_ne] at q ⊢; omega) | (have q := hc141; rw [bne_eq_false_iff_eq] at q ⊢; omega) | (have q := hc141; rw [beq_iff_eq] at q ⊢; omega) | (have q := hc141; rw [beq_eq_false_iff_ne] at q ⊢; omega))), HD.out⟩
        · replace HB136 := Lib.hid (ifF (bF hc141) HB136.out)
          have HK142 := Lib.hid hc141
          obtain rfl := Option.some.inj HB136.out
          obtain rfl := Option.some.inj HM.out
          go_wp2_with fail
          go_ret
          exact ⟨(by first | rfl | (refine congrArg (fun b => Ending.returned (Value.bool b)) ?_; first | (exact decide_eq_true (by omega)) | (exact decide_eq_false (by omega)) | (have q := hc139; rw [bne_iff_ne] at q ⊢; omega) | (have q := hc139; rw [bne_eq_false_iff_eq] at q ⊢; omega) | (have q := hc139; rw [beq_iff_eq] at q ⊢; omega) | (have q := hc139; rw [beq_eq_false_iff_ne] at q ⊢; omega) | (have q := hc141; rw [bne_iff_ne] at q ⊢; omega) | (have q := hc141; rw [bne_eq_false_iff_eq] at q ⊢; omega) | (have q := hc141; rw [beq_iff_eq] at q ⊢; omega) | (have q := hc141; rw [beq_eq_false_iff_ne] at q ⊢; omega))), HD.out⟩
      · replace HB136 := Lib.hid (ifF (bF hc139) HB136.out)
        have HK140 := Lib.hid hc139
        obtain rfl := Option.some.inj HB136.out
        obtain rfl := Option.some.inj HM.out
        go_wp2_with fail
        go_ret
        exact ⟨(by first | rfl | (refine congrArg (fun b => Ending.returned (Value.bool b)) ?_; first | (exact decide_eq_true (by omega)) | (exact decide_eq_false (by omega)) | (have q := hc139; rw [bne_iff_ne] at q ⊢; omega) | (have q := hc139; rw [bne_eq_false_iff_eq] at q ⊢; omega) | (have q := hc139; rw [beq_iff_eq] at q ⊢; omega) | (have q := hc139; rw [beq_eq_false_iff_ne] at q ⊢; omega))), HD.out⟩
def L3_SpanNeck_L2 (F : Nat) (v1 : List (Int × Int × Int)) (v6 : List Bool) (v11 : List Int) (v13 : Int) : Nat → (Int) → (Int) → Option (Int × Int)
  | 0, _, _ => none
  | g+1, v12, v14 => if v14 < ((v1).length : Int) then (ix v1 v14).bind fun y13 => ((((ix v6 v14).bind fun y16 => if y16 = true then ((ix v11 v13).bind fun y18 => if (y13.1 == y18) = true then (ix v11 (wrap64 (v13 - 1))).bind fun y19 => if (y13.2.1 == y19) = true then some true else some false else some false).bind fun b17 => if b17 = true then some true else (ix v11 v13).bind fun y20 => if (y13.2.1 == y20) = true then (ix v11 (wrap64 (v13 - 1))).bind fun y21 => if (y13.1 == y21) = true then some true else some false else some false else some false).bind fun b15 => if b15 = true then if v12 < y13.2.2 then some true else some false else some false).bind fun b14 => if b14 = true then L3_SpanNeck_L2 F v1 v6 v11 v13 g (y13.2.2) ((wrap64 (v14 + 1))) else L3_SpanNeck_L2 F v1 v6 v11 v13 g (v12) ((wrap64 (v14 + 1)))) else some (v12, v14)
theorem L3_SpanNeck_L2_0 (F : Nat) (v1 : List (Int × Int × Int)) (v6 : List Bool) (v11 : List Int) (v13 : Int) (v12 : Int) (v14 : Int) : L3_SpanNeck_L2 F v1 v6 v11 v13 0 v12 v14 = none := by rw [L3_SpanNeck_L2]
theorem L3_SpanNeck_L2_s (F g : Nat) (v1 : List (Int × Int × Int)) (v6 : List Bool) (v11 : List Int) (v13 : Int) (v12 : Int) (v14 : Int) : L3_SpanNeck_L2 F v1 v6 v11 v13 (g+1) v12 v14 = (if v14 < ((v1).length : Int) then (ix v1 v14).bind fun y13 => ((((ix v6 v14).bind fun y16 => if y16 = true then ((ix v11 v13).bind fun y18 => if (y13.1 == y18) = true then (ix v11 (wrap64 (v13 - 1))).bind fun y19 => if (y13.2.1 == y19) = true then some true else some false else some false).bind fun b17 => if b17 = true then some true else (ix v11 v13).bind fun y20 => if (y13.2.1 == y20) = true then (ix v11 (wrap64 (v13 - 1))).bind fun y21 => if (y13.1 == y21) = true then some true else some false else some false else some false).bind fun b15 => if b15 = true then if v12 < y13.2.2 then some true else some false else some false).bind fun b14 => if b14 = true then L3_SpanNeck_L2 F v1 v6 v11 v13 g (y13.2.2) ((wrap64 (v14 + 1))) else L3_SpanNeck_L2 F v1 v6 v11 v13 g (v12) ((wrap64 (v14 + 1)))) else some (v12, v14)) := by rw [L3_SpanNeck_L2]
def L3_SpanNeck_L1 (F : Nat) (v1 : List (Int × Int × Int)) (v6 : List Bool) (v11 : List Int) : Nat → (Int) → (Int) → Option (Int × Int)
  | 0, _, _ => none
  | g+1, v12, v13 => if v13 < ((v11).length : Int) then (L3_SpanNeck_L2 F (v1) (v6) (v11) (v13) F (v12) (0)).bind fun o22 => L3_SpanNeck_L1 F v1 v6 v11 g (o22.1) ((wrap64 (v13 + 1))) else some (v12, v13)
theorem L3_SpanNeck_L1_0 (F : Nat) (v1 : List (Int × Int × Int)) (v6 : List Bool) (v11 : List Int) (v12 : Int) (v13 : Int) : L3_SpanNeck_L1 F v1 v6 v11 0 v12 v13 = none := by rw [L3_SpanNeck_L1]
theorem L3_SpanNeck_L1_s (F g : Nat) (v1 : List (Int × Int × Int)) (v6 : List Bool) (v11 : List Int) (v12 : Int) (v13 : Int) : L3_SpanNeck_L1 F v1 v6 v11 (g+1) v12 v13 = (if v13 < ((v11).length : Int) then (L3_SpanNeck_L2 F (v1) (v6) (v11) (v13) F (v12) (0)).bind fun o22 => L3_SpanNeck_L1 F v1 v6 v11 g (o22.1) ((wrap64 (v13 + 1))) else some (v12, v13)) := by rw [L3_SpanNeck_L1]
def L3_SpanNeck (F : Nat) (v0 : Int) (v1 : List (Int × Int × Int)) (v2 : Int) (v3 : Int) : Option (Bool) := (L3_spanFact F ).bind fun y1 => (if y1 = true then (span_Least F (v0) (v1)).bind fun y2 => (((if (y2.2.2 != 0) = true then some true else (L3_in F (v2) (0) ((wrap64 (v0 - 1)))).bind fun y5 => if y5 = true then some false else some true).bind fun b4 => if b4 = true then some true else (L3_in F (v3) (0) ((wrap64 (v0 - 1)))).bind fun y6 => if y6 = true then some false else some true).bind fun b3 => if b3 = true then (if (y2.2.2 == 0) = true then some true else if (((y2.1).length : Int) == 0) = true then some true else some false).bind fun b7 => some (b7) else (span_Neck F (v0) (v1) (v2) (v3)).bind fun y8 => ((if (y8.2 != 0) = true then some true else if (((y2.1).length : Int) != ((v1).length : Int)) = true then some true else some false).bind fun b9 => if b9 = true then some (false) else (L3_chosen F (v1) (y2.1)).bind fun y10 => ((R3_Tree F (v0) (y10)).bind fun y11 => if (y11 != 0) = true then some (false) else (R3_Way F (v0) (y10) (v2) (v3)).bind fun y12 => (L3_SpanNeck_L1 F (v1) (y2.1) (y12) F (0) (1)).bind fun o23 => (if (o23.1 == y8.1) = true then some true else some false).bind fun b24 => some (b24)))) else some (false))
set_option maxRecDepth 100000 in
set_option maxHeartbeats 4000000 in
theorem L3_SpanNeck_ok {F : Nat} {v0 : Int} {v1 : List (Int × Int × Int)} {A1 : Option Addr} {v2 : Int} {v3 : Int} {r : Bool} (w : World) (cap1 : Nat) (hr1 : ReadsC w w.heap.size A1 v1) (h : L3_SpanNeck F v0 v1 v2 v3 = some r) :
    Calls Try.prog 4 #[.int .i64 v0, .slice A1 v1.length cap1, .int .i64 v2, .int .i64 v3] w fun e w' => e = .returned (.bool r) ∧ Below w.heap.size w w' := by
  have HR1 := Lib.hid hr1; clear hr1
  have HD := Lib.hid (Below.refl w.heap.size w)
  have HOA := Lib.hid (HP.nil (W := w) (B := w.heap.size))
  unfold L3_SpanNeck at h
  have HM := Lib.hid h; clear h
  go_enter Try.func4, Try.ntmps4
  obtain ⟨y3, hy1, hm⟩ := obind HM.out
  replace HM := Lib.hid hm; clear hm
  have HC2 := L3_spanFact_ok w  hy1
  clear hy1
  replace HC2 := Lib.hid HC2
  go_wp2_with fail
  refine HC2.out.mono ?_; rintro e W4 ⟨rfl, hd⟩
  replace HOA := Lib.hid (HOA.out.below hd)
  replace HD := Lib.hid (HD.out.trans (hd.mono HD.out.size))
  clear hd
  cases y3
  · replace HM := Lib.hid (ifF Bool.false_ne_true HM.out)
    obtain rfl := Option.some.inj HM.out
    go_wp2_with fail
    go_ret
    exact ⟨rfl, HD.out⟩
  · replace HM := Lib.hid (ifT rfl HM.out)
    obtain ⟨⟨y7, y8, y9⟩, hy5, hm⟩ := obind HM.out
    dsimp only at hm
    replace HM := Lib.hid hm; clear hm
    have HC6 := span_Least_ok W4 cap1 (rdC HD.out HR1.out) hy5
    clear hy5
    replace HC6 := Lib.hid HC6
    go_wp2_with fail
    refine HC6.out.mono ?_; rintro e W10 ⟨V11, rfl, ho, hd⟩
    replace HOA := Lib.hid (HOA.out.call hd HD.out.size ho); clear ho
    replace HD := Lib.hid (HD.out.trans (hd.mono HD.out.size))
    clear hd
    go_upto_region 5 with (fail)
    obtain ⟨b13, hb, hm⟩ := obind HM.out
    replace HM := Lib.hid hm; have HB14 := Lib.hid hb; clear hm hb
    go_cut [45] (fun uq wr => uq = .bool b13 ∧ Hid (Below W10.heap.size W10 wr))
    case first =>
      have HWC15 := Lib.hid (Below.refl W10.heap.size W10)
      obtain ⟨b16, hb, hm⟩ := obind HB14.out
      replace HB14 := Lib.hid hm; have HB17 := Lib.hid hb; clear hm hb
      by_cases hz18 : y9 = 0
      · subst hz18
        try simp only [errV_zero]
        replace HB17 := Lib.hid (ifF (by decide) HB17.out)
        obtain ⟨y22, hy20, hm⟩ := obind HB17.out
        replace HB17 := Lib.hid hm; clear hm
        have HC21 := L3_in_ok W10  hy20
        clear hy20
        replace HC21 := Lib.hid HC21
        cases y22
        · replace HB17 := Lib.hid (ifF Bool.false_ne_true HB17.out)
          obtain rfl := Option.some.inj HB17.out
          replace HB14 := Lib.hid (ifT (by first | rfl | trivial) HB14.out)
          cases Option.some.inj HB14.out
          go_wp2_with fail
          refine HC21.out.mono ?_; rintro e w' ⟨rfl, rfl⟩
          try go_wp2_with fail
          go_meet
          case rel => exact ⟨rfl, HWC15⟩
        · replace HB17 := Lib.hid (ifT rfl HB17.out)
          obtain rfl := Option.some.inj HB17.out
          replace HB14 := Lib.hid (ifF (by first | exact Bool.false_ne_true | exact not_false) HB14.out)
          obtain ⟨y25, hy23, hm⟩ := obind HB14.out
          replace HB14 := Lib.hid hm; clear hm
          have HC24 := L3_in_ok W10  hy23
          clear hy23
          replace HC24 := Lib.hid HC24
          cases y25
          · replace HB14 := Lib.hid (ifF Bool.false_ne_true HB14.out)
            cases Option.some.inj HB14.out
            go_wp2_with fail
            refine HC21.out.mono ?_; rintro e w' ⟨rfl, rfl⟩
            go_wp2_with fail
            refine HC24.out.mono ?_; rintro e w' ⟨rfl, rfl⟩
            try go_wp2_with fail
            go_meet
            case rel => exact ⟨rfl, HWC15⟩
          · replace HB14 := Lib.hid (ifT rfl HB14.out)
            cases Option.some.inj HB14.out
            go_wp2_with fail
            refine HC21.out.mono ?_; rintro e w' ⟨rfl, rfl⟩
            go_wp2_with fail
            refine HC24.out.mono ?_; rintro e w' ⟨rfl, rfl⟩
            try go_wp2_with fail
            go_meet
            case rel => exact ⟨rfl, HWC15⟩
      · try rw [errV_pos _ hz18]
        have HZ19 := Lib.hid hz18; clear hz18
        replace HB17 := Lib.hid (ifT (bne_iff_ne.2 HZ19.out) HB17.out)
        obtain rfl := Option.some.inj HB17.out
        replace HB14 := Lib.hid (ifT (by first | rfl | trivial) HB14.out)
        cases Option.some.inj HB14.out
        try go_wp2_with fail
        try simp only [← errV_pos _ HZ19.out]
        go_meet
        case rel => exact ⟨rfl, HWC15⟩
    case rest =>
      obtain ⟨rfl, HWC15⟩ := hcut
      rename World => W26
      have hd := HWC15.out
      replace HOA := Lib.hid (HOA.out.below hd)
      replace HD := Lib.hid (HD.out.trans (hd.mono HD.out.size))
      clear hd
      cases b13
      · replace HM := Lib.hid (ifF Bool.false_ne_true HM.out)
        obtain ⟨⟨y29, y30⟩, hy27, hm⟩ := obind HM.out
        dsimp only at hm
        replace HM := Lib.hid hm; clear hm
        have HC28 := span_Neck_ok W26 cap1 (rdC HD.out HR1.out) hy27
        clear hy27
        replace HC28 := Lib.hid HC28
        go_wp2_with fail
        refine HC28.out.mono ?_; rintro e W31 ⟨rfl, hd⟩
        replace HOA := Lib.hid (HOA.out.below hd)
        replace HD := Lib.hid (HD.out.trans (hd.mono HD.out.size))
        clear hd
        go_upto_region 8 with (fail)
        obtain ⟨b32, hb, hm⟩ := obind HM.out
        replace HM := Lib.hid hm; have HB33 := Lib.hid hb; clear hm hb
        go_cut [69] (fun uq wr => uq = .bool b32 ∧ Hid (Below W31.heap.size W31 wr))
        case first =>
          have HWC34 := Lib.hid (Below.refl W31.heap.size W31)
          by_cases hz35 : y30 = 0
          · subst hz35
            try simp only [errV_zero]
            replace HB33 := Lib.hid (ifF (by decide) HB33.out)
            obtain ⟨A37, cap38, he, _⟩ := HP.open_B HOA.out (List.Mem.head _)
            subst he
            rcases Bool.eq_false_or_eq_true (((y7).length : Int) != ((v1).length : Int)) with hc39 | hc39
            · replace HB33 := Lib.hid (ifT hc39 HB33.out)
              have HK40 := Lib.hid hc39
              cases Option.some.inj HB33.out
              try go_wp2_with fail
              go_meet
              case rel => exact ⟨rfl, HWC34⟩
            · replace HB33 := Lib.hid (ifF (bF hc39) HB33.out)
              have HK40 := Lib.hid hc39
              cases Option.some.inj HB33.out
              try go_wp2_with fail
              go_meet
              case rel => exact ⟨rfl, HWC34⟩
          · try rw [errV_pos _ hz35]
            have HZ36 := Lib.hid hz35; clear hz35
            replace HB33 := Lib.hid (ifT (bne_iff_ne.2 HZ36.out) HB33.out)
            cases Option.some.inj HB33.out
            try go_wp2_with fail
            try simp only [← errV_pos _ HZ36.out]
            go_meet
            case rel => exact ⟨rfl, HWC34⟩
        case rest =>
          obtain ⟨rfl, HWC34⟩ := hcut
          rename World => W41
          have hd := HWC34.out
          replace HOA := Lib.hid (HOA.out.below hd)
          replace HD := Lib.hid (HD.out.trans (hd.mono HD.out.size))
          clear hd
          cases b32
          · replace HM := Lib.hid (ifF Bool.false_ne_true HM.out)
            obtain ⟨y44, hy42, hm⟩ := obind HM.out
            replace HM := Lib.hid hm; clear hm
            obtain ⟨A45, cap46, he, _⟩ := HP.open_B HOA.out (List.Mem.head _)
            subst he
            have HC43 := L3_chosen_ok W41 cap1 (rdC HD.out HR1.out) cap46 (HP.rd_B HOA.out (List.Mem.head _)) hy42
            clear hy42
            replace HC43 := Lib.hid HC43
            go_wp2_with fail
            refine HC43.out.mono ?_; rintro e W47 ⟨V48, rfl, ho, hd⟩
            replace HOA := Lib.hid (HOA.out.call hd HD.out.size ho); clear ho
            replace HD := Lib.hid (HD.out.trans (hd.mono HD.out.size))
            clear hd
            obtain ⟨y52, hy50, hm⟩ := obind HM.out
            replace HM := Lib.hid hm; clear hm
            obtain ⟨A53, cap54, he, _⟩ := HP.open_L HOA.out (List.Mem.head _)
            subst he
            have HC51 := R3_Tree_ok W47 cap54 (HP.rd_L HOA.out (List.Mem.head _)) hy50
            clear hy50
            replace HC51 := Lib.hid HC51
            go_wp2_with fail
            refine HC51.out.mono ?_; rintro e W55 ⟨rfl, hd⟩
            replace HOA := Lib.hid (HOA.out.below hd)
            replace HD := Lib.hid (HD.out.trans (hd.mono HD.out.size))
            clear hd
            rcases Bool.eq_false_or_eq_true (y52 != 0) with hc56 | hc56
            · replace HM := Lib.hid (ifT hc56 HM.out)
              have HK57 := Lib.hid hc56
              obtain rfl := Option.some.inj HM.out
              go_wp2_with fail
              go_ret
              exact ⟨(by first | rfl | (refine congrArg (fun b => Ending.returned (Value.bool b)) ?_; first | (exact decide_eq_true (by omega)) | (exact decide_eq_false (by omega)) | (have q := hc56; rw [bne_iff_ne] at q ⊢; omega) | (have q := hc56; rw [bne_eq_false_iff_eq] at q ⊢; omega) | (have q := hc56; rw [beq_iff_eq] at q ⊢; omega) | (have q := hc56; rw [beq_eq_false_iff_ne] at q ⊢; omega))), HD.out⟩
            · replace HM := Lib.hid (ifF (bF hc56) HM.out)
              have HK57 := Lib.hid hc56
              obtain ⟨y60, hy58, hm⟩ := obind HM.out
              replace HM := Lib.hid hm; clear hm
              have HC59 := R3_Way_ok W55 cap54 (HP.rd_L HOA.out (List.Mem.head _)) hy58
              clear hy58
              replace HC59 := Lib.hid HC59
              go_wp2_with fail
              refine HC59.out.mono ?_; rintro e W61 ⟨V62, rfl, ho, hd⟩
              try clear hc56
              replace HOA := Lib.hid (HOA.out.call hd HD.out.size ho); clear ho
              replace HD := Lib.hid (HD.out.trans (hd.mono HD.out.size))
              clear hd
              go_wp2_with fail
              obtain ⟨o64, ho, hm⟩ := obind HM.out
              replace HM := Lib.hid hm; have HL1 := Lib.hid ho; clear hm ho
              go_loopg [16, 17] F (fun gg ux67 ux68 wr => ∃ (x65 : Int) (x66 : Int), ux67 = .int .i64 x65 ∧ ux68 = .int .i64 x66 ∧ Hid (Below W61.heap.size W61 wr) ∧ Hid (L3_SpanNeck_L1 F (v1) (y7) (y60) gg x65 x66 = some o64))
              case atStart => exact ⟨0, 1, rfl, rfl, (Lib.hid (Below.refl _ _)), HL1⟩
              case round =>
                obtain ⟨x65, x66, rfl, rfl, HW1, HL1⟩ := hrel
                rename World => W69
                have hd := HW1.out
                replace HOA := Lib.hid (HOA.out.below hd)
                replace HD := Lib.hid (HD.out.trans (hd.mono HD.out.size))
                clear hd
                cases gk with
                | zero => exact absurd ((L3_SpanNeck_L1_0 ..).symm.trans HL1.out) (by intro h; cases h)
                | succ g1 =>
                  replace HL1 := Lib.hid ((L3_SpanNeck_L1_s ..).symm.trans HL1.out)
                  obtain ⟨A70, cap71, he, _⟩ := HP.open_I HOA.out (List.Mem.head _)
                  subst he
                  by_cases hc72 : x66 < ((y60).length : Int)
                  · replace HL1 := Lib.hid (ifT hc72 HL1.out)
                    have HK73 := Lib.hid hc72
                    go_wp2_with fail
                    try clear hc72
                    obtain ⟨o74, ho, hm⟩ := obind HL1.out
                    replace HL1 := Lib.hid hm; have HL2 := Lib.hid ho; clear hm ho
                    go_loopg [16, 18] F (fun gg ux77 ux78 wr => ∃ (x75 : Int) (x76 : Int), ux77 = .int .i64 x75 ∧ ux78 = .int .i64 x76 ∧ Hid (Below W69.heap.size W69 wr) ∧ Hid (L3_SpanNeck_L2 F (v1) (y7) (y60) (x66) gg x75 x76 = some o74))
                    case atStart => exact ⟨x65, 0, rfl, rfl, (Lib.hid (Below.refl _ _)), HL2⟩
                    case round =>
                      obtain ⟨x75, x76, rfl, rfl, HW2, HL2⟩ := hrel
                      rename World => W79
                      have hd := HW2.out
                      replace HOA := Lib.hid (HOA.out.below hd)
                      replace HD := Lib.hid (HD.out.trans (hd.mono HD.out.size))
                      replace HW1 := Lib.hid (HW1.out.trans (hd.mono HW1.out.size))
                      clear hd
                      cases gk with
                      | zero => exact absurd ((L3_SpanNeck_L2_0 ..).symm.trans HL2.out) (by intro h; cases h)
                      | succ g2 =>
                        replace HL2 := Lib.hid ((L3_SpanNeck_L2_s ..).symm.trans HL2.out)
                        by_cases hc80 : x76 < ((v1).length : Int)
                        · replace HL2 := Lib.hid (ifT hc80 HL2.out)
                          have HK81 := Lib.hid hc80
                          obtain ⟨y82, hy83, hm⟩ := obind HL2.out
                          replace HL2 := Lib.hid hm; clear hm
                          obtain ⟨b84, o85, ea86, _, f87, f88, f89, f90, f91⟩ := ReadsC.ix (rdC HD.out HR1.out) hy83
                          cases ea86
                          try simp only [Nat.zero_add, Nat.add_zero, Int.toNat_natCast, Int.toNat_zero, Int.toNat_one] at f89 f90 f91
                          have HY92 := Lib.hid hy83; clear hy83
                          go_upto_region 22 with (fail)
                          have hd : Below W79.heap.size W79 (W79.alloc (.cells #[Value.int .i64 y82.1, Value.int .i64 y82.2.1, Value.int .i64 y82.2.2] 37)) := (Below.refl _ _).alloc (Nat.le_refl _) _
                          have ho := boxRC W79 y82
                          generalize hW : World.alloc W79 _ = W93 at *
                          clear hW
                          try clear hc80 f87 f88 f89 f90 f91
                          replace HOA := Lib.hid (HOA.out.call hd HD.out.size ho); clear ho
                          replace HD := Lib.hid (HD.out.trans (hd.mono HD.out.size))
                          replace HW1 := Lib.hid (HW1.out.trans (hd.mono HW1.out.size))
                          replace HW2 := Lib.hid (HW2.out.trans (hd.mono HW2.out.size))
                          clear hd
                          try go_wp2_with fail
                          obtain ⟨b96, hb, hm⟩ := obind HL2.out
                          replace HL2 := Lib.hid hm; have HB97 := Lib.hid hb; clear hm hb
                          obtain ⟨b98, hb, hm⟩ := obind HB97.out
                          replace HB97 := Lib.hid hm; have HB99 := Lib.hid hb; clear hm hb
                          obtain ⟨y100, hy101, hm⟩ := obind HB99.out
                          replace HB99 := Lib.hid hm; clear hm
                          obtain ⟨b102, o103, ea104, _, f105, f106, f107⟩ := ReadsB.ix (HP.rd_B HOA.out (List.Mem.tail _ (List.Mem.tail _ (List.Mem.tail _ (List.Mem.head _))))) hy101
                          cases ea104
                          try simp only [Nat.zero_add, Nat.add_zero, Int.toNat_natCast, Int.toNat_zero, Int.toNat_one] at f107
                          try rw [← HP.len_B HOA.out (List.Mem.tail _ (List.Mem.tail _ (List.Mem.tail _ (List.Mem.head _))))] at f106
                          have HY109 := Lib.hid hy101; clear hy101
                          cases y100
                          · replace HB99 := Lib.hid (ifF Bool.false_ne_true HB99.out)
                            obtain rfl := Option.some.inj HB99.out
                            replace HB97 := Lib.hid (ifF (by first | exact Bool.false_ne_true | exact not_false) HB97.out)
                            obtain rfl := Option.some.inj HB97.out
                            replace HL2 := Lib.hid (ifF (by first | exact Bool.false_ne_true | exact not_false) HL2.out)
                            go_quiet (fail)
                            generalize hW : World.drewN W93 _ = W110
                            have hd : Dr W93 W110 := ⟨_, hW.symm⟩
                            clear hW
                            try clear f105 f106 f107
                            replace HOA := Lib.hid (HOA.out.below (hd.below _))
                            replace HD := Lib.hid (HD.out.trans ((hd.below _).mono HD.out.size))
                            replace HW1 := Lib.hid (HW1.out.trans ((hd.below _).mono HW1.out.size))
                            replace HW2 := Lib.hid (HW2.out.trans ((hd.below _).mono HW2.out.size))
                            clear hd
                            go_wp2_with fail
                            go_roundg g2
                            case measure => omega
                            case rel => exact ⟨x75, (wrap64 (x76 + 1)), rfl, rfl, HW2, HL2⟩
                          · replace HB99 := Lib.hid (ifT rfl HB99.out)
                            obtain ⟨b111, hb, hm⟩ := obind HB99.out
                            replace HB99 := Lib.hid hm; have HB112 := Lib.hid hb; clear hm hb
                            obtain ⟨f113, f114, f115⟩ := boxC (HP.rd_C HOA.out (List.Mem.head _))
                            obtain ⟨y116, hy117, hm⟩ := obind HB112.out
                            replace HB112 := Lib.hid hm; clear hm
                            obtain ⟨b118, o119, ea120, _, f121, f122, f123⟩ := ReadsI.ix (HP.rd_I HOA.out (List.Mem.tail _ (List.Mem.head _))) hy117
                            cases ea120
                            try simp only [Nat.zero_add, Nat.add_zero, Int.toNat_natCast, Int.toNat_zero, Int.toNat_one] at f123
                            try rw [← HP.len_I HOA.out (List.Mem.tail _ (List.Mem.head _))] at f122
                            have HY125 := Lib.hid hy117; clear hy117
                            rcases Bool.eq_false_or_eq_true (y82.1 == y116) with hc126 | hc126
                            · replace HB112 := Lib.hid (ifT hc126 HB112.out)
                              have HK127 := Lib.hid hc126
                              obtain ⟨y128, hy129, hm⟩ := obind HB112.out
                              replace HB112 := Lib.hid hm; clear hm
                              obtain ⟨b130, o131, ea132, _, f133, f134, f135⟩ := ReadsI.ix (HP.rd_I HOA.out (List.Mem.tail _ (List.Mem.head _))) hy129
                              cases ea132
                              try simp only [Nat.zero_add, Nat.add_zero, Int.toNat_natCast, Int.toNat_zero, Int.toNat_one] at f135
                              try rw [← HP.len_I HOA.out (List.Mem.tail _ (List.Mem.head _))] at f134
                              have HY137 := Lib.hid hy129; clear hy129
                              rcases Bool.eq_false_or_eq_true (y82.2.1 == y128) with hc138 | hc138
                              · replace HB112 := Lib.hid (ifT hc138 HB112.out)
                                have HK139 := Lib.hid hc138
                                obtain rfl := Option.some.inj HB112.out
                                replace HB99 := Lib.hid (ifT (by first | rfl | trivial) HB99.out)
                                obtain rfl := Option.some.inj HB99.out
                                replace HB97 := Lib.hid (ifT (by first | rfl | trivial) HB97.out)
                                by_cases hc140 : x75 < y82.2.2
                                · replace HB97 := Lib.hid (ifT hc140 HB97.out)
                                  have HK141 := Lib.hid hc140
                                  obtain rfl := Option.some.inj HB97.out
                                  replace HL2 := Lib.hid (ifT (by first | rfl | trivial) HL2.out)
                                  go_quiet (fail)
                                  generalize hW : World.drewN W93 _ = W142
                                  have hd : Dr W93 W142 := ⟨_, hW.symm⟩
                                  clear hW
                                  try clear f105 f106 f107 f113 f114 f115 f121 f122 f123 hc126 f133 f134 f135 hc138 hc140
                                  replace HOA := Lib.hid (HOA.out.below (hd.below _))
                                  replace HD := Lib.hid (HD.out.trans ((hd.below _).mono HD.out.size))
                                  replace HW1 := Lib.hid (HW1.out.trans ((hd.below _).mono HW1.out.size))
                                  replace HW2 := Lib.hid (HW2.out.trans ((hd.below _).mono HW2.out.size))
                                  clear hd
                                  obtain ⟨f143, f144, f145⟩ := boxC (HP.rd_C HOA.out (List.Mem.head _))
                                  go_wp2_with fail
                                  try clear f143 f144 f145
                                  go_roundg g2
                                  case measure => omega
                                  case rel => exact ⟨y82.2.2, (wrap64 (x76 + 1)), rfl, rfl, HW2, HL2⟩
                                · replace HB97 := Lib.hid (ifF hc140 HB97.out)
                                  have hc140d := decide_eq_false hc140
                                  have HK141 := Lib.hid hc140
                                  obtain rfl := Option.some.inj HB97.out
                                  replace HL2 := Lib.hid (ifF (by first | exact Bool.false_ne_true | exact not_false) HL2.out)
                                  go_quiet (fail)
                                  generalize hW : World.drewN W93 _ = W146
                                  have hd : Dr W93 W146 := ⟨_, hW.symm⟩
                                  clear hW
                                  try clear f105 f106 f107 f113 f114 f115 f121 f122 f123 hc126 f133 f134 f135 hc138 hc140 hc140d
                                  replace HOA := Lib.hid (HOA.out.below (hd.below _))
                                  replace HD := Lib.hid (HD.out.trans ((hd.below _).mono HD.out.size))
                                  replace HW1 := Lib.hid (HW1.out.trans ((hd.below _).mono HW1.out.size))
                                  replace HW2 := Lib.hid (HW2.out.trans ((hd.below _).mono HW2.out.size))
                                  clear hd
                                  go_wp2_with fail
                                  go_roundg g2
                                  case measure => omega
                                  case rel => exact ⟨x75, (wrap64 (x76 + 1)), rfl, rfl, HW2, HL2⟩
                              · replace HB112 := Lib.hid (ifF (bF hc138) HB112.out)
                                have HK139 := Lib.hid hc138
                                obtain rfl := Option.some.inj HB112.out
                                replace HB99 := Lib.hid (ifF (by first | exact Bool.false_ne_true | exact not_false) HB99.out)
                                obtain ⟨y147, hy148, hm⟩ := obind HB99.out
                                replace HB99 := Lib.hid hm; clear hm
                                obtain rfl := Option.some.inj (HY125.out.symm.trans hy148)
                                clear hy148
                                rcases Bool.eq_false_or_eq_true (y82.2.1 == y116) with hc149 | hc149
                                · replace HB99 := Lib.hid (ifT hc149 HB99.out)
                                  have HK150 := Lib.hid hc149
                                  obtain ⟨y151, hy152, hm⟩ := obind HB99.out
                                  replace HB99 := Lib.hid hm; clear hm
                                  obtain rfl := Option.some.inj (HY137.out.symm.trans hy152)
                                  clear hy152
                                  rcases Bool.eq_false_or_eq_true (y82.1 == y128) with hc153 | hc153
                                  · replace HB99 := Lib.hid (ifT hc153 HB99.out)
                                    have HK154 := Lib.hid hc153
                                    obtain rfl := Option.some.inj HB99.out
                                    replace HB97 := Lib.hid (ifT (by first | rfl | trivial) HB97.out)
                                    by_cases hc155 : x75 < y82.2.2
                                    · replace HB97 := Lib.hid (ifT hc155 HB97.out)
                                      have HK156 := Lib.hid hc155
                                      obtain rfl := Option.some.inj HB97.out
                                      replace HL2 := Lib.hid (ifT (by first | rfl | trivial) HL2.out)
                                      go_quiet (fail)
                                      generalize hW : World.drewN W93 _ = W157
                                      have hd : Dr W93 W157 := ⟨_, hW.symm⟩
                                      clear hW
                                      try clear f105 f106 f107 f113 f114 f115 f121 f122 f123 hc126 f133 f134 f135 hc138 hc149 hc153 hc155
                                      replace HOA := Lib.hid (HOA.out.below (hd.below _))
                                      replace HD := Lib.hid (HD.out.trans ((hd.below _).mono HD.out.size))
                                      replace HW1 := Lib.hid (HW1.out.trans ((hd.below _).mono HW1.out.size))
                                      replace HW2 := Lib.hid (HW2.out.trans ((hd.below _).mono HW2.out.size))
                                      clear hd
                                      obtain ⟨f158, f159, f160⟩ := boxC (HP.rd_C HOA.out (List.Mem.head _))
                                      go_wp2_with fail
                                      try clear f158 f159 f160
                                      go_roundg g2
                                      case measure => omega
                                      case rel => exact ⟨y82.2.2, (wrap64 (x76 + 1)), rfl, rfl, HW2, HL2⟩
                                    · replace HB97 := Lib.hid (ifF hc155 HB97.out)
                                      have hc155d := decide_eq_false hc155
                                      have HK156 := Lib.hid hc155
                                      obtain rfl := Option.some.inj HB97.out
                                      replace HL2 := Lib.hid (ifF (by first | exact Bool.false_ne_true | exact not_false) HL2.out)
                                      go_quiet (fail)
                                      generalize hW : World.drewN W93 _ = W161
                                      have hd : Dr W93 W161 := ⟨_, hW.symm⟩
                                      clear hW
                                      try clear f105 f106 f107 f113 f114 f115 f121 f122 f123 hc126 f133 f134 f135 hc138 hc149 hc153 hc155 hc155d
                                      replace HOA := Lib.hid (HOA.out.below (hd.below _))
                                      replace HD := Lib.hid (HD.out.trans ((hd.below _).mono HD.out.size))
                                      replace HW1 := Lib.hid (HW1.out.trans ((hd.below _).mono HW1.out.size))
                                      replace HW2 := Lib.hid (HW2.out.trans ((hd.below _).mono HW2.out.size))
                                      clear hd
                                      go_wp2_with fail
                                      go_roundg g2
                                      case measure => omega
                                      case rel => exact ⟨x75, (wrap64 (x76 + 1)), rfl, rfl, HW2, HL2⟩
                                  · replace HB99 := Lib.hid (ifF (bF hc153) HB99.out)
                                    have HK154 := Lib.hid hc153
                                    obtain rfl := Option.some.inj HB99.out
                                    replace HB97 := Lib.hid (ifF (by first | exact Bool.false_ne_true | exact not_false) HB97.out)
                                    obtain rfl := Option.some.inj HB97.out
                                    replace HL2 := Lib.hid (ifF (by first | exact Bool.false_ne_true | exact not_false) HL2.out)
                                    go_quiet (fail)
                                    generalize hW : World.drewN W93 _ = W162
                                    have hd : Dr W93 W162 := ⟨_, hW.symm⟩
                                    clear hW
                                    try clear f105 f106 f107 f113 f114 f115 f121 f122 f123 hc126 f133 f134 f135 hc138 hc149 hc153
                                    replace HOA := Lib.hid (HOA.out.below (hd.below _))
                                    replace HD := Lib.hid (HD.out.trans ((hd.below _).mono HD.out.size))
                                    replace HW1 := Lib.hid (HW1.out.trans ((hd.below _).mono HW1.out.size))
                                    replace HW2 := Lib.hid (HW2.out.trans ((hd.below _).mono HW2.out.size))
                                    clear hd
                                    go_wp2_with fail
                                    go_roundg g2
                                    case measure => omega
                                    case rel => exact ⟨x75, (wrap64 (x76 + 1)), rfl, rfl, HW2, HL2⟩
                                · replace HB99 := Lib.hid (ifF (bF hc149) HB99.out)
                                  have HK150 := Lib.hid hc149
                                  obtain rfl := Option.some.inj HB99.out
                                  replace HB97 := Lib.hid (ifF (by first | exact Bool.false_ne_true | exact not_false) HB97.out)
                                  obtain rfl := Option.some.inj HB97.out
                                  replace HL2 := Lib.hid (ifF (by first | exact Bool.false_ne_true | exact not_false) HL2.out)
                                  go_quiet (fail)
                                  generalize hW : World.drewN W93 _ = W163
                                  have hd : Dr W93 W163 := ⟨_, hW.symm⟩
                                  clear hW
                                  try clear f105 f106 f107 f113 f114 f115 f121 f122 f123 hc126 f133 f134 f135 hc138 hc149
                                  replace HOA := Lib.hid (HOA.out.below (hd.below _))
                                  replace HD := Lib.hid (HD.out.trans ((hd.below _).mono HD.out.size))
                                  replace HW1 := Lib.hid (HW1.out.trans ((hd.below _).mono HW1.out.size))
                                  replace HW2 := Lib.hid (HW2.out.trans ((hd.below _).mono HW2.out.size))
                                  clear hd
                                  go_wp2_with fail
                                  go_roundg g2
                                  case measure => omega
                                  case rel => exact ⟨x75, (wrap64 (x76 + 1)), rfl, rfl, HW2, HL2⟩
                            · replace HB112 := Lib.hid (ifF (bF hc126) HB112.out)
                              have HK127 := Lib.hid hc126
                              obtain rfl := Option.some.inj HB112.out
                              replace HB99 := Lib.hid (ifF (by first | exact Bool.false_ne_true | exact not_false) HB99.out)
                              obtain ⟨y164, hy165, hm⟩ := obind HB99.out
                              replace HB99 := Lib.hid hm; clear hm
                              obtain rfl := Option.some.inj (HY125.out.symm.trans hy165)
                              clear hy165
                              rcases Bool.eq_false_or_eq_true (y82.2.1 == y116) with hc166 | hc166
                              · replace HB99 := Lib.hid (ifT hc166 HB99.out)
                                have HK167 := Lib.hid hc166
                                obtain ⟨y168, hy169, hm⟩ := obind HB99.out
                                replace HB99 := Lib.hid hm; clear hm
                                obtain ⟨b170, o171, ea172, _, f173, f174, f175⟩ := ReadsI.ix (HP.rd_I HOA.out (List.Mem.tail _ (List.Mem.head _))) hy169
                                cases ea172
                                try simp only [Nat.zero_add, Nat.add_zero, Int.toNat_natCast, Int.toNat_zero, Int.toNat_one] at f175
                                try rw [← HP.len_I HOA.out (List.Mem.tail _ (List.Mem.head _))] at f174
                                have HY177 := Lib.hid hy169; clear hy169
                                rcases Bool.eq_false_or_eq_true (y82.1 == y168) with hc178 | hc178
                                · replace HB99 := Lib.hid (ifT hc178 HB99.out)
                                  have HK179 := Lib.hid hc178
                                  obtain rfl := Option.some.inj HB99.out
                                  replace HB97 := Lib.hid (ifT (by first | rfl | trivial) HB97.out)
                                  by_cases hc180 : x75 < y82.2.2
                                  · replace HB97 := Lib.hid (ifT hc180 HB97.out)
                                    have HK181 := Lib.hid hc180
                                    obtain rfl := Option.some.inj HB97.out
                                    replace HL2 := Lib.hid (ifT (by first | rfl | trivial) HL2.out)
                                    go_quiet (fail)
                                    generalize hW : World.drewN W93 _ = W182
                                    have hd : Dr W93 W182 := ⟨_, hW.symm⟩
                                    clear hW
                                    try clear f105 f106 f107 f113 f114 f115 f121 f122 f123 hc126 hc166 f173 f174 f175 hc178 hc180
                                    replace HOA := Lib.hid (HOA.out.below (hd.below _))
                                    replace HD := Lib.hid (HD.out.trans ((hd.below _).mono HD.out.size))
                                    replace HW1 := Lib.hid (HW1.out.trans ((hd.below _).mono HW1.out.size))
                                    replace HW2 := Lib.hid (HW2.out.trans ((hd.below _).mono HW2.out.size))
                                    clear hd
                                    obtain ⟨f183, f184, f185⟩ := boxC (HP.rd_C HOA.out (List.Mem.head _))
                                    go_wp2_with fail
                                    try clear f183 f184 f185
                                    go_roundg g2
                                    case measure => omega
                                    case rel => exact ⟨y82.2.2, (wrap64 (x76 + 1)), rfl, rfl, HW2, HL2⟩
                                  · replace HB97 := Lib.hid (ifF hc180 HB97.out)
                                    have hc180d := decide_eq_false hc180
                                    have HK181 := Lib.hid hc180
                                    obtain rfl := Option.some.inj HB97.out
                                    replace HL2 := Lib.hid (ifF (by first | exact Bool.false_ne_true | exact not_false) HL2.out)
                                    go_quiet (fail)
                                    generalize hW : World.drewN W93 _ = W186
                                    have hd : Dr W93 W186 := ⟨_, hW.symm⟩
                                    clear hW
                                    try clear f105 f106 f107 f113 f114 f115 f121 f122 f123 hc126 hc166 f173 f174 f175 hc178 hc180 hc180d
                                    replace HOA := Lib.hid (HOA.out.below (hd.below _))
                                    replace HD := Lib.hid (HD.out.trans ((hd.below _).mono HD.out.size))
                                    replace HW1 := Lib.hid (HW1.out.trans ((hd.below _).mono HW1.out.size))
                                    replace HW2 := Lib.hid (HW2.out.trans ((hd.below _).mono HW2.out.size))
                                    clear hd
                                    go_wp2_with fail
                                    go_roundg g2
                                    case measure => omega
                                    case rel => exact ⟨x75, (wrap64 (x76 + 1)), rfl, rfl, HW2, HL2⟩
                                · replace HB99 := Lib.hid (ifF (bF hc178) HB99.out)
                                  have HK179 := Lib.hid hc178
                                  obtain rfl := Option.some.inj HB99.out
                                  replace HB97 := Lib.hid (ifF (by first | exact Bool.false_ne_true | exact not_false) HB97.out)
                                  obtain rfl := Option.some.inj HB97.out
                                  replace HL2 := Lib.hid (ifF (by first | exact Bool.false_ne_true | exact not_false) HL2.out)
                                  go_quiet (fail)
                                  generalize hW : World.drewN W93 _ = W187
                                  have hd : Dr W93 W187 := ⟨_, hW.symm⟩
                                  clear hW
                                  try clear f105 f106 f107 f113 f114 f115 f121 f122 f123 hc126 hc166 f173 f174 f175 hc178
                                  replace HOA := Lib.hid (HOA.out.below (hd.below _))
                                  replace HD := Lib.hid (HD.out.trans ((hd.below _).mono HD.out.size))
                                  replace HW1 := Lib.hid (HW1.out.trans ((hd.below _).mono HW1.out.size))
                                  replace HW2 := Lib.hid (HW2.out.trans ((hd.below _).mono HW2.out.size))
                                  clear hd
                                  go_wp2_with fail
                                  go_roundg g2
                                  case measure => omega
                                  case rel => exact ⟨x75, (wrap64 (x76 + 1)), rfl, rfl, HW2, HL2⟩
                              · replace HB99 := Lib.hid (ifF (bF hc166) HB99.out)
                                have HK167 := Lib.hid hc166
                                obtain rfl := Option.some.inj HB99.out
                                replace HB97 := Lib.hid (ifF (by first | exact Bool.false_ne_true | exact not_false) HB97.out)
                                obtain rfl := Option.some.inj HB97.out
                                replace HL2 := Lib.hid (ifF (by first | exact Bool.false_ne_true | exact not_false) HL2.out)
                                go_quiet (fail)
                                generalize hW : World.drewN W93 _ = W188
                                have hd : Dr W93 W188 := ⟨_, hW.symm⟩
                                clear hW
                                try clear f105 f106 f107 f113 f114 f115 f121 f122 f123 hc126 hc166
                                replace HOA := Lib.hid (HOA.out.below (hd.below _))
                                replace HD := Lib.hid (HD.out.trans ((hd.below _).mono HD.out.size))
                                replace HW1 := Lib.hid (HW1.out.trans ((hd.below _).mono HW1.out.size))
                                replace HW2 := Lib.hid (HW2.out.trans ((hd.below _).mono HW2.out.size))
                                clear hd
                                go_wp2_with fail
                                go_roundg g2
                                case measure => omega
                                case rel => exact ⟨x75, (wrap64 (x76 + 1)), rfl, rfl, HW2, HL2⟩
                        · replace HL2 := Lib.hid (ifF hc80 HL2.out)
                          have hc80d := decide_eq_false hc80
                          have HK81 := Lib.hid hc80
                          obtain rfl := Option.some.inj HL2.out
                          have hm := HL1.out; try dsimp only at hm
                          replace HL1 := Lib.hid hm; clear hm
                          go_wp2_with fail
                          try clear hc80 hc80d
                          go_roundg g1
                          case measure => omega
                          case rel => exact ⟨x75, (wrap64 (x66 + 1)), rfl, rfl, HW1, HL1⟩
                  · replace HL1 := Lib.hid (ifF hc72 HL1.out)
                    have hc72d := decide_eq_false hc72
                    have HK73 := Lib.hid hc72
                    obtain rfl := Option.some.inj HL1.out
                    have hm := HM.out; try dsimp only at hm
                    replace HM := Lib.hid hm; clear hm
                    obtain ⟨b189, hb, hm⟩ := obind HM.out
                    replace HM := Lib.hid hm; have HB190 := Lib.hid hb; clear hm hb
                    rcases Bool.eq_false_or_eq_true (x65 == y29) with hc191 | hc191
                    · replace HB190 := Lib.hid (ifT hc191 HB190.out)
                      have HK192 := Lib.hid hc191
                      obtain rfl := Option.some.inj HB190.out
                      obtain rfl := Option.some.inj HM.out
                      go_wp2_with fail
                      go_ret
                      exact ⟨(by first | rfl | (refine congrArg (fun b => Ending.returned (Value.bool b)) ?_; first | (exact decide_eq_true (by omega)) | (exact decide_eq_false (by omega)) | (have q := hc72d; rw [bne_iff_ne] at q ⊢; omega) | (have q := hc72d; rw [bne_eq_false_iff_eq] at q ⊢; omega) | (have q := hc72d; rw [beq_iff_eq] at q ⊢; omega) | (have q := hc72d; rw [beq_eq_false_iff_ne] at q ⊢; omega) | (have q := hc191; rw [bne_iff_ne] at q ⊢; omega) | (have q := hc191; rw [bne_eq_false_iff_eq] at q ⊢; omega) | (have q := hc191; rw [beq_iff_eq] at q ⊢; omega) | (have q := hc191; rw [beq_eq_false_iff_ne] at q ⊢; omega))), HD.out⟩
                    · replace HB190 := Lib.hid (ifF (bF hc191) HB190.out)
                      have HK192 := Lib.hid hc191
                      obtain rfl := Option.some.inj HB190.out
                      obtain rfl := Option.some.inj HM.out
                      go_wp2_with fail
                      go_ret
                      exact ⟨(by first | rfl | (refine congrArg (fun b => Ending.returned (Value.bool b)) ?_; first | (exact decide_eq_true (by omega)) | (exact decide_eq_false (by omega)) | (have q := hc72d; rw [bne_iff_ne] at q ⊢; omega) | (have q := hc72d; rw [bne_eq_false_iff_eq] at q ⊢; omega) | (have q := hc72d; rw [beq_iff_eq] at q ⊢; omega) | (have q := hc72d; rw [beq_eq_false_iff_ne] at q ⊢; omega) | (have q := hc191; rw [bne_iff_ne] at q ⊢; omega) | (have q := hc191; rw [bne_eq_false_iff_eq] at q ⊢; omega) | (have q := hc191; rw [beq_iff_eq] at q ⊢; omega) | (have q := hc191; rw [beq_eq_false_iff_ne] at q ⊢; omega))), HD.out⟩
          · replace HM := Lib.hid (ifT rfl HM.out)
            obtain rfl := Option.some.inj HM.out
            go_wp2_with fail
            go_ret
            exact ⟨rfl, HD.out⟩
      · replace HM := Lib.hid (ifT rfl HM.out)
        obtain ⟨b193, hb, hm⟩ := obind HM.out
        replace HM := Lib.hid hm; have HB194 := Lib.hid hb; clear hm hb
        by_cases hz195 : y9 = 0
        · subst hz195
          try simp only [errV_zero]
          replace HB194 := Lib.hid (ifT (by decide) HB194.out)
          obtain rfl := Option.some.inj HB194.out
          obtain rfl := Option.some.inj HM.out
          go_wp2_with fail
          go_ret
          exact ⟨rfl, HD.out⟩
        · try rw [errV_pos _ hz195]
          have HZ196 := Lib.hid hz195; clear hz195
          replace HB194 := Lib.hid (ifF (fun h => HZ196.out (eq_of_beq h)) HB194.out)
          obtain ⟨A197, cap198, he, _⟩ := HP.open_B HOA.out (List.Mem.head _)
          subst he
          rcases Bool.eq_false_or_eq_true (((y7).length : Int) == 0) with hc199 | hc199
          · replace HB194 := Lib.hid (ifT hc199 HB194.out)
            have HK200 := Lib.hid hc199
            obtain rfl := Option.some.inj HB194.out
            obtain rfl := Option.some.inj HM.out
            go_wp2_with fail
            go_ret
            exact ⟨(by first | rfl | (refine congrArg (fun b => Ending.returned (Value.bool b)) ?_; first | (exact decide_eq_true (by omega)) | (exact decide_eq_false (by omega)) | (have q := hc199; rw [bne_iff_ne] at q ⊢; omega) | (have q := hc199; rw [bne_eq_false_iff_eq] at q ⊢; omega) | (have q := hc199; rw [beq_iff_eq] at q ⊢; omega) | (have q := hc199; rw [beq_eq_false_iff_ne] at q ⊢; omega))), HD.out⟩
          · replace HB194 := Lib.hid (ifF (bF hc199) HB194.out)
            have HK200 := Lib.hid hc199
            obtain rfl := Option.some.inj HB194.out
            obtain rfl := Option.some.inj HM.out
            go_wp2_with fail
            go_ret
            exact ⟨(by first | rfl | (refine congrArg (fun b => Ending.returned (Value.bool b)) ?_; first | (exact decide_eq_true (by omega)) | (exact decide_eq_false (by omega)) | (have q := hc199; rw [bne_iff_ne] at q ⊢; omega) | (have q := hc199; rw [bne_eq_false_iff_eq] at q ⊢; omega) | (have q := hc199; rw [beq_iff_eq] at q ⊢; omega) | (have q := hc199; rw [beq_eq_false_iff_ne] at q ⊢; omega))), HD.out⟩
end Go.Proofs.Ytccdnokddkpmgaa
