import Derived.Test.YthgejnjfikljcaaF2
set_option linter.all false
set_option maxRecDepth 100000
namespace Go.Proofs.Ythgejnjfikljcaa
open Go.RowKit
def L3_meanFact (F : Nat)  : Option (Bool) := (mean_Least F (3) ([(0, 1, 1), (1, 0, 4), (1, 2, 1), (2, 0, 1)])).bind fun y1 => ((if (y1.2.2 == 0) = true then if (y1.1 == 1) = true then some true else some false else some false).bind fun b3 => if b3 = true then if (y1.2.1 == 1) = true then some true else some false else some false).bind fun b2 => some (b2)
set_option maxRecDepth 100000 in
set_option maxHeartbeats 1000000 in
theorem L3_meanFact_ok {F : Nat}  {r : Bool} (w : World)  (h : L3_meanFact F  = some r) :
    Calls Try.prog 5 #[] w fun e w' => e = .returned (.bool r) ∧ Below w.heap.size w w' := by
  have HD := Lib.hid (Below.refl w.heap.size w)
  have HOA := Lib.hid (HP.nil (W := w) (B := w.heap.size))
  unfold L3_meanFact at h
  have HM := Lib.hid h; clear h
  go_enter Try.func5, Try.ntmps5
  have hd : Below w.heap.size w (World.alloc w (.cells #[Value.int .i64 (0), Value.int .i64 (1), Value.int .i64 (1), Value.int .i64 (1), Value.int .i64 (0), Value.int .i64 (4), Value.int .i64 (1), Value.int .i64 (2), Value.int .i64 (1), Value.int .i64 (2), Value.int .i64 (0), Value.int .i64 (1)] 31)) := (Below.refl _ _).alloc (Nat.le_refl _) _
  have ho : (owC (.slice (some ⟨w.heap.size, 0, none⟩) 4 4) [(0, 1, 1), (1, 0, 4), (1, 2, 1), (2, 0, 1)]).ok (World.alloc w (.cells #[Value.int .i64 (0), Value.int .i64 (1), Value.int .i64 (1), Value.int .i64 (1), Value.int .i64 (0), Value.int .i64 (4), Value.int .i64 (1), Value.int .i64 (2), Value.int .i64 (1), Value.int .i64 (2), Value.int .i64 (0), Value.int .i64 (1)] 31)) w.heap.size := litC_ok w [(0, 1, 1), (1, 0, 4), (1, 2, 1), (2, 0, 1)] (by unfold maxLen; simp)
  replace HOA := Lib.hid (HOA.out.call hd HD.out.size ho); clear ho
  replace HD := Lib.hid (HD.out.trans (hd.mono HD.out.size))
  clear hd
  obtain ⟨⟨y5, y6, y7⟩, hy3, hm⟩ := obind HM.out
  dsimp only at hm
  replace HM := Lib.hid hm; clear hm
  have HC4 := mean_Least_ok (World.alloc w (.cells #[Value.int .i64 (0), Value.int .i64 (1), Value.int .i64 (1), Value.int .i64 (1), Value.int .i64 (0), Value.int .i64 (4), Value.int .i64 (1), Value.int .i64 (2), Value.int .i64 (1), Value.int .i64 (2), Value.int .i64 (0), Value.int .i64 (1)] 31)) 4 (HP.rd_C HOA.out (List.Mem.head _)) hy3
  clear hy3
  by_cases hz8 : y7 = 0
  · subst hz8
    rw [errV_zero] at HC4; replace HC4 := Lib.hid HC4
    go_wp2_with fail
    refine HC4.out.mono ?_; rintro e W9 ⟨rfl, hd⟩
    replace HOA := Lib.hid (HOA.out.below hd)
    replace HD := Lib.hid (HD.out.trans (hd.mono HD.out.size))
    clear hd
    obtain ⟨b12, hb, hm⟩ := obind HM.out
    replace HM := Lib.hid hm; have HB13 := Lib.hid hb; clear hm hb
    obtain ⟨b14, hb, hm⟩ := obind HB13.out
    replace HB13 := Lib.hid hm; have HB15 := Lib.hid hb; clear hm hb
    replace HB15 := Lib.hid (ifT (by decide) HB15.out)
    rcases Bool.eq_false_or_eq_true (y5 == 1) with hc16 | hc16
    · replace HB15 := Lib.hid (ifT hc16 HB15.out)
      have HK17 := Lib.hid hc16
      obtain rfl := Option.some.inj HB15.out
      replace HB13 := Lib.hid (ifT (by first | rfl | trivial) HB13.out)
      rcases Bool.eq_false_or_eq_true (y6 == 1) with hc18 | hc18
      · replace HB13 := Lib.hid (ifT hc18 HB13.out)
        have HK19 := Lib.hid hc18
        obtain rfl := Option.some.inj HB13.out
        obtain rfl := Option.some.inj HM.out
        go_wp2_with fail
        go_ret
        exact ⟨(by first | rfl | (refine congrArg (fun b => Ending.returned (Value.bool b)) ?_; first | (exact decide_eq_true (by omega)) | (exact decide_eq_false (by omega)))), HD.out⟩
      · replace HB13 := Lib.hid (ifF (bF hc18) HB13.out)
        have HK19 := Lib.hid hc18
        obtain rfl := Option.some.inj HB13.out
        obtain rfl := Option.some.inj HM.out
        go_wp2_with fail
        go_ret
        exact ⟨(by first | rfl | (refine congrArg (fun b => Ending.returned (Value.bool b)) ?_; first | (exact decide_eq_true (by omega)) | (exact decide_eq_false (by omega)))), HD.out⟩
    · replace HB15 := Lib.hid (ifF (bF hc16) HB15.out)
      have HK17 := Lib.hid hc16
      obtain rfl := Option.some.inj HB15.out
      replace HB13 := Lib.hid (ifF (by first | exact Bool.false_ne_true | exact not_false) HB13.out)
      obtain rfl := Option.some.inj HB13.out
      obtain rfl := Option.some.inj HM.out
      go_wp2_with fail
      go_ret
      exact ⟨(by first | rfl | (refine congrArg (fun b => Ending.returned (Value.bool b)) ?_; first | (exact decide_eq_true (by omega)) | (exact decide_eq_false (by omega)))), HD.out⟩
  · rw [errV_pos _ hz8] at HC4; replace HC4 := Lib.hid HC4
    go_wp2_with fail
    refine HC4.out.mono ?_; rintro e W10 ⟨rfl, hd⟩
    replace HOA := Lib.hid (HOA.out.below hd)
    replace HD := Lib.hid (HD.out.trans (hd.mono HD.out.size))
    clear hd
    have HZ11 := Lib.hid hz8; clear hz8
    obtain ⟨b20, hb, hm⟩ := obind HM.out
    replace HM := Lib.hid hm; have HB21 := Lib.hid hb; clear hm hb
    obtain ⟨b22, hb, hm⟩ := obind HB21.out
    replace HB21 := Lib.hid hm; have HB23 := Lib.hid hb; clear hm hb
    replace HB23 := Lib.hid (ifF (fun h => HZ11.out (eq_of_beq h)) HB23.out)
    obtain rfl := Option.some.inj HB23.out
    replace HB21 := Lib.hid (ifF (by first | exact Bool.false_ne_true | exact not_false) HB21.out)
    obtain rfl := Option.some.inj HB21.out
    obtain rfl := Option.some.inj HM.out
    go_wp2_with fail
    go_ret
    exact ⟨rfl, HD.out⟩
def R3_Costs_L1 (F : Nat) (v0 : Int) (v1 : List (Int × Int × Int)) : Nat → (Int) → Option ((Int) ⊕ (Int))
  | 0, _ => none
  | g+1, v3 => if v3 < ((v1).length : Int) then ((((ix v1 v3).bind fun y4 => (R3_in F (y4.1) (0) ((wrap64 (v0 - 1)))).bind fun y5 => if y5 = true then (ix v1 v3).bind fun y6 => (R3_in F (y6.2.1) (0) ((wrap64 (v0 - 1)))).bind fun y7 => if y7 = true then some false else some true else some true).bind fun b3 => if b3 = true then some true else (ix v1 v3).bind fun y8 => (R3_in F (y8.2.2) (0) (20)).bind fun y9 => if y9 = true then some false else some true).bind fun b2 => if b2 = true then some (.inr (1)) else ((ix v1 v3).bind fun y10 => (ix v1 v3).bind fun y11 => if (y10.1 == y11.2.1) = true then some (.inr (3)) else R3_Costs_L1 F v0 v1 g ((wrap64 (v3 + 1))))) else some (.inl (v3))
theorem R3_Costs_L1_0 (F : Nat) (v0 : Int) (v1 : List (Int × Int × Int)) (v3 : Int) : R3_Costs_L1 F v0 v1 0 v3 = none := by rw [R3_Costs_L1]
theorem R3_Costs_L1_s (F g : Nat) (v0 : Int) (v1 : List (Int × Int × Int)) (v3 : Int) : R3_Costs_L1 F v0 v1 (g+1) v3 = (if v3 < ((v1).length : Int) then ((((ix v1 v3).bind fun y4 => (R3_in F (y4.1) (0) ((wrap64 (v0 - 1)))).bind fun y5 => if y5 = true then (ix v1 v3).bind fun y6 => (R3_in F (y6.2.1) (0) ((wrap64 (v0 - 1)))).bind fun y7 => if y7 = true then some false else some true else some true).bind fun b3 => if b3 = true then some true else (ix v1 v3).bind fun y8 => (R3_in F (y8.2.2) (0) (20)).bind fun y9 => if y9 = true then some false else some true).bind fun b2 => if b2 = true then some (.inr (1)) else ((ix v1 v3).bind fun y10 => (ix v1 v3).bind fun y11 => if (y10.1 == y11.2.1) = true then some (.inr (3)) else R3_Costs_L1 F v0 v1 g ((wrap64 (v3 + 1))))) else some (.inl (v3))) := by rw [R3_Costs_L1]
def R3_Costs (F : Nat) (v0 : Int) (v1 : List (Int × Int × Int)) : Option (Int) := ((R3_in F (v0) (1) (8)).bind fun y1 => if y1 = true then (if 24 < ((v1).length : Int) then some (4) else (R3_Costs_L1 F (v0) (v1) F (0)).bind fun o12 => match o12 with | .inr r => some (r) | .inl o12 => some (0)) else some (1))
set_option maxRecDepth 100000 in
set_option maxHeartbeats 1000000 in
theorem R3_Costs_ok {F : Nat} {v0 : Int} {v1 : List (Int × Int × Int)} {A1 : Option Addr} {r : Int} (w : World) (cap1 : Nat) (hr1 : ReadsC w w.heap.size A1 v1) (h : R3_Costs F v0 v1 = some r) :
    Calls Try.prog 8 #[.int .i64 v0, .slice A1 v1.length cap1] w fun e w' => e = .returned (.int .i64 r) ∧ Dr w w' := by
  have HR1 := Lib.hid hr1; clear hr1
  have HD := Lib.hid (Dr.refl w)
  unfold R3_Costs at h
  have HM := Lib.hid h; clear h
  go_enter Try.func8, Try.ntmps8
  obtain ⟨y3, hy1, hm⟩ := obind HM.out
  replace HM := Lib.hid hm; clear hm
  have HC2 := R3_in_ok w  hy1
  clear hy1
  replace HC2 := Lib.hid HC2
  cases y3
  · replace HM := Lib.hid (ifF Bool.false_ne_true HM.out)
    obtain rfl := Option.some.inj HM.out
    go_wp2_with fail
    refine HC2.out.mono ?_; rintro e w' ⟨rfl, rfl⟩
    go_wp2_with fail
    go_ret
    exact ⟨rfl, HD.out⟩
  · replace HM := Lib.hid (ifT rfl HM.out)
    by_cases hc4 : 24 < ((v1).length : Int)
    · replace HM := Lib.hid (ifT hc4 HM.out)
      have HK5 := Lib.hid hc4
      have hc4n := hc4; try norm_cast at hc4n
      obtain rfl := Option.some.inj HM.out
      go_wp2_with fail
      refine HC2.out.mono ?_; rintro e w' ⟨rfl, rfl⟩
      go_wp2_with fail
      try clear hc4 hc4n
      go_ret
      exact ⟨rfl, HD.out⟩
    · replace HM := Lib.hid (ifF hc4 HM.out)
      have hc4d := decide_eq_false hc4
      have HK5 := Lib.hid hc4
      have hc4n := hc4; try norm_cast at hc4n
      go_wp2_with fail
      refine HC2.out.mono ?_; rintro e w' ⟨rfl, rfl⟩
      go_wp2_with fail
      try clear hc4 hc4n hc4d
      obtain ⟨o6, ho, hm⟩ := obind HM.out
      replace HM := Lib.hid hm; have HL1 := Lib.hid ho; clear hm ho
      go_loopg [5] F (fun gg ux8 wr => ∃ (x7 : Int), ux8 = .int .i64 x7 ∧ Hid (Dr w wr) ∧ Hid (R3_Costs_L1 F (v0) (v1) gg x7 = some o6))
      case atStart => exact ⟨0, rfl, HD, HL1⟩
      case round =>
        obtain ⟨x7, rfl, HD, HL1⟩ := hrel
        rename World => W9
        cases gk with
        | zero => exact absurd ((R3_Costs_L1_0 ..).symm.trans HL1.out) (by intro h; cases h)
        | succ g1 =>
          replace HL1 := Lib.hid ((R3_Costs_L1_s ..).symm.trans HL1.out)
          by_cases hc10 : x7 < ((v1).length : Int)
          · replace HL1 := Lib.hid (ifT hc10 HL1.out)
            have HK11 := Lib.hid hc10
            obtain ⟨b12, hb, hm⟩ := obind HL1.out
            replace HL1 := Lib.hid hm; have HB13 := Lib.hid hb; clear hm hb
            obtain ⟨b14, hb, hm⟩ := obind HB13.out
            replace HB13 := Lib.hid hm; have HB15 := Lib.hid hb; clear hm hb
            obtain ⟨y16, hy17, hm⟩ := obind HB15.out
            replace HB15 := Lib.hid hm; clear hm
            obtain ⟨b18, o19, ea20, _, f21, f22, f23, f24, f25⟩ := ReadsC.ix (rdC (HD.out.below _) HR1.out) hy17
            cases ea20
            try simp only [Nat.zero_add, Nat.add_zero, Int.toNat_natCast, Int.toNat_zero, Int.toNat_one] at f23 f24 f25
            have HY26 := Lib.hid hy17; clear hy17
            obtain ⟨y29, hy27, hm⟩ := obind HB15.out
            replace HB15 := Lib.hid hm; clear hm
            have HC28 := R3_in_ok W9  hy27
            clear hy27
            replace HC28 := Lib.hid HC28
            cases y29
            · replace HB15 := Lib.hid (ifF Bool.false_ne_true HB15.out)
              obtain rfl := Option.some.inj HB15.out
              replace HB13 := Lib.hid (ifT (by first | rfl | trivial) HB13.out)
              obtain rfl := Option.some.inj HB13.out
              replace HL1 := Lib.hid (ifT (by first | rfl | trivial) HL1.out)
              obtain rfl := Option.some.inj HL1.out
              have hm := HM.out; try dsimp only at hm
              replace HM := Lib.hid hm; clear hm
              obtain rfl := Option.some.inj HM.out
              go_wp2_with fail
              refine HC28.out.mono ?_; rintro e w' ⟨rfl, rfl⟩
              go_wp2_with fail
              try clear hc10 f21 f22 f23 f24 f25
              go_ret
              exact ⟨rfl, HD.out⟩
            · replace HB15 := Lib.hid (ifT rfl HB15.out)
              obtain ⟨y30, hy31, hm⟩ := obind HB15.out
              replace HB15 := Lib.hid hm; clear hm
              obtain rfl := Option.some.inj (HY26.out.symm.trans hy31)
              clear hy31
              obtain ⟨y34, hy32, hm⟩ := obind HB15.out
              replace HB15 := Lib.hid hm; clear hm
              have HC33 := R3_in_ok W9  hy32
              clear hy32
              replace HC33 := Lib.hid HC33
              cases y34
              · replace HB15 := Lib.hid (ifF Bool.false_ne_true HB15.out)
                obtain rfl := Option.some.inj HB15.out
                replace HB13 := Lib.hid (ifT (by first | rfl | trivial) HB13.out)
                obtain rfl := Option.some.inj HB13.out
                replace HL1 := Lib.hid (ifT (by first | rfl | trivial) HL1.out)
                obtain rfl := Option.some.inj HL1.out
                have hm := HM.out; try dsimp only at hm
                replace HM := Lib.hid hm; clear hm
                obtain rfl := Option.some.inj HM.out
                go_wp2_with fail
                refine HC28.out.mono ?_; rintro e w' ⟨rfl, rfl⟩
                go_wp2_with fail
                refine HC33.out.mono ?_; rintro e w' ⟨rfl, rfl⟩
                go_wp2_with fail
                try clear hc10 f21 f22 f23 f24 f25
                go_ret
                exact ⟨rfl, HD.out⟩
              · replace HB15 := Lib.hid (ifT rfl HB15.out)
                obtain rfl := Option.some.inj HB15.out
                replace HB13 := Lib.hid (ifF (by first | exact Bool.false_ne_true | exact not_false) HB13.out)
                obtain ⟨y35, hy36, hm⟩ := obind HB13.out
                replace HB13 := Lib.hid hm; clear hm
                obtain rfl := Option.some.inj (HY26.out.symm.trans hy36)
                clear hy36
                obtain ⟨y39, hy37, hm⟩ := obind HB13.out
                replace HB13 := Lib.hid hm; clear hm
                have HC38 := R3_in_ok W9  hy37
                clear hy37
                replace HC38 := Lib.hid HC38
                cases y39
                · replace HB13 := Lib.hid (ifF Bool.false_ne_true HB13.out)
                  obtain rfl := Option.some.inj HB13.out
                  replace HL1 := Lib.hid (ifT (by first | rfl | trivial) HL1.out)
                  obtain rfl := Option.some.inj HL1.out
                  have hm := HM.out; try dsimp only at hm
                  replace HM := Lib.hid hm; clear hm
                  obtain rfl := Option.some.inj HM.out
                  go_wp2_with fail
                  refine HC28.out.mono ?_; rintro e w' ⟨rfl, rfl⟩
                  go_wp2_with fail
                  refine HC33.out.mono ?_; rintro e w' ⟨rfl, rfl⟩
                  go_wp2_with fail
                  refine HC38.out.mono ?_; rintro e w' ⟨rfl, rfl⟩
                  go_wp2_with fail
                  try clear hc10 f21 f22 f23 f24 f25
                  go_ret
                  exact ⟨rfl, HD.out⟩
                · replace HB13 := Lib.hid (ifT rfl HB13.out)
                  obtain rfl := Option.some.inj HB13.out
                  replace HL1 := Lib.hid (ifF (by first | exact Bool.false_ne_true | exact not_false) HL1.out)
                  try go_wp2_with fail
                  refine HC28.out.mono ?_; rintro e w' ⟨rfl, rfl⟩
                  try go_wp2_with fail
                  refine HC33.out.mono ?_; rintro e w' ⟨rfl, rfl⟩
                  try go_wp2_with fail
                  refine HC38.out.mono ?_; rintro e w' ⟨rfl, rfl⟩
                  try go_wp2_with fail
                  try clear hc10 f21 f22 f23 f24 f25
                  obtain ⟨y40, hy41, hm⟩ := obind HL1.out
                  replace HL1 := Lib.hid hm; clear hm
                  obtain ⟨b42, o43, ea44, _, f45, f46, f47, f48, f49⟩ := ReadsC.ix (rdC (HD.out.below _) HR1.out) hy41
                  cases ea44
                  try simp only [Nat.zero_add, Nat.add_zero, Int.toNat_natCast, Int.toNat_zero, Int.toNat_one] at f47 f48 f49
                  have HY50 := Lib.hid hy41; clear hy41
                  obtain ⟨y51, hy52, hm⟩ := obind HL1.out
                  replace HL1 := Lib.hid hm; clear hm
                  obtain rfl := Option.some.inj (HY50.out.symm.trans hy52)
                  clear hy52
                  rcases Bool.eq_false_or_eq_true (y40.1 == y40.2.1) with hc53 | hc53
                  · replace HL1 := Lib.hid (ifT hc53 HL1.out)
                    have HK54 := Lib.hid hc53
                    go_quiet (fail)
                    generalize hW : World.drewN W9 _ = W55
                    have hd : Dr W9 W55 := ⟨_, hW.symm⟩
                    clear hW
                    try clear f45 f46 f47 f48 f49 hc53
                    replace HD := Lib.hid (HD.out.trans hd); clear hd
                    obtain rfl := Option.some.inj HL1.out
                    have hm := HM.out; try dsimp only at hm
                    replace HM := Lib.hid hm; clear hm
                    obtain rfl := Option.some.inj HM.out
                    go_wp2_with fail
                    go_ret
                    exact ⟨rfl, HD.out⟩
                  · replace HL1 := Lib.hid (ifF (bF hc53) HL1.out)
                    have HK54 := Lib.hid hc53
                    go_quiet (fail)
                    generalize hW : World.drewN W9 _ = W56
                    have hd : Dr W9 W56 := ⟨_, hW.symm⟩
                    clear hW
                    try clear f45 f46 f47 f48 f49 hc53
                    replace HD := Lib.hid (HD.out.trans hd); clear hd
                    go_wp2_with fail
                    go_roundg g1
                    case measure => omega
                    case rel => exact ⟨(wrap64 (x7 + 1)), rfl, HD, HL1⟩
          · replace HL1 := Lib.hid (ifF hc10 HL1.out)
            have hc10d := decide_eq_false hc10
            have HK11 := Lib.hid hc10
            obtain rfl := Option.some.inj HL1.out
            have hm := HM.out; try dsimp only at hm
            replace HM := Lib.hid hm; clear hm
            obtain rfl := Option.some.inj HM.out
            go_wp2_with fail
            try clear hc10 hc10d
            go_ret
            exact ⟨rfl, HD.out⟩
def L3_MeanKarp_L1 (F : Nat) (v1 : List (Int × Int × Int)) (v2 : List Int) (v5 : Int) (v6 : Int) : Nat → (Int) → (Int) → (Int) → Option ((Int × Int × Int) ⊕ (Bool))
  | 0, _, _, _ => none
  | g+1, v8, v9, v10 => (if v10 < ((v2).length : Int) then if v10 < 40 then some true else some false else some false).bind fun b7 => if b7 = true then ((ix v2 v10).bind fun y8 => (L3_in F (y8) (0) ((wrap64 (((v1).length : Int) - 1)))).bind fun y9 => if y9 = true then (ix v2 v10).bind fun y10 => (ix v1 y10).bind fun y11 => ((if 0 < v10 then (ix v2 (wrap64 (v10 - 1))).bind fun y13 => (ix v1 y13).bind fun y14 => (ix v2 v10).bind fun y15 => (ix v1 y15).bind fun y16 => if (y14.2.1 != y16.1) = true then some true else some false else some false).bind fun b12 => if b12 = true then some (.inr (true)) else (((ix v2 0).bind fun y18 => (ix v1 y18).bind fun y19 => (ix v2 v10).bind fun y20 => (ix v1 y20).bind fun y21 => if (y19.1 == y21.2.1) = true then if (wrap64 ((wrap64 (v8 + y11.2.2)) * v6)) < (wrap64 (v5 * (wrap64 (v9 + 1)))) then some true else some false else some false).bind fun b17 => if b17 = true then some (.inr (false)) else L3_MeanKarp_L1 F v1 v2 v5 v6 g ((wrap64 (v8 + y11.2.2))) ((wrap64 (v9 + 1))) ((wrap64 (v10 + 1))))) else some (.inr (true))) else some (.inl (v8, v9, v10))
theorem L3_MeanKarp_L1_0 (F : Nat) (v1 : List (Int × Int × Int)) (v2 : List Int) (v5 : Int) (v6 : Int) (v8 : Int) (v9 : Int) (v10 : Int) : L3_MeanKarp_L1 F v1 v2 v5 v6 0 v8 v9 v10 = none := by rw [L3_MeanKarp_L1]
theorem L3_MeanKarp_L1_s (F g : Nat) (v1 : List (Int × Int × Int)) (v2 : List Int) (v5 : Int) (v6 : Int) (v8 : Int) (v9 : Int) (v10 : Int) : L3_MeanKarp_L1 F v1 v2 v5 v6 (g+1) v8 v9 v10 = ((if v10 < ((v2).length : Int) then if v10 < 40 then some true else some false else some false).bind fun b7 => if b7 = true then ((ix v2 v10).bind fun y8 => (L3_in F (y8) (0) ((wrap64 (((v1).length : Int) - 1)))).bind fun y9 => if y9 = true then (ix v2 v10).bind fun y10 => (ix v1 y10).bind fun y11 => ((if 0 < v10 then (ix v2 (wrap64 (v10 - 1))).bind fun y13 => (ix v1 y13).bind fun y14 => (ix v2 v10).bind fun y15 => (ix v1 y15).bind fun y16 => if (y14.2.1 != y16.1) = true then some true else some false else some false).bind fun b12 => if b12 = true then some (.inr (true)) else (((ix v2 0).bind fun y18 => (ix v1 y18).bind fun y19 => (ix v2 v10).bind fun y20 => (ix v1 y20).bind fun y21 => if (y19.1 == y21.2.1) = true then if (wrap64 ((wrap64 (v8 + y11.2.2)) * v6)) < (wrap64 (v5 * (wrap64 (v9 + 1)))) then some true else some false else some false).bind fun b17 => if b17 = true then some (.inr (false)) else L3_MeanKarp_L1 F v1 v2 v5 v6 g ((wrap64 (v8 + y11.2.2))) ((wrap64 (v9 + 1))) ((wrap64 (v10 + 1))))) else some (.inr (true))) else some (.inl (v8, v9, v10))) := by rw [L3_MeanKarp_L1]
def L3_MeanKarp (F : Nat) (v0 : Int) (v1 : List (Int × Int × Int)) (v2 : List Int) : Option (Bool) := (L3_meanFact F ).bind fun y1 => (if y1 = true then (mean_Least F (v0) (v1)).bind fun y2 => (if (y2.2.2 != 0) = true then (if (y2.1 == 0) = true then if (y2.2.1 == 0) = true then some true else some false else some false).bind fun b3 => some (b3) else (((L3_in F (y2.2.1) (1) (8)).bind fun y5 => if y5 = true then (L3_in F (y2.1) (0) (160)).bind fun y6 => if y6 = true then some false else some true else some true).bind fun b4 => if b4 = true then some (false) else (L3_MeanKarp_L1 F (v1) (v2) (y2.1) (y2.2.1) F (0) (0) (0)).bind fun o22 => match o22 with | .inr r => some (r) | .inl o22 => some (true))) else some (false))
set_option maxRecDepth 100000 in
set_option maxHeartbeats 1000000 in
theorem L3_MeanKarp_ok {F : Nat} {v0 : Int} {v1 : List (Int × Int × Int)} {A1 : Option Addr} {v2 : List Int} {A2 : Option Addr} {r : Bool} (w : World) (cap1 : Nat) (hr1 : ReadsC w w.heap.size A1 v1) (cap2 : Nat) (hr2 : ReadsI w w.heap.size A2 v2) (h : L3_MeanKarp F v0 v1 v2 = some r) :
    Calls Try.prog 3 #[.int .i64 v0, .slice A1 v1.length cap1, .slice A2 v2.length cap2] w fun e w' => e = .returned (.bool r) ∧ Below w.heap.size w w' := by
  have HR1 := Lib.hid hr1; clear hr1
  have HR2 := Lib.hid hr2; clear hr2
  have HD := Lib.hid (Below.refl w.heap.size w)
  have HOA := Lib.hid (HP.nil (W := w) (B := w.heap.size))
  unfold L3_MeanKarp at h
  have HM := Lib.hid h; clear h
  go_enter Try.func3, Try.ntmps3
  obtain ⟨y3, hy1, hm⟩ := obind HM.out
  replace HM := Lib.hid hm; clear hm
  have HC2 := L3_meanFact_ok w  hy1
  clear hy1
  replace HC2 := Lib.hid HC2
  go_wp2_with fail
  refine HC2.out.mono ?_; rintro e W4 ⟨rfl, hd⟩
  replace HOA := Lib.hid (HOA.out.below hd)
  replace HD := Lib.hid (HD.out.trans (hd.mono HD.out.size))
  clear hd
  cases y3
  · replace HM := Lib.hid (ifF Bool.false_ne_true HM.out)
    obtain rfl := Option.some.inj HM.out
    go_wp2_with fail
    go_ret
    exact ⟨rfl, HD.out⟩
  · replace HM := Lib.hid (ifT rfl HM.out)
    obtain ⟨⟨y7, y8, y9⟩, hy5, hm⟩ := obind HM.out
    dsimp only at hm
    replace HM := Lib.hid hm; clear hm
    have HC6 := mean_Least_ok W4 cap1 (rdC HD.out HR1.out) hy5
    clear hy5
    by_cases hz10 : y9 = 0
    · subst hz10
      rw [errV_zero] at HC6; replace HC6 := Lib.hid HC6
      go_wp2_with fail
      refine HC6.out.mono ?_; rintro e W11 ⟨rfl, hd⟩
      replace HOA := Lib.hid (HOA.out.below hd)
      replace HD := Lib.hid (HD.out.trans (hd.mono HD.out.size))
      clear hd
      replace HM := Lib.hid (ifF (by decide) HM.out)
      go_upto_region 7 with (fail)
      obtain ⟨b14, hb, hm⟩ := obind HM.out
      replace HM := Lib.hid hm; have HB15 := Lib.hid hb; clear hm hb
      go_cut [39] (fun uq wr => uq = .bool b14 ∧ Hid (Below W11.heap.size W11 wr))
      case first =>
        have HWC16 := Lib.hid (Below.refl W11.heap.size W11)
        obtain ⟨y19, hy17, hm⟩ := obind HB15.out
        replace HB15 := Lib.hid hm; clear hm
        have HC18 := L3_in_ok W11  hy17
        clear hy17
        replace HC18 := Lib.hid HC18
        cases y19
        · replace HB15 := Lib.hid (ifF Bool.false_ne_true HB15.out)
          cases Option.some.inj HB15.out
          go_wp2_with fail
          refine HC18.out.mono ?_; rintro e w' ⟨rfl, rfl⟩
          try go_wp2_with fail
          go_meet
          case rel => exact ⟨rfl, HWC16⟩
        · replace HB15 := Lib.hid (ifT rfl HB15.out)
          obtain ⟨y22, hy20, hm⟩ := obind HB15.out
          replace HB15 := Lib.hid hm; clear hm
          have HC21 := L3_in_ok W11  hy20
          clear hy20
          replace HC21 := Lib.hid HC21
          cases y22
          · replace HB15 := Lib.hid (ifF Bool.false_ne_true HB15.out)
            cases Option.some.inj HB15.out
            go_wp2_with fail
            refine HC18.out.mono ?_; rintro e w' ⟨rfl, rfl⟩
            go_wp2_with fail
            refine HC21.out.mono ?_; rintro e w' ⟨rfl, rfl⟩
            try go_wp2_with fail
            go_meet
            case rel => exact ⟨rfl, HWC16⟩
          · replace HB15 := Lib.hid (ifT rfl HB15.out)
            cases Option.some.inj HB15.out
            go_wp2_with fail
            refine HC18.out.mono ?_; rintro e w' ⟨rfl, rfl⟩
            go_wp2_with fail
            refine HC21.out.mono ?_; rintro e w' ⟨rfl, rfl⟩
            try go_wp2_with fail
            go_meet
            case rel => exact ⟨rfl, HWC16⟩
      case rest =>
        obtain ⟨rfl, HWC16⟩ := hcut
        rename World => W23
        have hd := HWC16.out
        replace HOA := Lib.hid (HOA.out.below hd)
        replace HD := Lib.hid (HD.out.trans (hd.mono HD.out.size))
        clear hd
        cases b14
        · replace HM := Lib.hid (ifF Bool.false_ne_true HM.out)
          go_wp2_with fail
          obtain ⟨o24, ho, hm⟩ := obind HM.out
          replace HM := Lib.hid hm; have HL1 := Lib.hid ho; clear hm ho
          go_loopg [11, 12, 13] F (fun gg ux28 ux29 ux30 wr => ∃ (x25 : Int) (x26 : Int) (x27 : Int), ux28 = .int .i64 x25 ∧ ux29 = .int .i64 x26 ∧ ux30 = .int .i64 x27 ∧ Hid (Below W23.heap.size W23 wr) ∧ Hid (L3_MeanKarp_L1 F (v1) (v2) (y7) (y8) gg x25 x26 x27 = some o24))
          case atStart => exact ⟨0, 0, 0, rfl, rfl, rfl, (Lib.hid (Below.refl _ _)), HL1⟩
          case round =>
            obtain ⟨x25, x26, x27, rfl, rfl, rfl, HW1, HL1⟩ := hrel
            rename World => W31
            have hd := HW1.out
            replace HOA := Lib.hid (HOA.out.below hd)
            replace HD := Lib.hid (HD.out.trans (hd.mono HD.out.size))
            clear hd
            cases gk with
            | zero => exact absurd ((L3_MeanKarp_L1_0 ..).symm.trans HL1.out) (by intro h; cases h)
            | succ g1 =>
              replace HL1 := Lib.hid ((L3_MeanKarp_L1_s ..).symm.trans HL1.out)
              obtain ⟨b32, hb, hm⟩ := obind HL1.out
              replace HL1 := Lib.hid hm; have HB33 := Lib.hid hb; clear hm hb
              by_cases hc34 : x27 < ((v2).length : Int)
              · replace HB33 := Lib.hid (ifT hc34 HB33.out)
                have HK35 := Lib.hid hc34
                by_cases hc36 : x27 < 40
                · replace HB33 := Lib.hid (ifT hc36 HB33.out)
                  have HK37 := Lib.hid hc36
                  obtain rfl := Option.some.inj HB33.out
                  replace HL1 := Lib.hid (ifT (by first | rfl | trivial) HL1.out)
                  obtain ⟨y38, hy39, hm⟩ := obind HL1.out
                  replace HL1 := Lib.hid hm; clear hm
                  obtain ⟨b40, o41, ea42, _, f43, f44, f45⟩ := ReadsI.ix (rdI HD.out HR2.out) hy39
                  cases ea42
                  try simp only [Nat.zero_add, Nat.add_zero, Int.toNat_natCast, Int.toNat_zero, Int.toNat_one] at f45
                  have HY47 := Lib.hid hy39; clear hy39
                  obtain ⟨y50, hy48, hm⟩ := obind HL1.out
                  replace HL1 := Lib.hid hm; clear hm
                  have HC49 := L3_in_ok W31  hy48
                  clear hy48
                  replace HC49 := Lib.hid HC49
                  cases y50
                  · replace HL1 := Lib.hid (ifF Bool.false_ne_true HL1.out)
                    obtain rfl := Option.some.inj HL1.out
                    have hm := HM.out; try dsimp only at hm
                    replace HM := Lib.hid hm; clear hm
                    obtain rfl := Option.some.inj HM.out
                    go_wp2_with fail
                    refine HC49.out.mono ?_; rintro e w' ⟨rfl, rfl⟩
                    go_wp2_with fail
                    try clear f43 f44 f45
                    go_ret
                    exact ⟨(by first | rfl | (refine congrArg (fun b => Ending.returned (Value.bool b)) ?_; first | (exact decide_eq_true (by omega)) | (exact decide_eq_false (by omega)))), HD.out⟩
                  · replace HL1 := Lib.hid (ifT rfl HL1.out)
                    obtain ⟨y51, hy52, hm⟩ := obind HL1.out
                    replace HL1 := Lib.hid hm; clear hm
                    obtain rfl := Option.some.inj (HY47.out.symm.trans hy52)
                    clear hy52
                    obtain ⟨y53, hy54, hm⟩ := obind HL1.out
                    replace HL1 := Lib.hid hm; clear hm
                    obtain ⟨b55, o56, ea57, _, f58, f59, f60, f61, f62⟩ := ReadsC.ix (rdC HD.out HR1.out) hy54
                    cases ea57
                    try simp only [Nat.zero_add, Nat.add_zero, Int.toNat_natCast, Int.toNat_zero, Int.toNat_one] at f60 f61 f62
                    have HY63 := Lib.hid hy54; clear hy54
                    try go_wp2_with fail
                    refine HC49.out.mono ?_; rintro e w' ⟨rfl, rfl⟩
                    try go_wp2_with fail
                    try clear hc34 hc36 f43 f44 f45 f58 f59 f60 f61 f62
                    obtain ⟨b64, hb, hm⟩ := obind HL1.out
                    replace HL1 := Lib.hid hm; have HB65 := Lib.hid hb; clear hm hb
                    by_cases hc66 : 0 < x27
                    · replace HB65 := Lib.hid (ifT hc66 HB65.out)
                      have HK67 := Lib.hid hc66
                      obtain ⟨y68, hy69, hm⟩ := obind HB65.out
                      replace HB65 := Lib.hid hm; clear hm
                      obtain ⟨b70, o71, ea72, _, f73, f74, f75⟩ := ReadsI.ix (rdI HD.out HR2.out) hy69
                      cases ea72
                      try simp only [Nat.zero_add, Nat.add_zero, Int.toNat_natCast, Int.toNat_zero, Int.toNat_one] at f75
                      have HY77 := Lib.hid hy69; clear hy69
                      obtain ⟨y78, hy79, hm⟩ := obind HB65.out
                      replace HB65 := Lib.hid hm; clear hm
                      obtain ⟨b80, o81, ea82, _, f83, f84, f85, f86, f87⟩ := ReadsC.ix (rdC HD.out HR1.out) hy79
                      cases ea82
                      try simp only [Nat.zero_add, Nat.add_zero, Int.toNat_natCast, Int.toNat_zero, Int.toNat_one] at f85 f86 f87
                      have HY88 := Lib.hid hy79; clear hy79
                      obtain ⟨y89, hy90, hm⟩ := obind HB65.out
                      replace HB65 := Lib.hid hm; clear hm
                      obtain ⟨b91, o92, ea93, _, f94, f95, f96⟩ := ReadsI.ix (rdI HD.out HR2.out) hy90
                      cases ea93
                      try simp only [Nat.zero_add, Nat.add_zero, Int.toNat_natCast, Int.toNat_zero, Int.toNat_one] at f96
                      have HY98 := Lib.hid hy90; clear hy90
                      obtain ⟨y99, hy100, hm⟩ := obind HB65.out
                      replace HB65 := Lib.hid hm; clear hm
                      obtain ⟨b101, o102, ea103, _, f104, f105, f106, f107, f108⟩ := ReadsC.ix (rdC HD.out HR1.out) hy100
                      cases ea103
                      try simp only [Nat.zero_add, Nat.add_zero, Int.toNat_natCast, Int.toNat_zero, Int.toNat_one] at f106 f107 f108
                      have HY109 := Lib.hid hy100; clear hy100
                      rcases Bool.eq_false_or_eq_true (y78.2.1 != y99.1) with hc110 | hc110
                      · replace HB65 := Lib.hid (ifT hc110 HB65.out)
                        have HK111 := Lib.hid hc110
                        obtain rfl := Option.some.inj HB65.out
                        replace HL1 := Lib.hid (ifT (by first | rfl | trivial) HL1.out)
                        go_quiet (fail)
                        generalize hW : World.drewN W31 _ = W112
                        have hd : Dr W31 W112 := ⟨_, hW.symm⟩
                        clear hW
                        try clear hc66 f73 f74 f75 f83 f84 f85 f86 f87 f94 f95 f96 f104 f105 f106 f107 f108 hc110
                        replace HOA := Lib.hid (HOA.out.below (hd.below _))
                        replace HD := Lib.hid (HD.out.trans ((hd.below _).mono HD.out.size))
                        replace HW1 := Lib.hid (HW1.out.trans ((hd.below _).mono HW1.out.size))
                        clear hd
                        obtain rfl := Option.some.inj HL1.out
                        have hm := HM.out; try dsimp only at hm
                        replace HM := Lib.hid hm; clear hm
                        obtain rfl := Option.some.inj HM.out
                        go_wp2_with fail
                        go_ret
                        exact ⟨rfl, HD.out⟩
                      · replace HB65 := Lib.hid (ifF (bF hc110) HB65.out)
                        have HK111 := Lib.hid hc110
                        obtain rfl := Option.some.inj HB65.out
                        replace HL1 := Lib.hid (ifF (by first | exact Bool.false_ne_true | exact not_false) HL1.out)
                        go_quiet (fail)
                        generalize hW : World.drewN W31 _ = W113
                        have hd : Dr W31 W113 := ⟨_, hW.symm⟩
                        clear hW
                        try clear hc66 f73 f74 f75 f83 f84 f85 f86 f87 f94 f95 f96 f104 f105 f106 f107 f108 hc110
                        replace HOA := Lib.hid (HOA.out.below (hd.below _))
                        replace HD := Lib.hid (HD.out.trans ((hd.below _).mono HD.out.size))
                        replace HW1 := Lib.hid (HW1.out.trans ((hd.below _).mono HW1.out.size))
                        clear hd
                        try go_wp2_with fail
                        obtain ⟨b114, hb, hm⟩ := obind HL1.out
                        replace HL1 := Lib.hid hm; have HB115 := Lib.hid hb; clear hm hb
                        obtain ⟨y116, hy117, hm⟩ := obind HB115.out
                        replace HB115 := Lib.hid hm; clear hm
                        obtain ⟨b118, o119, ea120, _, f121, f122, f123⟩ := ReadsI.ix (rdI HD.out HR2.out) hy117
                        cases ea120
                        try simp only [Nat.zero_add, Nat.add_zero, Int.toNat_natCast, Int.toNat_zero, Int.toNat_one] at f123
                        have HY125 := Lib.hid hy117; clear hy117
                        obtain ⟨y126, hy127, hm⟩ := obind HB115.out
                        replace HB115 := Lib.hid hm; clear hm
                        obtain ⟨b128, o129, ea130, _, f131, f132, f133, f134, f135⟩ := ReadsC.ix (rdC HD.out HR1.out) hy127
                        cases ea130
                        try simp only [Nat.zero_add, Nat.add_zero, Int.toNat_natCast, Int.toNat_zero, Int.toNat_one] at f133 f134 f135
                        have HY136 := Lib.hid hy127; clear hy127
                        obtain ⟨y137, hy138, hm⟩ := obind HB115.out
                        replace HB115 := Lib.hid hm; clear hm
                        obtain ⟨b139, o140, ea141, _, f142, f143, f144⟩ := ReadsI.ix (rdI HD.out HR2.out) hy138
                        cases ea141
                        try simp only [Nat.zero_add, Nat.add_zero, Int.toNat_natCast, Int.toNat_zero, Int.toNat_one] at f144
                        have HY146 := Lib.hid hy138; clear hy138
                        obtain ⟨y147, hy148, hm⟩ := obind HB115.out
                        replace HB115 := Lib.hid hm; clear hm
                        obtain ⟨b149, o150, ea151, _, f152, f153, f154, f155, f156⟩ := ReadsC.ix (rdC HD.out HR1.out) hy148
                        cases ea151
                        try simp only [Nat.zero_add, Nat.add_zero, Int.toNat_natCast, Int.toNat_zero, Int.toNat_one] at f154 f155 f156
                        have HY157 := Lib.hid hy148; clear hy148
                        rcases Bool.eq_false_or_eq_true (y126.1 == y147.2.1) with hc158 | hc158
                        · replace HB115 := Lib.hid (ifT hc158 HB115.out)
                          have HK159 := Lib.hid hc158
                          by_cases hc160 : (wrap64 ((wrap64 (x25 + y53.2.2)) * y8)) < (wrap64 (y7 * (wrap64 (x26 + 1))))
                          · replace HB115 := Lib.hid (ifT hc160 HB115.out)
                            have HK161 := Lib.hid hc160
                            obtain rfl := Option.some.inj HB115.out
                            replace HL1 := Lib.hid (ifT (by first | rfl | trivial) HL1.out)
                            go_quiet (fail)
                            generalize hW : World.drewN W113 _ = W162
                            have hd : Dr W113 W162 := ⟨_, hW.symm⟩
                            clear hW
                            try clear f121 f122 f123 f131 f132 f133 f134 f135 f142 f143 f144 f152 f153 f154 f155 f156 hc158 hc160
                            replace HOA := Lib.hid (HOA.out.below (hd.below _))
                            replace HD := Lib.hid (HD.out.trans ((hd.below _).mono HD.out.size))
                            replace HW1 := Lib.hid (HW1.out.trans ((hd.below _).mono HW1.out.size))
                            clear hd
                            obtain rfl := Option.some.inj HL1.out
                            have hm := HM.out; try dsimp only at hm
                            replace HM := Lib.hid hm; clear hm
                            obtain rfl := Option.some.inj HM.out
                            go_wp2_with fail
                            go_ret
                            exact ⟨rfl, HD.out⟩
                          · replace HB115 := Lib.hid (ifF hc160 HB115.out)
                            have hc160d := decide_eq_false hc160
                            have HK161 := Lib.hid hc160
                            obtain rfl := Option.some.inj HB115.out
                            replace HL1 := Lib.hid (ifF (by first | exact Bool.false_ne_true | exact not_false) HL1.out)
                            go_quiet (fail)
                            generalize hW : World.drewN W113 _ = W163
                            have hd : Dr W113 W163 := ⟨_, hW.symm⟩
                            clear hW
                            try clear f121 f122 f123 f131 f132 f133 f134 f135 f142 f143 f144 f152 f153 f154 f155 f156 hc158 hc160 hc160d
                            replace HOA := Lib.hid (HOA.out.below (hd.below _))
                            replace HD := Lib.hid (HD.out.trans ((hd.below _).mono HD.out.size))
                            replace HW1 := Lib.hid (HW1.out.trans ((hd.below _).mono HW1.out.size))
                            clear hd
                            go_wp2_with fail
                            go_roundg g1
                            case measure => omega
                            case rel => exact ⟨(wrap64 (x25 + y53.2.2)), (wrap64 (x26 + 1)), (wrap64 (x27 + 1)), rfl, rfl, rfl, HW1, HL1⟩
                        · replace HB115 := Lib.hid (ifF (bF hc158) HB115.out)
                          have HK159 := Lib.hid hc158
                          obtain rfl := Option.some.inj HB115.out
                          replace HL1 := Lib.hid (ifF (by first | exact Bool.false_ne_true | exact not_false) HL1.out)
                          go_quiet (fail)
                          generalize hW : World.drewN W113 _ = W164
                          have hd : Dr W113 W164 := ⟨_, hW.symm⟩
                          clear hW
                          try clear f121 f122 f123 f131 f132 f133 f134 f135 f142 f143 f144 f152 f153 f154 f155 f156 hc158
                          replace HOA := Lib.hid (HOA.out.below (hd.below _))
                          replace HD := Lib.hid (HD.out.trans ((hd.below _).mono HD.out.size))
                          replace HW1 := Lib.hid (HW1.out.trans ((hd.below _).mono HW1.out.size))
                          clear hd
                          go_wp2_with fail
                          go_roundg g1
                          case measure => omega
                          case rel => exact ⟨(wrap64 (x25 + y53.2.2)), (wrap64 (x26 + 1)), (wrap64 (x27 + 1)), rfl, rfl, rfl, HW1, HL1⟩
                    · replace HB65 := Lib.hid (ifF hc66 HB65.out)
                      have hc66d := decide_eq_false hc66
                      have HK67 := Lib.hid hc66
                      obtain rfl := Option.some.inj HB65.out
                      replace HL1 := Lib.hid (ifF (by first | exact Bool.false_ne_true | exact not_false) HL1.out)
                      go_quiet (fail)
                      generalize hW : World.drewN W31 _ = W165
                      have hd : Dr W31 W165 := ⟨_, hW.symm⟩
                      clear hW
                      try clear hc66 hc66d
                      replace HOA := Lib.hid (HOA.out.below (hd.below _))
                      replace HD := Lib.hid (HD.out.trans ((hd.below _).mono HD.out.size))
                      replace HW1 := Lib.hid (HW1.out.trans ((hd.below _).mono HW1.out.size))
                      clear hd
                      try go_wp2_with fail
                      obtain ⟨b166, hb, hm⟩ := obind HL1.out
                      replace HL1 := Lib.hid hm; have HB167 := Lib.hid hb; clear hm hb
                      obtain ⟨y168, hy169, hm⟩ := obind HB167.out
                      replace HB167 := Lib.hid hm; clear hm
                      obtain ⟨b170, o171, ea172, _, f173, f174, f175⟩ := ReadsI.ix (rdI HD.out HR2.out) hy169
                      cases ea172
                      try simp only [Nat.zero_add, Nat.add_zero, Int.toNat_natCast, Int.toNat_zero, Int.toNat_one] at f175
                      have HY177 := Lib.hid hy169; clear hy169
                      obtain ⟨y178, hy179, hm⟩ := obind HB167.out
                      replace HB167 := Lib.hid hm; clear hm
                      obtain ⟨b180, o181, ea182, _, f183, f184, f185, f186, f187⟩ := ReadsC.ix (rdC HD.out HR1.out) hy179
                      cases ea182
                      try simp only [Nat.zero_add, Nat.add_zero, Int.toNat_natCast, Int.toNat_zero, Int.toNat_one] at f185 f186 f187
                      have HY188 := Lib.hid hy179; clear hy179
                      obtain ⟨y189, hy190, hm⟩ := obind HB167.out
                      replace HB167 := Lib.hid hm; clear hm
                      obtain ⟨b191, o192, ea193, _, f194, f195, f196⟩ := ReadsI.ix (rdI HD.out HR2.out) hy190
                      cases ea193
                      try simp only [Nat.zero_add, Nat.add_zero, Int.toNat_natCast, Int.toNat_zero, Int.toNat_one] at f196
                      have HY198 := Lib.hid hy190; clear hy190
                      obtain ⟨y199, hy200, hm⟩ := obind HB167.out
                      replace HB167 := Lib.hid hm; clear hm
                      obtain ⟨b201, o202, ea203, _, f204, f205, f206, f207, f208⟩ := ReadsC.ix (rdC HD.out HR1.out) hy200
                      cases ea203
                      try simp only [Nat.zero_add, Nat.add_zero, Int.toNat_natCast, Int.toNat_zero, Int.toNat_one] at f206 f207 f208
                      have HY209 := Lib.hid hy200; clear hy200
                      rcases Bool.eq_false_or_eq_true (y178.1 == y199.2.1) with hc210 | hc210
                      · replace HB167 := Lib.hid (ifT hc210 HB167.out)
                        have HK211 := Lib.hid hc210
                        by_cases hc212 : (wrap64 ((wrap64 (x25 + y53.2.2)) * y8)) < (wrap64 (y7 * (wrap64 (x26 + 1))))
                        · replace HB167 := Lib.hid (ifT hc212 HB167.out)
                          have HK213 := Lib.hid hc212
                          obtain rfl := Option.some.inj HB167.out
                          replace HL1 := Lib.hid (ifT (by first | rfl | trivial) HL1.out)
                          go_quiet (fail)
                          generalize hW : World.drewN W165 _ = W214
                          have hd : Dr W165 W214 := ⟨_, hW.symm⟩
                          clear hW
                          try clear f173 f174 f175 f183 f184 f185 f186 f187 f194 f195 f196 f204 f205 f206 f207 f208 hc210 hc212
                          replace HOA := Lib.hid (HOA.out.below (hd.below _))
                          replace HD := Lib.hid (HD.out.trans ((hd.below _).mono HD.out.size))
                          replace HW1 := Lib.hid (HW1.out.trans ((hd.below _).mono HW1.out.size))
                          clear hd
                          obtain rfl := Option.some.inj HL1.out
                          have hm := HM.out; try dsimp only at hm
                          replace HM := Lib.hid hm; clear hm
                          obtain rfl := Option.some.inj HM.out
                          go_wp2_with fail
                          go_ret
                          exact ⟨rfl, HD.out⟩
                        · replace HB167 := Lib.hid (ifF hc212 HB167.out)
                          have hc212d := decide_eq_false hc212
                          have HK213 := Lib.hid hc212
                          obtain rfl := Option.some.inj HB167.out
                          replace HL1 := Lib.hid (ifF (by first | exact Bool.false_ne_true | exact not_false) HL1.out)
                          go_quiet (fail)
                          generalize hW : World.drewN W165 _ = W215
                          have hd : Dr W165 W215 := ⟨_, hW.symm⟩
                          clear hW
                          try clear f173 f174 f175 f183 f184 f185 f186 f187 f194 f195 f196 f204 f205 f206 f207 f208 hc210 hc212 hc212d
                          replace HOA := Lib.hid (HOA.out.below (hd.below _))
                          replace HD := Lib.hid (HD.out.trans ((hd.below _).mono HD.out.size))
                          replace HW1 := Lib.hid (HW1.out.trans ((hd.below _).mono HW1.out.size))
                          clear hd
                          go_wp2_with fail
                          go_roundg g1
                          case measure => omega
                          case rel => exact ⟨(wrap64 (x25 + y53.2.2)), (wrap64 (x26 + 1)), (wrap64 (x27 + 1)), rfl, rfl, rfl, HW1, HL1⟩
                      · replace HB167 := Lib.hid (ifF (bF hc210) HB167.out)
                        have HK211 := Lib.hid hc210
                        obtain rfl := Option.some.inj HB167.out
                        replace HL1 := Lib.hid (ifF (by first | exact Bool.false_ne_true | exact not_false) HL1.out)
                        go_quiet (fail)
                        generalize hW : World.drewN W165 _ = W216
                        have hd : Dr W165 W216 := ⟨_, hW.symm⟩
                        clear hW
                        try clear f173 f174 f175 f183 f184 f185 f186 f187 f194 f195 f196 f204 f205 f206 f207 f208 hc210
                        replace HOA := Lib.hid (HOA.out.below (hd.below _))
                        replace HD := Lib.hid (HD.out.trans ((hd.below _).mono HD.out.size))
                        replace HW1 := Lib.hid (HW1.out.trans ((hd.below _).mono HW1.out.size))
                        clear hd
                        go_wp2_with fail
                        go_roundg g1
                        case measure => omega
                        case rel => exact ⟨(wrap64 (x25 + y53.2.2)), (wrap64 (x26 + 1)), (wrap64 (x27 + 1)), rfl, rfl, rfl, HW1, HL1⟩
                · replace HB33 := Lib.hid (ifF hc36 HB33.out)
                  have hc36d := decide_eq_false hc36
                  have HK37 := Lib.hid hc36
                  obtain rfl := Option.some.inj HB33.out
                  replace HL1 := Lib.hid (ifF (by first | exact Bool.false_ne_true | exact not_false) HL1.out)
                  obtain rfl := Option.some.inj HL1.out
                  have hm := HM.out; try dsimp only at hm
                  replace HM := Lib.hid hm; clear hm
                  obtain rfl := Option.some.inj HM.out
                  go_wp2_with fail
                  go_ret
                  exact ⟨(by first | rfl | (refine congrArg (fun b => Ending.returned (Value.bool b)) ?_; first | (exact decide_eq_true (by omega)) | (exact decide_eq_false (by omega)))), HD.out⟩
              · replace HB33 := Lib.hid (ifF hc34 HB33.out)
                have hc34d := decide_eq_false hc34
                have HK35 := Lib.hid hc34
                obtain rfl := Option.some.inj HB33.out
                replace HL1 := Lib.hid (ifF (by first | exact Bool.false_ne_true | exact not_false) HL1.out)
                obtain rfl := Option.some.inj HL1.out
                have hm := HM.out; try dsimp only at hm
                replace HM := Lib.hid hm; clear hm
                obtain rfl := Option.some.inj HM.out
                go_wp2_with fail
                go_ret
                exact ⟨(by first | rfl | (refine congrArg (fun b => Ending.returned (Value.bool b)) ?_; first | (exact decide_eq_true (by omega)) | (exact decide_eq_false (by omega)))), HD.out⟩
        · replace HM := Lib.hid (ifT rfl HM.out)
          obtain rfl := Option.some.inj HM.out
          go_wp2_with fail
          go_ret
          exact ⟨rfl, HD.out⟩
    · rw [errV_pos _ hz10] at HC6; replace HC6 := Lib.hid HC6
      go_wp2_with fail
      refine HC6.out.mono ?_; rintro e W12 ⟨rfl, hd⟩
      replace HOA := Lib.hid (HOA.out.below hd)
      replace HD := Lib.hid (HD.out.trans (hd.mono HD.out.size))
      clear hd
      have HZ13 := Lib.hid hz10; clear hz10
      replace HM := Lib.hid (ifT (bne_iff_ne.2 HZ13.out) HM.out)
      obtain ⟨b217, hb, hm⟩ := obind HM.out
      replace HM := Lib.hid hm; have HB218 := Lib.hid hb; clear hm hb
      rcases Bool.eq_false_or_eq_true (y7 == 0) with hc219 | hc219
      · replace HB218 := Lib.hid (ifT hc219 HB218.out)
        have HK220 := Lib.hid hc219
        rcases Bool.eq_false_or_eq_true (y8 == 0) with hc221 | hc221
        · replace HB218 := Lib.hid (ifT hc221 HB218.out)
          have HK222 := Lib.hid hc221
          obtain rfl := Option.some.inj HB218.out
          obtain rfl := Option.some.inj HM.out
          go_wp2_with fail
          go_ret
          exact ⟨(by first | rfl | (refine congrArg (fun b => Ending.returned (Value.bool b)) ?_; first | (exact decide_eq_true (by omega)) | (exact decide_eq_false (by omega)))), HD.out⟩
        · replace HB218 := Lib.hid (ifF (bF hc221) HB218.out)
          have HK222 := Lib.hid hc221
          obtain rfl := Option.some.inj HB218.out
          obtain rfl := Option.some.inj HM.out
          go_wp2_with fail
          go_ret
          exact ⟨(by first | rfl | (refine congrArg (fun b => Ending.returned (Value.bool b)) ?_; first | (exact decide_eq_true (by omega)) | (exact decide_eq_false (by omega)))), HD.out⟩
      · replace HB218 := Lib.hid (ifF (bF hc219) HB218.out)
        have HK220 := Lib.hid hc219
        obtain rfl := Option.some.inj HB218.out
        obtain rfl := Option.some.inj HM.out
        go_wp2_with fail
        go_ret
        exact ⟨(by first | rfl | (refine congrArg (fun b => Ending.returned (Value.bool b)) ?_; first | (exact decide_eq_true (by omega)) | (exact decide_eq_false (by omega)))), HD.out⟩
end Go.Proofs.Ythgejnjfikljcaa
