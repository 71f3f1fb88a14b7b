import Derived.Test.YtekfgkeimlidhaaGreatDoorTl
set_option linter.all false
set_option maxRecDepth 100000
namespace Go.Proofs.YtekfgkeimlidhaaGreatDoor
open Go.RowKit
def core_Within (F : Nat) (v0 : Int) (v1 : Int) (v2 : Int) : Option (Bool) := (if v1 ≤ v0 then if v0 ≤ v2 then some true else some false else some false).bind fun b1 => some (b1)
set_option maxRecDepth 100000 in
set_option maxHeartbeats 1000000 in
theorem core_Within_ok {F : Nat} {v0 : Int} {v1 : Int} {v2 : Int} {r : Bool} (w : World)  (h : core_Within F v0 v1 v2 = some r) :
    Calls Tryz.prog 79 #[.int .i64 v0, .int .i64 v1, .int .i64 v2] w fun e w' => e = .returned (.bool r) ∧ w = w' := by
  unfold core_Within at h
  have HM := Lib.hid h; clear h
  go_enter Tryz.func79, Tryz.ntmps79
  obtain ⟨b1, hb, hm⟩ := obind HM.out
  replace HM := Lib.hid hm; have HB2 := Lib.hid hb; clear hm hb
  by_cases hc3 : v1 ≤ v0
  · replace HB2 := Lib.hid (ifT hc3 HB2.out)
    by_cases hc4 : v0 ≤ v2
    · replace HB2 := Lib.hid (ifT hc4 HB2.out)
      obtain rfl := Option.some.inj HB2.out
      obtain rfl := Option.some.inj HM.out
      go_wp2_with fail
      go_ret
      exact ⟨(by first | rfl | (refine congrArg (fun b => Ending.returned (Value.bool b)) ?_; first | (exact decide_eq_true (by omega)) | (exact decide_eq_false (by omega)))), rfl⟩
    · replace HB2 := Lib.hid (ifF hc4 HB2.out)
      have hc4d := decide_eq_false hc4
      obtain rfl := Option.some.inj HB2.out
      obtain rfl := Option.some.inj HM.out
      go_wp2_with fail
      go_ret
      exact ⟨(by first | rfl | (refine congrArg (fun b => Ending.returned (Value.bool b)) ?_; first | (exact decide_eq_true (by omega)) | (exact decide_eq_false (by omega)))), rfl⟩
  · replace HB2 := Lib.hid (ifF hc3 HB2.out)
    have hc3d := decide_eq_false hc3
    obtain rfl := Option.some.inj HB2.out
    obtain rfl := Option.some.inj HM.out
    go_wp2_with fail
    go_ret
    exact ⟨(by first | rfl | (refine congrArg (fun b => Ending.returned (Value.bool b)) ?_; first | (exact decide_eq_true (by omega)) | (exact decide_eq_false (by omega)))), rfl⟩

def core_All_L1 (F : Nat) (v0 : List Int) (v1 : Int) (v2 : Int) : Nat → (Int) → Option ((Unit) ⊕ (Bool))
  | 0, _ => none
  | g+1, j => if j < ((v0).length : Int) then (ix v0 j).bind fun y => ((core_Within F (y) (v1) (v2)).bind fun y1 => if y1 = true then core_All_L1 F v0 v1 v2 g (wrap64 (j + 1)) else some (.inr (false))) else some (.inl ())
theorem core_All_L1_0 (F : Nat) (v0 : List Int) (v1 : Int) (v2 : Int) (j : Int) : core_All_L1 F v0 v1 v2 0 j = none := by rw [core_All_L1]
theorem core_All_L1_s (F g : Nat) (v0 : List Int) (v1 : Int) (v2 : Int) (j : Int) : core_All_L1 F v0 v1 v2 (g+1) j = (if j < ((v0).length : Int) then (ix v0 j).bind fun y => ((core_Within F (y) (v1) (v2)).bind fun y1 => if y1 = true then core_All_L1 F v0 v1 v2 g (wrap64 (j + 1)) else some (.inr (false))) else some (.inl ())) := by rw [core_All_L1]
def core_All (F : Nat) (v0 : List Int) (v1 : Int) (v2 : Int) : Option (Bool) := (core_All_L1 F (v0) (v1) (v2) F (0)).bind fun o2 => match o2 with | .inr r => some (r) | .inl o2 => some (true)
set_option maxRecDepth 100000 in
set_option maxHeartbeats 1000000 in
theorem core_All_ok {F : Nat} {v0 : List Int} {A0 : Option Addr} {v1 : Int} {v2 : Int} {r : Bool} (w : World) (cap0 : Nat) (hr0 : ReadsI w w.heap.size A0 v0) (h : core_All F v0 v1 v2 = some r) :
    Calls Tryz.prog 61 #[.slice A0 v0.length cap0, .int .i64 v1, .int .i64 v2] w fun e w' => e = .returned (.bool r) ∧ w = w' := by
  have HR0 := Lib.hid hr0; clear hr0
  unfold core_All at h
  have HM := Lib.hid h; clear h
  go_enter Tryz.func61, Tryz.ntmps61
  go_wp2_with fail
  obtain ⟨o1, ho, hm⟩ := obind HM.out
  replace HM := Lib.hid hm; have HL1 := Lib.hid ho; clear hm ho
  go_loopg [11] F (fun gg uj wr => ∃ (j2 : Int), uj = .int .i64 j2 ∧ w = wr ∧ Hid (core_All_L1 F (v0) (v1) (v2) gg j2 = some o1))
  case atStart => exact ⟨0, rfl, rfl, HL1⟩
  case round =>
    obtain ⟨j2, rfl, rfl, HL1⟩ := hrel
    cases gk with
    | zero => exact absurd ((core_All_L1_0 ..).symm.trans HL1.out) (by intro h; cases h)
    | succ g1 =>
      replace HL1 := Lib.hid ((core_All_L1_s ..).symm.trans HL1.out)
      by_cases hc3 : j2 < ((v0).length : Int)
      · replace HL1 := Lib.hid (ifT hc3 HL1.out)
        obtain ⟨y4, hy5, hm⟩ := obind HL1.out
        replace HL1 := Lib.hid hm; clear hm
        obtain ⟨b6, o7, ea8, _, f9, f10, f11⟩ := ReadsI.ix HR0.out hy5
        cases ea8
        try simp only [Nat.zero_add, Nat.add_zero, Int.toNat_natCast, Int.toNat_zero, Int.toNat_one] at f11
        have HY13 := Lib.hid hy5; clear hy5
        obtain ⟨y16, hy14, hm⟩ := obind HL1.out
        replace HL1 := Lib.hid hm; clear hm
        have HC15 := core_Within_ok w  hy14
        clear hy14
        replace HC15 := Lib.hid HC15
        cases y16
        · replace HL1 := Lib.hid (ifF Bool.false_ne_true HL1.out)
          obtain rfl := Option.some.inj HL1.out
          have hm := HM.out; try dsimp only at hm
          replace HM := Lib.hid hm; clear hm
          obtain rfl := Option.some.inj HM.out
          go_wp2_with fail
          refine HC15.out.mono ?_; rintro e w' ⟨rfl, rfl⟩
          go_wp2_with fail
          try clear f9 f10 f11
          go_ret
          exact ⟨(by first | rfl | (refine congrArg (fun b => Ending.returned (Value.bool b)) ?_; first | (exact decide_eq_true (by omega)) | (exact decide_eq_false (by omega)))), rfl⟩
        · replace HL1 := Lib.hid (ifT rfl HL1.out)
          go_wp2_with fail
          refine HC15.out.mono ?_; rintro e w' ⟨rfl, rfl⟩
          go_wp2_with fail
          try clear hc3 f9 f10 f11
          go_roundg g1
          case measure => omega
          case rel => exact ⟨(wrap64 (j2 + 1)), rfl, rfl, HL1⟩
      · replace HL1 := Lib.hid (ifF hc3 HL1.out)
        have hc3d := decide_eq_false hc3
        obtain rfl := Option.some.inj HL1.out
        have hm := HM.out; try dsimp only at hm
        replace HM := Lib.hid hm; clear hm
        obtain rfl := Option.some.inj HM.out
        go_wp2_with fail
        go_ret
        exact ⟨(by first | rfl | (refine congrArg (fun b => Ending.returned (Value.bool b)) ?_; first | (exact decide_eq_true (by omega)) | (exact decide_eq_false (by omega)))), rfl⟩








def R1_Goes_L1 (F : Nat) (v0 : List (Int × Int)) (v1 : Int) (v2 : Int) : Nat → (Int) → Option ((Int) ⊕ (Bool))
  | 0, _ => none
  | g+1, v4 => if v4 < ((v0).length : Int) then (((ix v0 v4).bind fun y2 => if (y2.1 == v1) = true then (ix v0 v4).bind fun y3 => if (y3.2 == v2) = true then some true else some false else some false).bind fun b1 => if b1 = true then some (.inr (true)) else R1_Goes_L1 F v0 v1 v2 g ((wrap64 (v4 + 1)))) else some (.inl (v4))
theorem R1_Goes_L1_0 (F : Nat) (v0 : List (Int × Int)) (v1 : Int) (v2 : Int) (v4 : Int) : R1_Goes_L1 F v0 v1 v2 0 v4 = none := by rw [R1_Goes_L1]
theorem R1_Goes_L1_s (F g : Nat) (v0 : List (Int × Int)) (v1 : Int) (v2 : Int) (v4 : Int) : R1_Goes_L1 F v0 v1 v2 (g+1) v4 = (if v4 < ((v0).length : Int) then (((ix v0 v4).bind fun y2 => if (y2.1 == v1) = true then (ix v0 v4).bind fun y3 => if (y3.2 == v2) = true then some true else some false else some false).bind fun b1 => if b1 = true then some (.inr (true)) else R1_Goes_L1 F v0 v1 v2 g ((wrap64 (v4 + 1)))) else some (.inl (v4))) := by rw [R1_Goes_L1]
def R1_Goes (F : Nat) (v0 : List (Int × Int)) (v1 : Int) (v2 : Int) : Option (Bool) := (R1_Goes_L1 F (v0) (v1) (v2) F (0)).bind fun o4 => match o4 with | .inr r => some (r) | .inl o4 => some (false)
set_option maxRecDepth 100000 in
set_option maxHeartbeats 1000000 in
theorem R1_Goes_ok {F : Nat} {v0 : List (Int × Int)} {A0 : Option Addr} {v1 : Int} {v2 : Int} {r : Bool} (w : World) (cap0 : Nat) (hr0 : ReadsL w w.heap.size A0 v0) (h : R1_Goes F v0 v1 v2 = some r) :
    Calls Tryz.prog 72 #[.slice A0 v0.length cap0, .int .i64 v1, .int .i64 v2] w fun e w' => e = .returned (.bool r) ∧ w = w' := by
  have HR0 := Lib.hid hr0; clear hr0
  unfold R1_Goes at h
  have HM := Lib.hid h; clear h
  go_enter Tryz.func72, Tryz.ntmps72
  go_wp2_with fail
  obtain ⟨o1, ho, hm⟩ := obind HM.out
  replace HM := Lib.hid hm; have HL1 := Lib.hid ho; clear hm ho
  go_loopg [7] F (fun gg u3 wr => ∃ (x2 : Int), u3 = .int .i64 x2 ∧ w = wr ∧ Hid (R1_Goes_L1 F (v0) (v1) (v2) gg x2 = some o1))
  case atStart => exact ⟨0, rfl, rfl, HL1⟩
  case round =>
    obtain ⟨x2, rfl, rfl, HL1⟩ := hrel
    cases gk with
    | zero => exact absurd ((R1_Goes_L1_0 ..).symm.trans HL1.out) (by intro h; cases h)
    | succ g1 =>
      replace HL1 := Lib.hid ((R1_Goes_L1_s ..).symm.trans HL1.out)
      by_cases hc4 : x2 < ((v0).length : Int)
      · replace HL1 := Lib.hid (ifT hc4 HL1.out)
        obtain ⟨b5, hb, hm⟩ := obind HL1.out
        replace HL1 := Lib.hid hm; have HB6 := Lib.hid hb; clear hm hb
        obtain ⟨y7, hy8, hm⟩ := obind HB6.out
        replace HB6 := Lib.hid hm; clear hm
        obtain ⟨b9, o10, ea11, _, f12, f13, f14, f15⟩ := ReadsL.ix HR0.out hy8
        cases ea11
        try simp only [Nat.zero_add, Nat.add_zero, Int.toNat_natCast, Int.toNat_zero, Int.toNat_one] at f14 f15
        have HY16 := Lib.hid hy8; clear hy8
        rcases Bool.eq_false_or_eq_true (y7.1 == v1) with hc17 | hc17
        · replace HB6 := Lib.hid (ifT hc17 HB6.out)
          obtain ⟨y18, hy19, hm⟩ := obind HB6.out
          replace HB6 := Lib.hid hm; clear hm
          obtain rfl := Option.some.inj (HY16.out.symm.trans hy19)
          clear hy19
          rcases Bool.eq_false_or_eq_true (y7.2 == v2) with hc20 | hc20
          · replace HB6 := Lib.hid (ifT hc20 HB6.out)
            obtain rfl := Option.some.inj HB6.out
            replace HL1 := Lib.hid (ifT rfl HL1.out)
            obtain rfl := Option.some.inj HL1.out
            have hm := HM.out; try dsimp only at hm
            replace HM := Lib.hid hm; clear hm
            obtain rfl := Option.some.inj HM.out
            go_wp2_with fail
            try clear f12 f13 f14 f15
            go_ret
            exact ⟨(by first | rfl | (refine congrArg (fun b => Ending.returned (Value.bool b)) ?_; first | (exact decide_eq_true (by omega)) | (exact decide_eq_false (by omega)))), rfl⟩
          · replace HB6 := Lib.hid (ifF (bF hc20) HB6.out)
            obtain rfl := Option.some.inj HB6.out
            replace HL1 := Lib.hid (ifF Bool.false_ne_true HL1.out)
            go_wp2_with fail
            try clear hc4 f12 f13 f14 f15 hc17 hc20
            go_roundg g1
            case measure => omega
            case rel => exact ⟨(wrap64 (x2 + 1)), rfl, rfl, HL1⟩
        · replace HB6 := Lib.hid (ifF (bF hc17) HB6.out)
          obtain rfl := Option.some.inj HB6.out
          replace HL1 := Lib.hid (ifF Bool.false_ne_true HL1.out)
          go_wp2_with fail
          try clear hc4 f12 f13 f14 f15 hc17
          go_roundg g1
          case measure => omega
          case rel => exact ⟨(wrap64 (x2 + 1)), rfl, rfl, HL1⟩
      · replace HL1 := Lib.hid (ifF hc4 HL1.out)
        have hc4d := decide_eq_false hc4
        obtain rfl := Option.some.inj HL1.out
        have hm := HM.out; try dsimp only at hm
        replace HM := Lib.hid hm; clear hm
        obtain rfl := Option.some.inj HM.out
        go_wp2_with fail
        go_ret
        exact ⟨(by first | rfl | (refine congrArg (fun b => Ending.returned (Value.bool b)) ?_; first | (exact decide_eq_true (by omega)) | (exact decide_eq_false (by omega)))), rfl⟩

def R1_Beside (F : Nat) (v0 : List (Int × Int)) (v1 : Int) (v2 : Int) : Option (Bool) := ((R1_Goes F (v0) (v1) (v2)).bind fun y2 => if y2 = true then some true else (R1_Goes F (v0) (v2) (v1)).bind fun y3 => if y3 = true then some true else some false).bind fun b1 => some (b1)
set_option maxRecDepth 100000 in
set_option maxHeartbeats 1000000 in
theorem R1_Beside_ok {F : Nat} {v0 : List (Int × Int)} {A0 : Option Addr} {v1 : Int} {v2 : Int} {r : Bool} (w : World) (cap0 : Nat) (hr0 : ReadsL w w.heap.size A0 v0) (h : R1_Beside F v0 v1 v2 = some r) :
    Calls Tryz.prog 48 #[.slice A0 v0.length cap0, .int .i64 v1, .int .i64 v2] w fun e w' => e = .returned (.bool r) ∧ w = w' := by
  have HR0 := Lib.hid hr0; clear hr0
  unfold R1_Beside at h
  have HM := Lib.hid h; clear h
  go_enter Tryz.func48, Tryz.ntmps48
  obtain ⟨b1, hb, hm⟩ := obind HM.out
  replace HM := Lib.hid hm; have HB2 := Lib.hid hb; clear hm hb
  obtain ⟨y5, hy3, hm⟩ := obind HB2.out
  replace HB2 := Lib.hid hm; clear hm
  have HC4 := R1_Goes_ok w cap0 HR0.out hy3
  clear hy3
  replace HC4 := Lib.hid HC4
  cases y5
  · replace HB2 := Lib.hid (ifF Bool.false_ne_true HB2.out)
    obtain ⟨y8, hy6, hm⟩ := obind HB2.out
    replace HB2 := Lib.hid hm; clear hm
    have HC7 := R1_Goes_ok w cap0 HR0.out hy6
    clear hy6
    replace HC7 := Lib.hid HC7
    cases y8
    · replace HB2 := Lib.hid (ifF Bool.false_ne_true HB2.out)
      obtain rfl := Option.some.inj HB2.out
      obtain rfl := Option.some.inj HM.out
      go_wp2_with fail
      refine HC4.out.mono ?_; rintro e w' ⟨rfl, rfl⟩
      go_wp2_with fail
      refine HC7.out.mono ?_; rintro e w' ⟨rfl, rfl⟩
      go_wp2_with fail
      go_ret
      exact ⟨rfl, rfl⟩
    · replace HB2 := Lib.hid (ifT rfl HB2.out)
      obtain rfl := Option.some.inj HB2.out
      obtain rfl := Option.some.inj HM.out
      go_wp2_with fail
      refine HC4.out.mono ?_; rintro e w' ⟨rfl, rfl⟩
      go_wp2_with fail
      refine HC7.out.mono ?_; rintro e w' ⟨rfl, rfl⟩
      go_wp2_with fail
      go_ret
      exact ⟨rfl, rfl⟩
  · replace HB2 := Lib.hid (ifT rfl HB2.out)
    obtain rfl := Option.some.inj HB2.out
    obtain rfl := Option.some.inj HM.out
    go_wp2_with fail
    refine HC4.out.mono ?_; rintro e w' ⟨rfl, rfl⟩
    go_wp2_with fail
    go_ret
    exact ⟨rfl, rfl⟩




















end Go.Proofs.YtekfgkeimlidhaaGreatDoor
