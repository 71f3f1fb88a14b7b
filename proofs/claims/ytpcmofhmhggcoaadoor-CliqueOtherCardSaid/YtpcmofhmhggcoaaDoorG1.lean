import Derived.Test.YtpcmofhmhggcoaaDoorGen
set_option linter.all false
set_option maxRecDepth 100000
namespace Go.Proofs.YtpcmofhmhggcoaaDoor
open Go.RowKit
def R1_Has_L1 (F : Nat) (v0 : List Int) (v1 : Int) : Nat → (Int) → Option ((Int) ⊕ (Bool))
  | 0, _ => none
  | g+1, v3 => if v3 < ((v0).length : Int) then ((ix v0 v3).bind fun y1 => if (y1 == v1) = true then some (.inr (true)) else R1_Has_L1 F v0 v1 g ((wrap64 (v3 + 1)))) else some (.inl (v3))
theorem R1_Has_L1_0 (F : Nat) (v0 : List Int) (v1 : Int) (v3 : Int) : R1_Has_L1 F v0 v1 0 v3 = none := by rw [R1_Has_L1]
theorem R1_Has_L1_s (F g : Nat) (v0 : List Int) (v1 : Int) (v3 : Int) : R1_Has_L1 F v0 v1 (g+1) v3 = (if v3 < ((v0).length : Int) then ((ix v0 v3).bind fun y1 => if (y1 == v1) = true then some (.inr (true)) else R1_Has_L1 F v0 v1 g ((wrap64 (v3 + 1)))) else some (.inl (v3))) := by rw [R1_Has_L1]
def R1_Has (F : Nat) (v0 : List Int) (v1 : Int) : Option (Bool) := (R1_Has_L1 F (v0) (v1) F (0)).bind fun o2 => match o2 with | .inr r => some (r) | .inl o2 => some (false)
set_option maxRecDepth 100000 in
set_option maxHeartbeats 1000000 in
theorem R1_Has_ok {F : Nat} {v0 : List Int} {A0 : Option Addr} {v1 : Int} {r : Bool} (w : World) (cap0 : Nat) (hr0 : ReadsI w w.heap.size A0 v0) (h : R1_Has F v0 v1 = some r) :
    Calls Tryd.prog 21 #[.slice A0 v0.length cap0, .int .i64 v1] w fun e w' => e = .returned (.bool r) ∧ w = w' := by
  have HR0 := Lib.hid hr0; clear hr0
  unfold R1_Has at h
  have HM := Lib.hid h; clear h
  go_enter Tryd.func21, Tryd.ntmps21
  go_wp2_with fail
  obtain ⟨o1, ho, hm⟩ := obind HM.out
  have HM := Lib.hid hm; have HL1 := Lib.hid ho; clear hm ho
  go_loopg [5] F (fun gg u3 wr => ∃ (x2 : Int), u3 = .int .i64 x2 ∧ w = wr ∧ Hid (R1_Has_L1 F (v0) (v1) gg x2 = some o1))
  case atStart => exact ⟨0, rfl, rfl, HL1⟩
  case round =>
    obtain ⟨x2, rfl, rfl, HL1⟩ := hrel
    cases gk with
    | zero => exact absurd ((R1_Has_L1_0 ..).symm.trans HL1.out) (by intro h; cases h)
    | succ g1 =>
      have HL1 := Lib.hid ((R1_Has_L1_s ..).symm.trans HL1.out)
      by_cases hc4 : x2 < ((v0).length : Int)
      · have HL1 := Lib.hid (ifT hc4 HL1.out)
        obtain ⟨y5, hy6, hm⟩ := obind HL1.out
        have HL1 := Lib.hid hm; clear hm
        obtain ⟨b7, o8, ea9, _, f10, f11, f12⟩ := ReadsI.ix HR0.out hy6
        cases ea9
        have HY14 := Lib.hid hy6; clear hy6
        rcases Bool.eq_false_or_eq_true (y5 == v1) with hc15 | hc15
        · have HL1 := Lib.hid (ifT hc15 HL1.out)
          obtain rfl := Option.some.inj HL1.out
          have hm := HM.out; dsimp only at hm; have HM := Lib.hid hm; clear hm
          obtain rfl := Option.some.inj HM.out
          go_wp2_with fail
          try clear hc4 f10 f11 f12 hc15
          go_ret
          exact ⟨rfl, rfl⟩
        · have HL1 := Lib.hid (ifF (bF hc15) HL1.out)
          go_wp2_with fail
          try clear hc4 f10 f11 f12 hc15
          go_roundg g1
          case measure => omega
          case rel => exact ⟨(wrap64 (x2 + 1)), rfl, rfl, HL1⟩
      · have HL1 := Lib.hid (ifF hc4 HL1.out)
        obtain rfl := Option.some.inj HL1.out
        have hm := HM.out; dsimp only at hm; have HM := Lib.hid hm; clear hm
        obtain rfl := Option.some.inj HM.out
        go_wp2_with fail
        try clear hc4
        go_ret
        exact ⟨rfl, rfl⟩
def R1_in (F : Nat) (v0 : Int) (v1 : Int) (v2 : Int) : Option (Bool) := (if v1 ≤ v0 then if v0 ≤ v2 then some true else some false else some false).bind fun b1 => some (b1)
set_option maxRecDepth 100000 in
set_option maxHeartbeats 1000000 in
theorem R1_in_ok {F : Nat} {v0 : Int} {v1 : Int} {v2 : Int} {r : Bool} (w : World)  (h : R1_in F v0 v1 v2 = some r) :
    Calls Tryd.prog 17 #[.int .i64 v0, .int .i64 v1, .int .i64 v2] w fun e w' => e = .returned (.bool r) ∧ w = w' := by
  unfold R1_in at h
  have HM := Lib.hid h; clear h
  go_enter Tryd.func17, Tryd.ntmps17
  obtain ⟨b1, hb, hm⟩ := obind HM.out
  have HM := Lib.hid hm; have HB2 := Lib.hid hb; clear hm hb
  by_cases hc3 : v1 ≤ v0
  · have HB2 := Lib.hid (ifT hc3 HB2.out)
    by_cases hc4 : v0 ≤ v2
    · have HB2 := Lib.hid (ifT hc4 HB2.out)
      obtain rfl := Option.some.inj HB2.out
      obtain rfl := Option.some.inj HM.out
      go_wp2_with fail
      try clear hc3 hc4
      go_ret
      exact ⟨rfl, rfl⟩
    · have HB2 := Lib.hid (ifF hc4 HB2.out)
      obtain rfl := Option.some.inj HB2.out
      obtain rfl := Option.some.inj HM.out
      go_wp2_with fail
      try clear hc3 hc4
      go_ret
      exact ⟨rfl, rfl⟩
  · have HB2 := Lib.hid (ifF hc3 HB2.out)
    obtain rfl := Option.some.inj HB2.out
    obtain rfl := Option.some.inj HM.out
    go_wp2_with fail
    try clear hc3
    go_ret
    exact ⟨rfl, rfl⟩
def R1_Goes_L1 (F : Nat) (v0 : List (Int × Int)) (v1 : Int) (v2 : Int) : Nat → (Int) → Option ((Int) ⊕ (Bool))
  | 0, _ => none
  | g+1, v4 => if v4 < ((v0).length : Int) then (((ix v0 v4).bind fun y2 => if (y2.1 == v1) = true then (ix v0 v4).bind fun y3 => if (y3.2 == v2) = true then some true else some false else some false).bind fun b1 => if b1 = true then some (.inr (true)) else R1_Goes_L1 F v0 v1 v2 g ((wrap64 (v4 + 1)))) else some (.inl (v4))
theorem R1_Goes_L1_0 (F : Nat) (v0 : List (Int × Int)) (v1 : Int) (v2 : Int) (v4 : Int) : R1_Goes_L1 F v0 v1 v2 0 v4 = none := by rw [R1_Goes_L1]
theorem R1_Goes_L1_s (F g : Nat) (v0 : List (Int × Int)) (v1 : Int) (v2 : Int) (v4 : Int) : R1_Goes_L1 F v0 v1 v2 (g+1) v4 = (if v4 < ((v0).length : Int) then (((ix v0 v4).bind fun y2 => if (y2.1 == v1) = true then (ix v0 v4).bind fun y3 => if (y3.2 == v2) = true then some true else some false else some false).bind fun b1 => if b1 = true then some (.inr (true)) else R1_Goes_L1 F v0 v1 v2 g ((wrap64 (v4 + 1)))) else some (.inl (v4))) := by rw [R1_Goes_L1]
def R1_Goes (F : Nat) (v0 : List (Int × Int)) (v1 : Int) (v2 : Int) : Option (Bool) := (R1_Goes_L1 F (v0) (v1) (v2) F (0)).bind fun o4 => match o4 with | .inr r => some (r) | .inl o4 => some (false)
set_option maxRecDepth 100000 in
set_option maxHeartbeats 1000000 in
theorem R1_Goes_ok {F : Nat} {v0 : List (Int × Int)} {A0 : Option Addr} {v1 : Int} {v2 : Int} {r : Bool} (w : World) (cap0 : Nat) (hr0 : ReadsL w w.heap.size A0 v0) (h : R1_Goes F v0 v1 v2 = some r) :
    Calls Tryd.prog 45 #[.slice A0 v0.length cap0, .int .i64 v1, .int .i64 v2] w fun e w' => e = .returned (.bool r) ∧ w = w' := by
  have HR0 := Lib.hid hr0; clear hr0
  unfold R1_Goes at h
  have HM := Lib.hid h; clear h
  go_enter Tryd.func45, Tryd.ntmps45
  go_wp2_with fail
  obtain ⟨o1, ho, hm⟩ := obind HM.out
  have HM := Lib.hid hm; have HL1 := Lib.hid ho; clear hm ho
  go_loopg [7] F (fun gg u3 wr => ∃ (x2 : Int), u3 = .int .i64 x2 ∧ w = wr ∧ Hid (R1_Goes_L1 F (v0) (v1) (v2) gg x2 = some o1))
  case atStart => exact ⟨0, rfl, rfl, HL1⟩
  case round =>
    obtain ⟨x2, rfl, rfl, HL1⟩ := hrel
    cases gk with
    | zero => exact absurd ((R1_Goes_L1_0 ..).symm.trans HL1.out) (by intro h; cases h)
    | succ g1 =>
      have HL1 := Lib.hid ((R1_Goes_L1_s ..).symm.trans HL1.out)
      by_cases hc4 : x2 < ((v0).length : Int)
      · have HL1 := Lib.hid (ifT hc4 HL1.out)
        obtain ⟨b5, hb, hm⟩ := obind HL1.out
        have HL1 := Lib.hid hm; have HB6 := Lib.hid hb; clear hm hb
        obtain ⟨y7, hy8, hm⟩ := obind HB6.out
        have HB6 := Lib.hid hm; clear hm
        obtain ⟨b9, o10, ea11, _, f12, f13, f14, f15⟩ := ReadsL.ix HR0.out hy8
        cases ea11
        have HY16 := Lib.hid hy8; clear hy8
        rcases Bool.eq_false_or_eq_true (y7.1 == v1) with hc17 | hc17
        · have HB6 := Lib.hid (ifT hc17 HB6.out)
          obtain ⟨y18, hy19, hm⟩ := obind HB6.out
          have HB6 := Lib.hid hm; clear hm
          obtain rfl := Option.some.inj (HY16.out.symm.trans hy19)
          clear hy19
          rcases Bool.eq_false_or_eq_true (y7.2 == v2) with hc20 | hc20
          · have HB6 := Lib.hid (ifT hc20 HB6.out)
            obtain rfl := Option.some.inj HB6.out
            have HL1 := Lib.hid (ifT rfl HL1.out)
            obtain rfl := Option.some.inj HL1.out
            have hm := HM.out; dsimp only at hm; have HM := Lib.hid hm; clear hm
            obtain rfl := Option.some.inj HM.out
            go_wp2_with fail
            try clear hc4 f12 f13 f14 f15 hc17 hc20
            go_ret
            exact ⟨rfl, rfl⟩
          · have HB6 := Lib.hid (ifF (bF hc20) HB6.out)
            obtain rfl := Option.some.inj HB6.out
            have HL1 := Lib.hid (ifF Bool.false_ne_true HL1.out)
            go_wp2_with fail
            try clear hc4 f12 f13 f14 f15 hc17 hc20
            go_roundg g1
            case measure => omega
            case rel => exact ⟨(wrap64 (x2 + 1)), rfl, rfl, HL1⟩
        · have HB6 := Lib.hid (ifF (bF hc17) HB6.out)
          obtain rfl := Option.some.inj HB6.out
          have HL1 := Lib.hid (ifF Bool.false_ne_true HL1.out)
          go_wp2_with fail
          try clear hc4 f12 f13 f14 f15 hc17
          go_roundg g1
          case measure => omega
          case rel => exact ⟨(wrap64 (x2 + 1)), rfl, rfl, HL1⟩
      · have HL1 := Lib.hid (ifF hc4 HL1.out)
        obtain rfl := Option.some.inj HL1.out
        have hm := HM.out; dsimp only at hm; have HM := Lib.hid hm; clear hm
        obtain rfl := Option.some.inj HM.out
        go_wp2_with fail
        try clear hc4
        go_ret
        exact ⟨rfl, rfl⟩
end Go.Proofs.YtpcmofhmhggcoaaDoor
