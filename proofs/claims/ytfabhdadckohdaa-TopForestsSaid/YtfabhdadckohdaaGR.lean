import Derived.Test.YtfabhdadckohdaaTl
set_option linter.all false
set_option maxRecDepth 100000
namespace Go.Proofs.Ytfabhdadckohdaa
open Go.RowKit
def core_Within (F : Nat) (v0 : Int) (v1 : Int) (v2 : Int) : Option (Bool) := (if v1 ≤ v0 then if v0 ≤ v2 then some true else some false else some false).bind fun b1 => some (b1)
set_option maxRecDepth 100000 in
set_option maxHeartbeats 1000000 in
theorem core_Within_ok {F : Nat} {v0 : Int} {v1 : Int} {v2 : Int} {r : Bool} (w : World)  (h : core_Within F v0 v1 v2 = some r) :
    Calls Try.prog 55 #[.int .i64 v0, .int .i64 v1, .int .i64 v2] w fun e w' => e = .returned (.bool r) ∧ w = w' := by
  unfold core_Within at h
  have HM := Lib.hid h; clear h
  go_enter Try.func55, Try.ntmps55
  obtain ⟨b1, hb, hm⟩ := obind HM.out
  replace HM := Lib.hid hm; have HB2 := Lib.hid hb; clear hm hb
  by_cases hc3 : v1 ≤ v0
  · replace HB2 := Lib.hid (ifT hc3 HB2.out)
    by_cases hc4 : v0 ≤ v2
    · replace HB2 := Lib.hid (ifT hc4 HB2.out)
      obtain rfl := Option.some.inj HB2.out
      obtain rfl := Option.some.inj HM.out
      go_wp2_with fail
      go_ret
      exact ⟨(by first | rfl | (refine congrArg (fun b => Ending.returned (Value.bool b)) ?_; first | (exact decide_eq_true (by omega)) | (exact decide_eq_false (by omega)))), rfl⟩
    · replace HB2 := Lib.hid (ifF hc4 HB2.out)
      have hc4d := decide_eq_false hc4
      obtain rfl := Option.some.inj HB2.out
      obtain rfl := Option.some.inj HM.out
      go_wp2_with fail
      go_ret
      exact ⟨(by first | rfl | (refine congrArg (fun b => Ending.returned (Value.bool b)) ?_; first | (exact decide_eq_true (by omega)) | (exact decide_eq_false (by omega)))), rfl⟩
  · replace HB2 := Lib.hid (ifF hc3 HB2.out)
    have hc3d := decide_eq_false hc3
    obtain rfl := Option.some.inj HB2.out
    obtain rfl := Option.some.inj HM.out
    go_wp2_with fail
    go_ret
    exact ⟨(by first | rfl | (refine congrArg (fun b => Ending.returned (Value.bool b)) ?_; first | (exact decide_eq_true (by omega)) | (exact decide_eq_false (by omega)))), rfl⟩

def core_All_L1 (F : Nat) (v0 : List Int) (v1 : Int) (v2 : Int) : Nat → (Int) → Option ((Unit) ⊕ (Bool))
  | 0, _ => none
  | g+1, j => if j < ((v0).length : Int) then (ix v0 j).bind fun y => ((core_Within F (y) (v1) (v2)).bind fun y1 => if y1 = true then core_All_L1 F v0 v1 v2 g (wrap64 (j + 1)) else some (.inr (false))) else some (.inl ())
theorem core_All_L1_0 (F : Nat) (v0 : List Int) (v1 : Int) (v2 : Int) (j : Int) : core_All_L1 F v0 v1 v2 0 j = none := by rw [core_All_L1]
theorem core_All_L1_s (F g : Nat) (v0 : List Int) (v1 : Int) (v2 : Int) (j : Int) : core_All_L1 F v0 v1 v2 (g+1) j = (if j < ((v0).length : Int) then (ix v0 j).bind fun y => ((core_Within F (y) (v1) (v2)).bind fun y1 => if y1 = true then core_All_L1 F v0 v1 v2 g (wrap64 (j + 1)) else some (.inr (false))) else some (.inl ())) := by rw [core_All_L1]
def core_All (F : Nat) (v0 : List Int) (v1 : Int) (v2 : Int) : Option (Bool) := (core_All_L1 F (v0) (v1) (v2) F (0)).bind fun o2 => match o2 with | .inr r => some (r) | .inl o2 => some (true)
set_option maxRecDepth 100000 in
set_option maxHeartbeats 1000000 in
theorem core_All_ok {F : Nat} {v0 : List Int} {A0 : Option Addr} {v1 : Int} {v2 : Int} {r : Bool} (w : World) (cap0 : Nat) (hr0 : ReadsI w w.heap.size A0 v0) (h : core_All F v0 v1 v2 = some r) :
    Calls Try.prog 30 #[.slice A0 v0.length cap0, .int .i64 v1, .int .i64 v2] w fun e w' => e = .returned (.bool r) ∧ w = w' := by
  have HR0 := Lib.hid hr0; clear hr0
  unfold core_All at h
  have HM := Lib.hid h; clear h
  go_enter Try.func30, Try.ntmps30
  go_wp2_with fail
  obtain ⟨o1, ho, hm⟩ := obind HM.out
  replace HM := Lib.hid hm; have HL1 := Lib.hid ho; clear hm ho
  go_loopg [11] F (fun gg uj wr => ∃ (j2 : Int), uj = .int .i64 j2 ∧ w = wr ∧ Hid (core_All_L1 F (v0) (v1) (v2) gg j2 = some o1))
  case atStart => exact ⟨0, rfl, rfl, HL1⟩
  case round =>
    obtain ⟨j2, rfl, rfl, HL1⟩ := hrel
    cases gk with
    | zero => exact absurd ((core_All_L1_0 ..).symm.trans HL1.out) (by intro h; cases h)
    | succ g1 =>
      replace HL1 := Lib.hid ((core_All_L1_s ..).symm.trans HL1.out)
      by_cases hc3 : j2 < ((v0).length : Int)
      · replace HL1 := Lib.hid (ifT hc3 HL1.out)
        obtain ⟨y4, hy5, hm⟩ := obind HL1.out
        replace HL1 := Lib.hid hm; clear hm
        obtain ⟨b6, o7, ea8, _, f9, f10, f11⟩ := ReadsI.ix HR0.out hy5
        cases ea8
        try simp only [Nat.zero_add, Nat.add_zero, Int.toNat_natCast, Int.toNat_zero, Int.toNat_one] at f11
        have HY13 := Lib.hid hy5; clear hy5
        obtain ⟨y16, hy14, hm⟩ := obind HL1.out
        replace HL1 := Lib.hid hm; clear hm
        have HC15 := core_Within_ok w  hy14
        clear hy14
        replace HC15 := Lib.hid HC15
        cases y16
        · replace HL1 := Lib.hid (ifF Bool.false_ne_true HL1.out)
          obtain rfl := Option.some.inj HL1.out
          have hm := HM.out; try dsimp only at hm
          replace HM := Lib.hid hm; clear hm
          obtain rfl := Option.some.inj HM.out
          go_wp2_with fail
          refine HC15.out.mono ?_; rintro e w' ⟨rfl, rfl⟩
          go_wp2_with fail
          try clear f9 f10 f11
          go_ret
          exact ⟨(by first | rfl | (refine congrArg (fun b => Ending.returned (Value.bool b)) ?_; first | (exact decide_eq_true (by omega)) | (exact decide_eq_false (by omega)))), rfl⟩
        · replace HL1 := Lib.hid (ifT rfl HL1.out)
          go_wp2_with fail
          refine HC15.out.mono ?_; rintro e w' ⟨rfl, rfl⟩
          go_wp2_with fail
          try clear hc3 f9 f10 f11
          go_roundg g1
          case measure => omega
          case rel => exact ⟨(wrap64 (j2 + 1)), rfl, rfl, HL1⟩
      · replace HL1 := Lib.hid (ifF hc3 HL1.out)
        have hc3d := decide_eq_false hc3
        obtain rfl := Option.some.inj HL1.out
        have hm := HM.out; try dsimp only at hm
        replace HM := Lib.hid hm; clear hm
        obtain rfl := Option.some.inj HM.out
        go_wp2_with fail
        go_ret
        exact ⟨(by first | rfl | (refine congrArg (fun b => Ending.returned (Value.bool b)) ?_; first | (exact decide_eq_true (by omega)) | (exact decide_eq_false (by omega)))), rfl⟩


def R1_in (F : Nat) (v0 : Int) (v1 : Int) (v2 : Int) : Option (Bool) := (if v1 ≤ v0 then if v0 ≤ v2 then some true else some false else some false).bind fun b1 => some (b1)
set_option maxRecDepth 100000 in
set_option maxHeartbeats 1000000 in
theorem R1_in_ok {F : Nat} {v0 : Int} {v1 : Int} {v2 : Int} {r : Bool} (w : World)  (h : R1_in F v0 v1 v2 = some r) :
    Calls Try.prog 42 #[.int .i64 v0, .int .i64 v1, .int .i64 v2] w fun e w' => e = .returned (.bool r) ∧ w = w' := by
  unfold R1_in at h
  have HM := Lib.hid h; clear h
  go_enter Try.func42, Try.ntmps42
  obtain ⟨b1, hb, hm⟩ := obind HM.out
  replace HM := Lib.hid hm; have HB2 := Lib.hid hb; clear hm hb
  by_cases hc3 : v1 ≤ v0
  · replace HB2 := Lib.hid (ifT hc3 HB2.out)
    by_cases hc4 : v0 ≤ v2
    · replace HB2 := Lib.hid (ifT hc4 HB2.out)
      obtain rfl := Option.some.inj HB2.out
      obtain rfl := Option.some.inj HM.out
      go_wp2_with fail
      go_ret
      exact ⟨(by first | rfl | (refine congrArg (fun b => Ending.returned (Value.bool b)) ?_; first | (exact decide_eq_true (by omega)) | (exact decide_eq_false (by omega)))), rfl⟩
    · replace HB2 := Lib.hid (ifF hc4 HB2.out)
      have hc4d := decide_eq_false hc4
      obtain rfl := Option.some.inj HB2.out
      obtain rfl := Option.some.inj HM.out
      go_wp2_with fail
      go_ret
      exact ⟨(by first | rfl | (refine congrArg (fun b => Ending.returned (Value.bool b)) ?_; first | (exact decide_eq_true (by omega)) | (exact decide_eq_false (by omega)))), rfl⟩
  · replace HB2 := Lib.hid (ifF hc3 HB2.out)
    have hc3d := decide_eq_false hc3
    obtain rfl := Option.some.inj HB2.out
    obtain rfl := Option.some.inj HM.out
    go_wp2_with fail
    go_ret
    exact ⟨(by first | rfl | (refine congrArg (fun b => Ending.returned (Value.bool b)) ?_; first | (exact decide_eq_true (by omega)) | (exact decide_eq_false (by omega)))), rfl⟩


def R1_All_L1 (F : Nat) (v0 : List Int) (v1 : Int) (v2 : Int) : Nat → (Int) → Option ((Int) ⊕ (Bool))
  | 0, _ => none
  | g+1, v4 => if v4 < ((v0).length : Int) then ((ix v0 v4).bind fun y1 => (R1_in F (y1) (v1) (v2)).bind fun y2 => if y2 = true then R1_All_L1 F v0 v1 v2 g ((wrap64 (v4 + 1))) else some (.inr (false))) else some (.inl (v4))
theorem R1_All_L1_0 (F : Nat) (v0 : List Int) (v1 : Int) (v2 : Int) (v4 : Int) : R1_All_L1 F v0 v1 v2 0 v4 = none := by rw [R1_All_L1]
theorem R1_All_L1_s (F g : Nat) (v0 : List Int) (v1 : Int) (v2 : Int) (v4 : Int) : R1_All_L1 F v0 v1 v2 (g+1) v4 = (if v4 < ((v0).length : Int) then ((ix v0 v4).bind fun y1 => (R1_in F (y1) (v1) (v2)).bind fun y2 => if y2 = true then R1_All_L1 F v0 v1 v2 g ((wrap64 (v4 + 1))) else some (.inr (false))) else some (.inl (v4))) := by rw [R1_All_L1]
def R1_All (F : Nat) (v0 : List Int) (v1 : Int) (v2 : Int) : Option (Bool) := (R1_All_L1 F (v0) (v1) (v2) F (0)).bind fun o3 => match o3 with | .inr r => some (r) | .inl o3 => some (true)
set_option maxRecDepth 100000 in
set_option maxHeartbeats 1000000 in
theorem R1_All_ok {F : Nat} {v0 : List Int} {A0 : Option Addr} {v1 : Int} {v2 : Int} {r : Bool} (w : World) (cap0 : Nat) (hr0 : ReadsI w w.heap.size A0 v0) (h : R1_All F v0 v1 v2 = some r) :
    Calls Try.prog 13 #[.slice A0 v0.length cap0, .int .i64 v1, .int .i64 v2] w fun e w' => e = .returned (.bool r) ∧ w = w' := by
  have HR0 := Lib.hid hr0; clear hr0
  unfold R1_All at h
  have HM := Lib.hid h; clear h
  go_enter Try.func13, Try.ntmps13
  go_wp2_with fail
  obtain ⟨o1, ho, hm⟩ := obind HM.out
  replace HM := Lib.hid hm; have HL1 := Lib.hid ho; clear hm ho
  go_loopg [7] F (fun gg u3 wr => ∃ (x2 : Int), u3 = .int .i64 x2 ∧ w = wr ∧ Hid (R1_All_L1 F (v0) (v1) (v2) gg x2 = some o1))
  case atStart => exact ⟨0, rfl, rfl, HL1⟩
  case round =>
    obtain ⟨x2, rfl, rfl, HL1⟩ := hrel
    cases gk with
    | zero => exact absurd ((R1_All_L1_0 ..).symm.trans HL1.out) (by intro h; cases h)
    | succ g1 =>
      replace HL1 := Lib.hid ((R1_All_L1_s ..).symm.trans HL1.out)
      by_cases hc4 : x2 < ((v0).length : Int)
      · replace HL1 := Lib.hid (ifT hc4 HL1.out)
        obtain ⟨y5, hy6, hm⟩ := obind HL1.out
        replace HL1 := Lib.hid hm; clear hm
        obtain ⟨b7, o8, ea9, _, f10, f11, f12⟩ := ReadsI.ix HR0.out hy6
        cases ea9
        try simp only [Nat.zero_add, Nat.add_zero, Int.toNat_natCast, Int.toNat_zero, Int.toNat_one] at f12
        have HY14 := Lib.hid hy6; clear hy6
        obtain ⟨y17, hy15, hm⟩ := obind HL1.out
        replace HL1 := Lib.hid hm; clear hm
        have HC16 := R1_in_ok w  hy15
        clear hy15
        replace HC16 := Lib.hid HC16
        cases y17
        · replace HL1 := Lib.hid (ifF Bool.false_ne_true HL1.out)
          obtain rfl := Option.some.inj HL1.out
          have hm := HM.out; try dsimp only at hm
          replace HM := Lib.hid hm; clear hm
          obtain rfl := Option.some.inj HM.out
          go_wp2_with fail
          refine HC16.out.mono ?_; rintro e w' ⟨rfl, rfl⟩
          go_wp2_with fail
          try clear f10 f11 f12
          go_ret
          exact ⟨(by first | rfl | (refine congrArg (fun b => Ending.returned (Value.bool b)) ?_; first | (exact decide_eq_true (by omega)) | (exact decide_eq_false (by omega)))), rfl⟩
        · replace HL1 := Lib.hid (ifT rfl HL1.out)
          go_wp2_with fail
          refine HC16.out.mono ?_; rintro e w' ⟨rfl, rfl⟩
          go_wp2_with fail
          try clear hc4 f10 f11 f12
          go_roundg g1
          case measure => omega
          case rel => exact ⟨(wrap64 (x2 + 1)), rfl, rfl, HL1⟩
      · replace HL1 := Lib.hid (ifF hc4 HL1.out)
        have hc4d := decide_eq_false hc4
        obtain rfl := Option.some.inj HL1.out
        have hm := HM.out; try dsimp only at hm
        replace HM := Lib.hid hm; clear hm
        obtain rfl := Option.some.inj HM.out
        go_wp2_with fail
        go_ret
        exact ⟨(by first | rfl | (refine congrArg (fun b => Ending.returned (Value.bool b)) ?_; first | (exact decide_eq_true (by omega)) | (exact decide_eq_false (by omega)))), rfl⟩

def R1_Has_L1 (F : Nat) (v0 : List Int) (v1 : Int) : Nat → (Int) → Option ((Int) ⊕ (Bool))
  | 0, _ => none
  | g+1, v3 => if v3 < ((v0).length : Int) then ((ix v0 v3).bind fun y1 => if (y1 == v1) = true then some (.inr (true)) else R1_Has_L1 F v0 v1 g ((wrap64 (v3 + 1)))) else some (.inl (v3))
theorem R1_Has_L1_0 (F : Nat) (v0 : List Int) (v1 : Int) (v3 : Int) : R1_Has_L1 F v0 v1 0 v3 = none := by rw [R1_Has_L1]
theorem R1_Has_L1_s (F g : Nat) (v0 : List Int) (v1 : Int) (v3 : Int) : R1_Has_L1 F v0 v1 (g+1) v3 = (if v3 < ((v0).length : Int) then ((ix v0 v3).bind fun y1 => if (y1 == v1) = true then some (.inr (true)) else R1_Has_L1 F v0 v1 g ((wrap64 (v3 + 1)))) else some (.inl (v3))) := by rw [R1_Has_L1]
def R1_Has (F : Nat) (v0 : List Int) (v1 : Int) : Option (Bool) := (R1_Has_L1 F (v0) (v1) F (0)).bind fun o2 => match o2 with | .inr r => some (r) | .inl o2 => some (false)
set_option maxRecDepth 100000 in
set_option maxHeartbeats 1000000 in
theorem R1_Has_ok {F : Nat} {v0 : List Int} {A0 : Option Addr} {v1 : Int} {r : Bool} (w : World) (cap0 : Nat) (hr0 : ReadsI w w.heap.size A0 v0) (h : R1_Has F v0 v1 = some r) :
    Calls Try.prog 17 #[.slice A0 v0.length cap0, .int .i64 v1] w fun e w' => e = .returned (.bool r) ∧ w = w' := by
  have HR0 := Lib.hid hr0; clear hr0
  unfold R1_Has at h
  have HM := Lib.hid h; clear h
  go_enter Try.func17, Try.ntmps17
  go_wp2_with fail
  obtain ⟨o1, ho, hm⟩ := obind HM.out
  replace HM := Lib.hid hm; have HL1 := Lib.hid ho; clear hm ho
  go_loopg [5] F (fun gg u3 wr => ∃ (x2 : Int), u3 = .int .i64 x2 ∧ w = wr ∧ Hid (R1_Has_L1 F (v0) (v1) gg x2 = some o1))
  case atStart => exact ⟨0, rfl, rfl, HL1⟩
  case round =>
    obtain ⟨x2, rfl, rfl, HL1⟩ := hrel
    cases gk with
    | zero => exact absurd ((R1_Has_L1_0 ..).symm.trans HL1.out) (by intro h; cases h)
    | succ g1 =>
      replace HL1 := Lib.hid ((R1_Has_L1_s ..).symm.trans HL1.out)
      by_cases hc4 : x2 < ((v0).length : Int)
      · replace HL1 := Lib.hid (ifT hc4 HL1.out)
        obtain ⟨y5, hy6, hm⟩ := obind HL1.out
        replace HL1 := Lib.hid hm; clear hm
        obtain ⟨b7, o8, ea9, _, f10, f11, f12⟩ := ReadsI.ix HR0.out hy6
        cases ea9
        try simp only [Nat.zero_add, Nat.add_zero, Int.toNat_natCast, Int.toNat_zero, Int.toNat_one] at f12
        have HY14 := Lib.hid hy6; clear hy6
        rcases Bool.eq_false_or_eq_true (y5 == v1) with hc15 | hc15
        · replace HL1 := Lib.hid (ifT hc15 HL1.out)
          obtain rfl := Option.some.inj HL1.out
          have hm := HM.out; try dsimp only at hm
          replace HM := Lib.hid hm; clear hm
          obtain rfl := Option.some.inj HM.out
          go_wp2_with fail
          try clear f10 f11 f12
          go_ret
          exact ⟨(by first | rfl | (refine congrArg (fun b => Ending.returned (Value.bool b)) ?_; first | (exact decide_eq_true (by omega)) | (exact decide_eq_false (by omega)))), rfl⟩
        · replace HL1 := Lib.hid (ifF (bF hc15) HL1.out)
          go_wp2_with fail
          try clear hc4 f10 f11 f12 hc15
          go_roundg g1
          case measure => omega
          case rel => exact ⟨(wrap64 (x2 + 1)), rfl, rfl, HL1⟩
      · replace HL1 := Lib.hid (ifF hc4 HL1.out)
        have hc4d := decide_eq_false hc4
        obtain rfl := Option.some.inj HL1.out
        have hm := HM.out; try dsimp only at hm
        replace HM := Lib.hid hm; clear hm
        obtain rfl := Option.some.inj HM.out
        go_wp2_with fail
        go_ret
        exact ⟨(by first | rfl | (refine congrArg (fun b => Ending.returned (Value.bool b)) ?_; first | (exact decide_eq_true (by omega)) | (exact decide_eq_false (by omega)))), rfl⟩


def R1_Behind (F : Nat) (v0 : List Int) (v1 : Int) : Option (List Int) := (appL [] v0).bind fun y1 => (app y1 v1).bind fun y2 => some (y2)
set_option maxRecDepth 100000 in
set_option maxHeartbeats 1000000 in
theorem R1_Behind_ok {F : Nat} {v0 : List Int} {A0 : Option Addr} {v1 : Int} {r : List Int} (w : World) (cap0 : Nat) (hr0 : ReadsI w w.heap.size A0 v0) (h : R1_Behind F v0 v1 = some r) :
    Calls Try.prog 18 #[.slice A0 v0.length cap0, .int .i64 v1] w (PostG (fun v => v) (fun v => owI v r) w.heap.size w) := by
  have HR0 := Lib.hid hr0; clear hr0
  have HD := Lib.hid (Below.refl w.heap.size w)
  have HOA := Lib.hid (HP.nil (W := w) (B := w.heap.size))
  unfold R1_Behind at h
  have HM := Lib.hid h; clear h
  go_enter Try.func18, Try.ntmps18
  replace HOA := Lib.hid (show HP _ _ (.fl (owI (.slice none 0 0) ([])) :: _) from HOA.out.pushNil _ _)
  obtain ⟨y2, hy3, hm⟩ := obind HM.out
  replace HM := Lib.hid hm; clear hm
  obtain ⟨f4, hy3⟩ := appL_some hy3; subst hy3
  have HF7 := Lib.hid f4; clear f4
  go_upto_region 3 with (at_builtin; refine hp_appIs _ (.tmp 6) (.tmp 7) 23 Try.underlying23 rfl rfl (L1 := []) HOA.out (rdI HD.out HR0.out) rfl rfl HF7.out HD.out.size ?_; intro V5 W6 hoa hd)
  replace HOA := Lib.hid (show HP W6 w.heap.size [.fl (owI V5 (([] ++ v0)))] from hoa); clear hoa
  replace HD := Lib.hid (HD.out.trans hd); clear hd
  obtain ⟨y8, hy9, hm⟩ := obind HM.out
  replace HM := Lib.hid hm; clear hm
  obtain ⟨f10, hy9⟩ := app_some hy9; subst hy9
  have HF13 := Lib.hid f10; clear f10
  go_wp2_with (at_builtin; refine hp_appI _ (.tmp 9) (.tmp 11) 23 Try.underlying23 rfl rfl (L1 := []) HOA.out rfl rfl HF13.out HD.out.size ?_; intro V11 W12 hoa hd)
  replace HOA := Lib.hid (show HP W12 w.heap.size [.fl (owI V11 ((([] ++ v0) ++ [v1])))] from hoa); clear hoa
  replace HD := Lib.hid (HD.out.trans hd); clear hd
  obtain rfl := Option.some.inj HM.out
  go_wp2_with fail
  go_ret
  exact ⟨_, rfl, HOA.out.get (List.Mem.head _), HD.out⟩

def R1_Goes_L1 (F : Nat) (v0 : List (Int × Int)) (v1 : Int) (v2 : Int) : Nat → (Int) → Option ((Int) ⊕ (Bool))
  | 0, _ => none
  | g+1, v4 => if v4 < ((v0).length : Int) then (((ix v0 v4).bind fun y2 => if (y2.1 == v1) = true then (ix v0 v4).bind fun y3 => if (y3.2 == v2) = true then some true else some false else some false).bind fun b1 => if b1 = true then some (.inr (true)) else R1_Goes_L1 F v0 v1 v2 g ((wrap64 (v4 + 1)))) else some (.inl (v4))
theorem R1_Goes_L1_0 (F : Nat) (v0 : List (Int × Int)) (v1 : Int) (v2 : Int) (v4 : Int) : R1_Goes_L1 F v0 v1 v2 0 v4 = none := by rw [R1_Goes_L1]
theorem R1_Goes_L1_s (F g : Nat) (v0 : List (Int × Int)) (v1 : Int) (v2 : Int) (v4 : Int) : R1_Goes_L1 F v0 v1 v2 (g+1) v4 = (if v4 < ((v0).length : Int) then (((ix v0 v4).bind fun y2 => if (y2.1 == v1) = true then (ix v0 v4).bind fun y3 => if (y3.2 == v2) = true then some true else some false else some false).bind fun b1 => if b1 = true then some (.inr (true)) else R1_Goes_L1 F v0 v1 v2 g ((wrap64 (v4 + 1)))) else some (.inl (v4))) := by rw [R1_Goes_L1]
def R1_Goes (F : Nat) (v0 : List (Int × Int)) (v1 : Int) (v2 : Int) : Option (Bool) := (R1_Goes_L1 F (v0) (v1) (v2) F (0)).bind fun o4 => match o4 with | .inr r => some (r) | .inl o4 => some (false)
set_option maxRecDepth 100000 in
set_option maxHeartbeats 1000000 in
theorem R1_Goes_ok {F : Nat} {v0 : List (Int × Int)} {A0 : Option Addr} {v1 : Int} {v2 : Int} {r : Bool} (w : World) (cap0 : Nat) (hr0 : ReadsL w w.heap.size A0 v0) (h : R1_Goes F v0 v1 v2 = some r) :
    Calls Try.prog 63 #[.slice A0 v0.length cap0, .int .i64 v1, .int .i64 v2] w fun e w' => e = .returned (.bool r) ∧ w = w' := by
  have HR0 := Lib.hid hr0; clear hr0
  unfold R1_Goes at h
  have HM := Lib.hid h; clear h
  go_enter Try.func63, Try.ntmps63
  go_wp2_with fail
  obtain ⟨o1, ho, hm⟩ := obind HM.out
  replace HM := Lib.hid hm; have HL1 := Lib.hid ho; clear hm ho
  go_loopg [7] F (fun gg u3 wr => ∃ (x2 : Int), u3 = .int .i64 x2 ∧ w = wr ∧ Hid (R1_Goes_L1 F (v0) (v1) (v2) gg x2 = some o1))
  case atStart => exact ⟨0, rfl, rfl, HL1⟩
  case round =>
    obtain ⟨x2, rfl, rfl, HL1⟩ := hrel
    cases gk with
    | zero => exact absurd ((R1_Goes_L1_0 ..).symm.trans HL1.out) (by intro h; cases h)
    | succ g1 =>
      replace HL1 := Lib.hid ((R1_Goes_L1_s ..).symm.trans HL1.out)
      by_cases hc4 : x2 < ((v0).length : Int)
      · replace HL1 := Lib.hid (ifT hc4 HL1.out)
        obtain ⟨b5, hb, hm⟩ := obind HL1.out
        replace HL1 := Lib.hid hm; have HB6 := Lib.hid hb; clear hm hb
        obtain ⟨y7, hy8, hm⟩ := obind HB6.out
        replace HB6 := Lib.hid hm; clear hm
        obtain ⟨b9, o10, ea11, _, f12, f13, f14, f15⟩ := ReadsL.ix HR0.out hy8
        cases ea11
        try simp only [Nat.zero_add, Nat.add_zero, Int.toNat_natCast, Int.toNat_zero, Int.toNat_one] at f14 f15
        have HY16 := Lib.hid hy8; clear hy8
        rcases Bool.eq_false_or_eq_true (y7.1 == v1) with hc17 | hc17
        · replace HB6 := Lib.hid (ifT hc17 HB6.out)
          obtain ⟨y18, hy19, hm⟩ := obind HB6.out
          replace HB6 := Lib.hid hm; clear hm
          obtain rfl := Option.some.inj (HY16.out.symm.trans hy19)
          clear hy19
          rcases Bool.eq_false_or_eq_true (y7.2 == v2) with hc20 | hc20
          · replace HB6 := Lib.hid (ifT hc20 HB6.out)
            obtain rfl := Option.some.inj HB6.out
            replace HL1 := Lib.hid (ifT rfl HL1.out)
            obtain rfl := Option.some.inj HL1.out
            have hm := HM.out; try dsimp only at hm
            replace HM := Lib.hid hm; clear hm
            obtain rfl := Option.some.inj HM.out
            go_wp2_with fail
            try clear f12 f13 f14 f15
            go_ret
            exact ⟨(by first | rfl | (refine congrArg (fun b => Ending.returned (Value.bool b)) ?_; first | (exact decide_eq_true (by omega)) | (exact decide_eq_false (by omega)))), rfl⟩
          · replace HB6 := Lib.hid (ifF (bF hc20) HB6.out)
            obtain rfl := Option.some.inj HB6.out
            replace HL1 := Lib.hid (ifF Bool.false_ne_true HL1.out)
            go_wp2_with fail
            try clear hc4 f12 f13 f14 f15 hc17 hc20
            go_roundg g1
            case measure => omega
            case rel => exact ⟨(wrap64 (x2 + 1)), rfl, rfl, HL1⟩
        · replace HB6 := Lib.hid (ifF (bF hc17) HB6.out)
          obtain rfl := Option.some.inj HB6.out
          replace HL1 := Lib.hid (ifF Bool.false_ne_true HL1.out)
          go_wp2_with fail
          try clear hc4 f12 f13 f14 f15 hc17
          go_roundg g1
          case measure => omega
          case rel => exact ⟨(wrap64 (x2 + 1)), rfl, rfl, HL1⟩
      · replace HL1 := Lib.hid (ifF hc4 HL1.out)
        have hc4d := decide_eq_false hc4
        obtain rfl := Option.some.inj HL1.out
        have hm := HM.out; try dsimp only at hm
        replace HM := Lib.hid hm; clear hm
        obtain rfl := Option.some.inj HM.out
        go_wp2_with fail
        go_ret
        exact ⟨(by first | rfl | (refine congrArg (fun b => Ending.returned (Value.bool b)) ?_; first | (exact decide_eq_true (by omega)) | (exact decide_eq_false (by omega)))), rfl⟩



def R1_Lines_L1 (F : Nat) (v0 : Int) (v1 : List (Int × Int)) : Nat → (Int) → Option ((Int) ⊕ (Int))
  | 0, _ => none
  | g+1, v3 => if v3 < ((v1).length : Int) then (((ix v1 v3).bind fun y3 => (R1_in F (y3.1) (0) ((wrap64 (v0 - 1)))).bind fun y4 => if y4 = true then (ix v1 v3).bind fun y5 => (R1_in F (y5.2) (0) ((wrap64 (v0 - 1)))).bind fun y6 => if y6 = true then some false else some true else some true).bind fun b2 => if b2 = true then some (.inr (1)) else ((ix v1 v3).bind fun y7 => (ix v1 v3).bind fun y8 => if (y7.1 == y8.2) = true then some (.inr (3)) else R1_Lines_L1 F v0 v1 g ((wrap64 (v3 + 1))))) else some (.inl (v3))
theorem R1_Lines_L1_0 (F : Nat) (v0 : Int) (v1 : List (Int × Int)) (v3 : Int) : R1_Lines_L1 F v0 v1 0 v3 = none := by rw [R1_Lines_L1]
theorem R1_Lines_L1_s (F g : Nat) (v0 : Int) (v1 : List (Int × Int)) (v3 : Int) : R1_Lines_L1 F v0 v1 (g+1) v3 = (if v3 < ((v1).length : Int) then (((ix v1 v3).bind fun y3 => (R1_in F (y3.1) (0) ((wrap64 (v0 - 1)))).bind fun y4 => if y4 = true then (ix v1 v3).bind fun y5 => (R1_in F (y5.2) (0) ((wrap64 (v0 - 1)))).bind fun y6 => if y6 = true then some false else some true else some true).bind fun b2 => if b2 = true then some (.inr (1)) else ((ix v1 v3).bind fun y7 => (ix v1 v3).bind fun y8 => if (y7.1 == y8.2) = true then some (.inr (3)) else R1_Lines_L1 F v0 v1 g ((wrap64 (v3 + 1))))) else some (.inl (v3))) := by rw [R1_Lines_L1]
def R1_Lines (F : Nat) (v0 : Int) (v1 : List (Int × Int)) : Option (Int) := ((R1_in F (v0) (1) (8)).bind fun y1 => if y1 = true then (if 24 < ((v1).length : Int) then some (4) else (R1_Lines_L1 F (v0) (v1) F (0)).bind fun o9 => match o9 with | .inr r => some (r) | .inl o9 => some (0)) else some (1))
set_option maxRecDepth 100000 in
set_option maxHeartbeats 1000000 in
theorem R1_Lines_ok {F : Nat} {v0 : Int} {v1 : List (Int × Int)} {A1 : Option Addr} {r : Int} (w : World) (cap1 : Nat) (hr1 : ReadsL w w.heap.size A1 v1) (h : R1_Lines F v0 v1 = some r) :
    Calls Try.prog 12 #[.int .i64 v0, .slice A1 v1.length cap1] w fun e w' => e = .returned (.int .i64 r) ∧ Dr w w' := by
  have HR1 := Lib.hid hr1; clear hr1
  have HD := Lib.hid (Dr.refl w)
  unfold R1_Lines at h
  have HM := Lib.hid h; clear h
  go_enter Try.func12, Try.ntmps12
  obtain ⟨y3, hy1, hm⟩ := obind HM.out
  replace HM := Lib.hid hm; clear hm
  have HC2 := R1_in_ok w  hy1
  clear hy1
  replace HC2 := Lib.hid HC2
  cases y3
  · replace HM := Lib.hid (ifF Bool.false_ne_true HM.out)
    obtain rfl := Option.some.inj HM.out
    go_wp2_with fail
    refine HC2.out.mono ?_; rintro e w' ⟨rfl, rfl⟩
    go_wp2_with fail
    go_ret
    exact ⟨rfl, HD.out⟩
  · replace HM := Lib.hid (ifT rfl HM.out)
    by_cases hc4 : 24 < ((v1).length : Int)
    · replace HM := Lib.hid (ifT hc4 HM.out)
      have hc4n := hc4; try norm_cast at hc4n
      obtain rfl := Option.some.inj HM.out
      go_wp2_with fail
      refine HC2.out.mono ?_; rintro e w' ⟨rfl, rfl⟩
      go_wp2_with fail
      try clear hc4 hc4n
      go_ret
      exact ⟨rfl, HD.out⟩
    · replace HM := Lib.hid (ifF hc4 HM.out)
      have hc4d := decide_eq_false hc4
      have hc4n := hc4; try norm_cast at hc4n
      go_wp2_with fail
      refine HC2.out.mono ?_; rintro e w' ⟨rfl, rfl⟩
      go_wp2_with fail
      try clear hc4 hc4n hc4d
      obtain ⟨o5, ho, hm⟩ := obind HM.out
      replace HM := Lib.hid hm; have HL1 := Lib.hid ho; clear hm ho
      go_loopg [5] F (fun gg u7 wr => ∃ (x6 : Int), u7 = .int .i64 x6 ∧ Hid (Dr w wr) ∧ Hid (R1_Lines_L1 F (v0) (v1) gg x6 = some o5))
      case atStart => exact ⟨0, rfl, HD, HL1⟩
      case round =>
        obtain ⟨x6, rfl, HD, HL1⟩ := hrel
        rename World => W8
        cases gk with
        | zero => exact absurd ((R1_Lines_L1_0 ..).symm.trans HL1.out) (by intro h; cases h)
        | succ g1 =>
          replace HL1 := Lib.hid ((R1_Lines_L1_s ..).symm.trans HL1.out)
          by_cases hc9 : x6 < ((v1).length : Int)
          · replace HL1 := Lib.hid (ifT hc9 HL1.out)
            obtain ⟨b10, hb, hm⟩ := obind HL1.out
            replace HL1 := Lib.hid hm; have HB11 := Lib.hid hb; clear hm hb
            obtain ⟨y12, hy13, hm⟩ := obind HB11.out
            replace HB11 := Lib.hid hm; clear hm
            obtain ⟨b14, o15, ea16, _, f17, f18, f19, f20⟩ := ReadsL.ix (rdL (HD.out.below _) HR1.out) hy13
            cases ea16
            try simp only [Nat.zero_add, Nat.add_zero, Int.toNat_natCast, Int.toNat_zero, Int.toNat_one] at f19 f20
            have HY21 := Lib.hid hy13; clear hy13
            obtain ⟨y24, hy22, hm⟩ := obind HB11.out
            replace HB11 := Lib.hid hm; clear hm
            have HC23 := R1_in_ok W8  hy22
            clear hy22
            replace HC23 := Lib.hid HC23
            cases y24
            · replace HB11 := Lib.hid (ifF Bool.false_ne_true HB11.out)
              obtain rfl := Option.some.inj HB11.out
              replace HL1 := Lib.hid (ifT rfl HL1.out)
              obtain rfl := Option.some.inj HL1.out
              have hm := HM.out; try dsimp only at hm
              replace HM := Lib.hid hm; clear hm
              obtain rfl := Option.some.inj HM.out
              go_wp2_with fail
              refine HC23.out.mono ?_; rintro e w' ⟨rfl, rfl⟩
              go_wp2_with fail
              try clear hc9 f17 f18 f19 f20
              go_ret
              exact ⟨rfl, HD.out⟩
            · replace HB11 := Lib.hid (ifT rfl HB11.out)
              obtain ⟨y25, hy26, hm⟩ := obind HB11.out
              replace HB11 := Lib.hid hm; clear hm
              obtain rfl := Option.some.inj (HY21.out.symm.trans hy26)
              clear hy26
              obtain ⟨y29, hy27, hm⟩ := obind HB11.out
              replace HB11 := Lib.hid hm; clear hm
              have HC28 := R1_in_ok W8  hy27
              clear hy27
              replace HC28 := Lib.hid HC28
              cases y29
              · replace HB11 := Lib.hid (ifF Bool.false_ne_true HB11.out)
                obtain rfl := Option.some.inj HB11.out
                replace HL1 := Lib.hid (ifT rfl HL1.out)
                obtain rfl := Option.some.inj HL1.out
                have hm := HM.out; try dsimp only at hm
                replace HM := Lib.hid hm; clear hm
                obtain rfl := Option.some.inj HM.out
                go_wp2_with fail
                refine HC23.out.mono ?_; rintro e w' ⟨rfl, rfl⟩
                go_wp2_with fail
                refine HC28.out.mono ?_; rintro e w' ⟨rfl, rfl⟩
                go_wp2_with fail
                try clear hc9 f17 f18 f19 f20
                go_ret
                exact ⟨rfl, HD.out⟩
              · replace HB11 := Lib.hid (ifT rfl HB11.out)
                obtain rfl := Option.some.inj HB11.out
                replace HL1 := Lib.hid (ifF Bool.false_ne_true HL1.out)
                try go_wp2_with fail
                refine HC23.out.mono ?_; rintro e w' ⟨rfl, rfl⟩
                try go_wp2_with fail
                refine HC28.out.mono ?_; rintro e w' ⟨rfl, rfl⟩
                try go_wp2_with fail
                try clear hc9 f17 f18 f19 f20
                obtain ⟨y30, hy31, hm⟩ := obind HL1.out
                replace HL1 := Lib.hid hm; clear hm
                obtain ⟨b32, o33, ea34, _, f35, f36, f37, f38⟩ := ReadsL.ix (rdL (HD.out.below _) HR1.out) hy31
                cases ea34
                try simp only [Nat.zero_add, Nat.add_zero, Int.toNat_natCast, Int.toNat_zero, Int.toNat_one] at f37 f38
                have HY39 := Lib.hid hy31; clear hy31
                obtain ⟨y40, hy41, hm⟩ := obind HL1.out
                replace HL1 := Lib.hid hm; clear hm
                obtain rfl := Option.some.inj (HY39.out.symm.trans hy41)
                clear hy41
                rcases Bool.eq_false_or_eq_true (y30.1 == y30.2) with hc42 | hc42
                · replace HL1 := Lib.hid (ifT hc42 HL1.out)
                  go_quiet (fail)
                  generalize hW : World.drewN W8 _ = W43
                  have hd : Dr W8 W43 := ⟨_, hW.symm⟩
                  clear hW
                  try clear f35 f36 f37 f38 hc42
                  replace HD := Lib.hid (HD.out.trans hd); clear hd
                  obtain rfl := Option.some.inj HL1.out
                  have hm := HM.out; try dsimp only at hm
                  replace HM := Lib.hid hm; clear hm
                  obtain rfl := Option.some.inj HM.out
                  go_wp2_with fail
                  go_ret
                  exact ⟨rfl, HD.out⟩
                · replace HL1 := Lib.hid (ifF (bF hc42) HL1.out)
                  go_quiet (fail)
                  generalize hW : World.drewN W8 _ = W44
                  have hd : Dr W8 W44 := ⟨_, hW.symm⟩
                  clear hW
                  try clear f35 f36 f37 f38 hc42
                  replace HD := Lib.hid (HD.out.trans hd); clear hd
                  go_wp2_with fail
                  go_roundg g1
                  case measure => omega
                  case rel => exact ⟨(wrap64 (x6 + 1)), rfl, HD, HL1⟩
          · replace HL1 := Lib.hid (ifF hc9 HL1.out)
            have hc9d := decide_eq_false hc9
            obtain rfl := Option.some.inj HL1.out
            have hm := HM.out; try dsimp only at hm
            replace HM := Lib.hid hm; clear hm
            obtain rfl := Option.some.inj HM.out
            go_wp2_with fail
            try clear hc9 hc9d
            go_ret
            exact ⟨rfl, HD.out⟩



def SE_Ints_L1 (F : Nat) (v0 : List Int) (v1 : List Int) : Nat → (Int) → Option ((Int) ⊕ (Bool))
  | 0, _ => none
  | g+1, v3 => if v3 < ((v0).length : Int) then ((ix v0 v3).bind fun y1 => (ix v1 v3).bind fun y2 => if (y1 != y2) = true then some (.inr (false)) else SE_Ints_L1 F v0 v1 g ((wrap64 (v3 + 1)))) else some (.inl (v3))
theorem SE_Ints_L1_0 (F : Nat) (v0 : List Int) (v1 : List Int) (v3 : Int) : SE_Ints_L1 F v0 v1 0 v3 = none := by rw [SE_Ints_L1]
theorem SE_Ints_L1_s (F g : Nat) (v0 : List Int) (v1 : List Int) (v3 : Int) : SE_Ints_L1 F v0 v1 (g+1) v3 = (if v3 < ((v0).length : Int) then ((ix v0 v3).bind fun y1 => (ix v1 v3).bind fun y2 => if (y1 != y2) = true then some (.inr (false)) else SE_Ints_L1 F v0 v1 g ((wrap64 (v3 + 1)))) else some (.inl (v3))) := by rw [SE_Ints_L1]
def SE_Ints (F : Nat) (v0 : List Int) (v1 : List Int) : Option (Bool) := (if (((v0).length : Int) != ((v1).length : Int)) = true then some (false) else (SE_Ints_L1 F (v0) (v1) F (0)).bind fun o3 => match o3 with | .inr r => some (r) | .inl o3 => some (true))
set_option maxRecDepth 100000 in
set_option maxHeartbeats 1000000 in
theorem SE_Ints_ok {F : Nat} {v0 : List Int} {A0 : Option Addr} {v1 : List Int} {A1 : Option Addr} {r : Bool} (w : World) (cap0 : Nat) (hr0 : ReadsI w w.heap.size A0 v0) (cap1 : Nat) (hr1 : ReadsI w w.heap.size A1 v1) (h : SE_Ints F v0 v1 = some r) :
    Calls Try.prog 6 #[.slice A0 v0.length cap0, .slice A1 v1.length cap1] w fun e w' => e = .returned (.bool r) ∧ Dr w w' := by
  have HR0 := Lib.hid hr0; clear hr0
  have HR1 := Lib.hid hr1; clear hr1
  have HD := Lib.hid (Dr.refl w)
  unfold SE_Ints at h
  have HM := Lib.hid h; clear h
  go_enter Try.func6, Try.ntmps6
  rcases Bool.eq_false_or_eq_true (((v0).length : Int) != ((v1).length : Int)) with hc1 | hc1
  · replace HM := Lib.hid (ifT hc1 HM.out)
    obtain rfl := Option.some.inj HM.out
    go_wp2_with fail
    go_ret
    exact ⟨(by first | rfl | (refine congrArg (fun b => Ending.returned (Value.bool b)) ?_; first | (exact decide_eq_true (by omega)) | (exact decide_eq_false (by omega)))), HD.out⟩
  · replace HM := Lib.hid (ifF (bF hc1) HM.out)
    go_wp2_with fail
    try clear hc1
    obtain ⟨o2, ho, hm⟩ := obind HM.out
    replace HM := Lib.hid hm; have HL1 := Lib.hid ho; clear hm ho
    go_loopg [5] F (fun gg u4 wr => ∃ (x3 : Int), u4 = .int .i64 x3 ∧ Hid (Dr w wr) ∧ Hid (SE_Ints_L1 F (v0) (v1) gg x3 = some o2))
    case atStart => exact ⟨0, rfl, HD, HL1⟩
    case round =>
      obtain ⟨x3, rfl, HD, HL1⟩ := hrel
      rename World => W5
      cases gk with
      | zero => exact absurd ((SE_Ints_L1_0 ..).symm.trans HL1.out) (by intro h; cases h)
      | succ g1 =>
        replace HL1 := Lib.hid ((SE_Ints_L1_s ..).symm.trans HL1.out)
        by_cases hc6 : x3 < ((v0).length : Int)
        · replace HL1 := Lib.hid (ifT hc6 HL1.out)
          try go_wp2_with fail
          try clear hc6
          obtain ⟨y7, hy8, hm⟩ := obind HL1.out
          replace HL1 := Lib.hid hm; clear hm
          obtain ⟨b9, o10, ea11, _, f12, f13, f14⟩ := ReadsI.ix (rdI (HD.out.below _) HR0.out) hy8
          cases ea11
          try simp only [Nat.zero_add, Nat.add_zero, Int.toNat_natCast, Int.toNat_zero, Int.toNat_one] at f14
          have HY16 := Lib.hid hy8; clear hy8
          obtain ⟨y17, hy18, hm⟩ := obind HL1.out
          replace HL1 := Lib.hid hm; clear hm
          obtain ⟨b19, o20, ea21, _, f22, f23, f24⟩ := ReadsI.ix (rdI (HD.out.below _) HR1.out) hy18
          cases ea21
          try simp only [Nat.zero_add, Nat.add_zero, Int.toNat_natCast, Int.toNat_zero, Int.toNat_one] at f24
          have HY26 := Lib.hid hy18; clear hy18
          rcases Bool.eq_false_or_eq_true (y7 != y17) with hc27 | hc27
          · replace HL1 := Lib.hid (ifT hc27 HL1.out)
            go_quiet (fail)
            generalize hW : World.drewN W5 _ = W28
            have hd : Dr W5 W28 := ⟨_, hW.symm⟩
            clear hW
            try clear f12 f13 f14 f22 f23 f24 hc27
            replace HD := Lib.hid (HD.out.trans hd); clear hd
            obtain rfl := Option.some.inj HL1.out
            have hm := HM.out; try dsimp only at hm
            replace HM := Lib.hid hm; clear hm
            obtain rfl := Option.some.inj HM.out
            go_wp2_with fail
            go_ret
            exact ⟨rfl, HD.out⟩
          · replace HL1 := Lib.hid (ifF (bF hc27) HL1.out)
            go_quiet (fail)
            generalize hW : World.drewN W5 _ = W29
            have hd : Dr W5 W29 := ⟨_, hW.symm⟩
            clear hW
            try clear f12 f13 f14 f22 f23 f24 hc27
            replace HD := Lib.hid (HD.out.trans hd); clear hd
            go_wp2_with fail
            go_roundg g1
            case measure => omega
            case rel => exact ⟨(wrap64 (x3 + 1)), rfl, HD, HL1⟩
        · replace HL1 := Lib.hid (ifF hc6 HL1.out)
          have hc6d := decide_eq_false hc6
          obtain rfl := Option.some.inj HL1.out
          have hm := HM.out; try dsimp only at hm
          replace HM := Lib.hid hm; clear hm
          obtain rfl := Option.some.inj HM.out
          go_wp2_with fail
          go_ret
          exact ⟨(by first | rfl | (refine congrArg (fun b => Ending.returned (Value.bool b)) ?_; first | (exact decide_eq_true (by omega)) | (exact decide_eq_false (by omega)))), HD.out⟩



def SE_Turned_L1 (F : Nat) (v0 : List Int) : Nat → (List Int) → (Int) → Option (List Int × Int)
  | 0, _, _ => none
  | g+1, v2, v3 => if 0 ≤ v3 then (ix v0 v3).bind fun y2 => (app v2 y2).bind fun y1 => SE_Turned_L1 F v0 g (y1) ((wrap64 (v3 - 1))) else some (v2, v3)
theorem SE_Turned_L1_0 (F : Nat) (v0 : List Int) (v2 : List Int) (v3 : Int) : SE_Turned_L1 F v0 0 v2 v3 = none := by rw [SE_Turned_L1]
theorem SE_Turned_L1_s (F g : Nat) (v0 : List Int) (v2 : List Int) (v3 : Int) : SE_Turned_L1 F v0 (g+1) v2 v3 = (if 0 ≤ v3 then (ix v0 v3).bind fun y2 => (app v2 y2).bind fun y1 => SE_Turned_L1 F v0 g (y1) ((wrap64 (v3 - 1))) else some (v2, v3)) := by rw [SE_Turned_L1]
def SE_Turned (F : Nat) (v0 : List Int) : Option (List Int) := (SE_Turned_L1 F (v0) F ([]) ((wrap64 (((v0).length : Int) - 1)))).bind fun o3 => some (o3.1)
set_option maxRecDepth 100000 in
set_option maxHeartbeats 1000000 in
theorem SE_Turned_ok {F : Nat} {v0 : List Int} {A0 : Option Addr} {r : List Int} (w : World) (cap0 : Nat) (hr0 : ReadsI w w.heap.size A0 v0) (h : SE_Turned F v0 = some r) :
    Calls Try.prog 8 #[.slice A0 v0.length cap0] w (PostG (fun v => v) (fun v => owI v r) w.heap.size w) := by
  have HR0 := Lib.hid hr0; clear hr0
  have HD := Lib.hid (Below.refl w.heap.size w)
  have HOA := Lib.hid (HP.nil (W := w) (B := w.heap.size))
  unfold SE_Turned at h
  have HM := Lib.hid h; clear h
  go_enter Try.func8, Try.ntmps8
  replace HOA := Lib.hid (show HP _ _ (.fl (owI (.slice none 0 0) ([])) :: _) from HOA.out.pushNil _ _)
  go_wp2_with fail
  obtain ⟨o2, ho, hm⟩ := obind HM.out
  replace HM := Lib.hid hm; have HL1 := Lib.hid ho; clear hm ho
  go_loopg [3, 4] F (fun gg u5 u6 wr => ∃ (x3 : List Int) (x4 : Int) (V7 : Value), V7 = u5 ∧ u6 = .int .i64 x4 ∧ Hid (Below w.heap.size w wr) ∧ Hid (HP wr w.heap.size [.fl (owI V7 (x3))]) ∧ Hid (SE_Turned_L1 F (v0) gg x3 x4 = some o2))
  case atStart => exact ⟨[], (wrap64 (((v0).length : Int) - 1)), (.slice none 0 0), rfl, rfl, HD, HOA, HL1⟩
  case round =>
    obtain ⟨x3, x4, V7, rfl, rfl, HD, HOA, HL1⟩ := hrel
    rename World => W8
    cases gk with
    | zero => exact absurd ((SE_Turned_L1_0 ..).symm.trans HL1.out) (by intro h; cases h)
    | succ g1 =>
      replace HL1 := Lib.hid ((SE_Turned_L1_s ..).symm.trans HL1.out)
      by_cases hc9 : 0 ≤ x4
      · replace HL1 := Lib.hid (ifT hc9 HL1.out)
        obtain ⟨y10, hy11, hm⟩ := obind HL1.out
        replace HL1 := Lib.hid hm; clear hm
        obtain ⟨b12, o13, ea14, _, f15, f16, f17⟩ := ReadsI.ix (rdI HD.out HR0.out) hy11
        cases ea14
        try simp only [Nat.zero_add, Nat.add_zero, Int.toNat_natCast, Int.toNat_zero, Int.toNat_one] at f17
        have HY19 := Lib.hid hy11; clear hy11
        obtain ⟨y20, hy21, hm⟩ := obind HL1.out
        replace HL1 := Lib.hid hm; clear hm
        obtain ⟨f22, hy21⟩ := app_some hy21; subst hy21
        have HF25 := Lib.hid f22; clear f22
        go_upto_region 4 with (at_builtin; refine hp_appI _ (.tmp 12) (.tmp 17) 23 Try.underlying23 rfl rfl (L1 := []) HOA.out rfl rfl HF25.out HD.out.size ?_; intro V23 W24 hoa hd)
        try clear hc9 f15 f16 f17
        replace HOA := Lib.hid (show HP W24 w.heap.size [.fl (owI V23 ((x3 ++ [y10])))] from hoa); clear hoa
        replace HD := Lib.hid (HD.out.trans hd); clear hd
        go_wp2_with fail
        go_roundg g1
        case measure => omega
        case rel => exact ⟨(x3 ++ [y10]), (wrap64 (x4 - 1)), V23, rfl, rfl, HD, HOA, HL1⟩
      · replace HL1 := Lib.hid (ifF hc9 HL1.out)
        have hc9d := decide_eq_false hc9
        obtain rfl := Option.some.inj HL1.out
        have hm := HM.out; try dsimp only at hm
        replace HM := Lib.hid hm; clear hm
        obtain rfl := Option.some.inj HM.out
        go_wp2_with fail
        try clear hc9 hc9d
        go_ret
        exact ⟨_, rfl, HOA.out.get (List.Mem.head _), HD.out⟩

def R3_Member_L1 (F : Nat) (v1 : Int) : Nat → (Int) → (Int) → Option (Int × Int)
  | 0, _, _ => none
  | g+1, v0, v3 => if v3 < v1 then R3_Member_L1 F v1 g ((wrap64 (Int.tdiv v0 2))) ((wrap64 (v3 + 1))) else some (v0, v3)
theorem R3_Member_L1_0 (F : Nat) (v1 : Int) (v0 : Int) (v3 : Int) : R3_Member_L1 F v1 0 v0 v3 = none := by rw [R3_Member_L1]
theorem R3_Member_L1_s (F g : Nat) (v1 : Int) (v0 : Int) (v3 : Int) : R3_Member_L1 F v1 (g+1) v0 v3 = (if v3 < v1 then R3_Member_L1 F v1 g ((wrap64 (Int.tdiv v0 2))) ((wrap64 (v3 + 1))) else some (v0, v3)) := by rw [R3_Member_L1]
def R3_Member (F : Nat) (v0 : Int) (v1 : Int) : Option (Bool) := (R3_Member_L1 F (v1) F (v0) (0)).bind fun o1 => (if (((o1.1 : Int).tmod 2) == 1) = true then some true else some false).bind fun b2 => some (b2)
set_option maxRecDepth 100000 in
set_option maxHeartbeats 1000000 in
theorem R3_Member_ok {F : Nat} {v0 : Int} {v1 : Int} {r : Bool} (w : World)  (h : R3_Member F v0 v1 = some r) :
    Calls Try.prog 43 #[.int .i64 v0, .int .i64 v1] w fun e w' => e = .returned (.bool r) ∧ w = w' := by
  unfold R3_Member at h
  have HM := Lib.hid h; clear h
  go_enter Try.func43, Try.ntmps43
  go_wp2_with fail
  obtain ⟨o1, ho, hm⟩ := obind HM.out
  replace HM := Lib.hid hm; have HL1 := Lib.hid ho; clear hm ho
  go_loopg [0, 5] F (fun gg u4 u5 wr => ∃ (x2 : Int) (x3 : Int), u4 = .int .i64 x2 ∧ u5 = .int .i64 x3 ∧ w = wr ∧ Hid (R3_Member_L1 F (v1) gg x2 x3 = some o1))
  case atStart => exact ⟨v0, 0, rfl, rfl, rfl, HL1⟩
  case round =>
    obtain ⟨x2, x3, rfl, rfl, rfl, HL1⟩ := hrel
    cases gk with
    | zero => exact absurd ((R3_Member_L1_0 ..).symm.trans HL1.out) (by intro h; cases h)
    | succ g1 =>
      replace HL1 := Lib.hid ((R3_Member_L1_s ..).symm.trans HL1.out)
      by_cases hc6 : x3 < v1
      · replace HL1 := Lib.hid (ifT hc6 HL1.out)
        go_wp2_with fail
        try clear hc6
        go_roundg g1
        case measure => omega
        case rel => exact ⟨(wrap64 (Int.tdiv x2 2)), (wrap64 (x3 + 1)), rfl, rfl, rfl, HL1⟩
      · replace HL1 := Lib.hid (ifF hc6 HL1.out)
        have hc6d := decide_eq_false hc6
        obtain rfl := Option.some.inj HL1.out
        have hm := HM.out; try dsimp only at hm
        replace HM := Lib.hid hm; clear hm
        obtain ⟨b7, hb, hm⟩ := obind HM.out
        replace HM := Lib.hid hm; have HB8 := Lib.hid hb; clear hm hb
        rcases Bool.eq_false_or_eq_true (((x2 : Int).tmod 2) == 1) with hc9 | hc9
        · replace HB8 := Lib.hid (ifT hc9 HB8.out)
          obtain rfl := Option.some.inj HB8.out
          obtain rfl := Option.some.inj HM.out
          go_wp2_with fail
          go_ret
          exact ⟨(by first | rfl | (refine congrArg (fun b => Ending.returned (Value.bool b)) ?_; first | (exact decide_eq_true (by omega)) | (exact decide_eq_false (by omega)))), rfl⟩
        · replace HB8 := Lib.hid (ifF (bF hc9) HB8.out)
          obtain rfl := Option.some.inj HB8.out
          obtain rfl := Option.some.inj HM.out
          go_wp2_with fail
          go_ret
          exact ⟨(by first | rfl | (refine congrArg (fun b => Ending.returned (Value.bool b)) ?_; first | (exact decide_eq_true (by omega)) | (exact decide_eq_false (by omega)))), rfl⟩

def R3_Power_L1 (F : Nat) (v0 : Int) : Nat → (Int) → (Int) → Option (Int × Int)
  | 0, _, _ => none
  | g+1, v2, v3 => if v3 < v0 then R3_Power_L1 F v0 g ((wrap64 (2 * v2))) ((wrap64 (v3 + 1))) else some (v2, v3)
theorem R3_Power_L1_0 (F : Nat) (v0 : Int) (v2 : Int) (v3 : Int) : R3_Power_L1 F v0 0 v2 v3 = none := by rw [R3_Power_L1]
theorem R3_Power_L1_s (F g : Nat) (v0 : Int) (v2 : Int) (v3 : Int) : R3_Power_L1 F v0 (g+1) v2 v3 = (if v3 < v0 then R3_Power_L1 F v0 g ((wrap64 (2 * v2))) ((wrap64 (v3 + 1))) else some (v2, v3)) := by rw [R3_Power_L1]
def R3_Power (F : Nat) (v0 : Int) : Option (Int) := (R3_Power_L1 F (v0) F (1) (0)).bind fun o1 => some (o1.1)
set_option maxRecDepth 100000 in
set_option maxHeartbeats 1000000 in
theorem R3_Power_ok {F : Nat} {v0 : Int} {r : Int} (w : World)  (h : R3_Power F v0 = some r) :
    Calls Try.prog 14 #[.int .i64 v0] w fun e w' => e = .returned (.int .i64 r) ∧ w = w' := by
  unfold R3_Power at h
  have HM := Lib.hid h; clear h
  go_enter Try.func14, Try.ntmps14
  go_wp2_with fail
  obtain ⟨o1, ho, hm⟩ := obind HM.out
  replace HM := Lib.hid hm; have HL1 := Lib.hid ho; clear hm ho
  go_loopg [3, 4] F (fun gg u4 u5 wr => ∃ (x2 : Int) (x3 : Int), u4 = .int .i64 x2 ∧ u5 = .int .i64 x3 ∧ w = wr ∧ Hid (R3_Power_L1 F (v0) gg x2 x3 = some o1))
  case atStart => exact ⟨1, 0, rfl, rfl, rfl, HL1⟩
  case round =>
    obtain ⟨x2, x3, rfl, rfl, rfl, HL1⟩ := hrel
    cases gk with
    | zero => exact absurd ((R3_Power_L1_0 ..).symm.trans HL1.out) (by intro h; cases h)
    | succ g1 =>
      replace HL1 := Lib.hid ((R3_Power_L1_s ..).symm.trans HL1.out)
      by_cases hc6 : x3 < v0
      · replace HL1 := Lib.hid (ifT hc6 HL1.out)
        go_wp2_with fail
        try clear hc6
        go_roundg g1
        case measure => omega
        case rel => exact ⟨(wrap64 (2 * x2)), (wrap64 (x3 + 1)), rfl, rfl, rfl, HL1⟩
      · replace HL1 := Lib.hid (ifF hc6 HL1.out)
        have hc6d := decide_eq_false hc6
        obtain rfl := Option.some.inj HL1.out
        have hm := HM.out; try dsimp only at hm
        replace HM := Lib.hid hm; clear hm
        obtain rfl := Option.some.inj HM.out
        go_wp2_with fail
        try clear hc6 hc6d
        go_ret
        exact ⟨rfl, rfl⟩

def R3_Members_L1 (F : Nat) (v0 : Int) : Nat → (List Int) → (Int) → Option (List Int × Int)
  | 0, _, _ => none
  | g+1, v2, v3 => if v3 < 9 then ((R3_Member F (v0) (v3)).bind fun y1 => if y1 = true then (app v2 v3).bind fun y2 => R3_Members_L1 F v0 g (y2) ((wrap64 (v3 + 1))) else R3_Members_L1 F v0 g (v2) ((wrap64 (v3 + 1)))) else some (v2, v3)
theorem R3_Members_L1_0 (F : Nat) (v0 : Int) (v2 : List Int) (v3 : Int) : R3_Members_L1 F v0 0 v2 v3 = none := by rw [R3_Members_L1]
theorem R3_Members_L1_s (F g : Nat) (v0 : Int) (v2 : List Int) (v3 : Int) : R3_Members_L1 F v0 (g+1) v2 v3 = (if v3 < 9 then ((R3_Member F (v0) (v3)).bind fun y1 => if y1 = true then (app v2 v3).bind fun y2 => R3_Members_L1 F v0 g (y2) ((wrap64 (v3 + 1))) else R3_Members_L1 F v0 g (v2) ((wrap64 (v3 + 1)))) else some (v2, v3)) := by rw [R3_Members_L1]
def R3_Members (F : Nat) (v0 : Int) : Option (List Int) := (R3_Members_L1 F (v0) F ([]) (0)).bind fun o3 => some (o3.1)
set_option maxRecDepth 100000 in
set_option maxHeartbeats 1000000 in
theorem R3_Members_ok {F : Nat} {v0 : Int} {r : List Int} (w : World)  (h : R3_Members F v0 = some r) :
    Calls Try.prog 15 #[.int .i64 v0] w (PostG (fun v => v) (fun v => owI v r) w.heap.size w) := by
  have HD := Lib.hid (Below.refl w.heap.size w)
  have HOA := Lib.hid (HP.nil (W := w) (B := w.heap.size))
  unfold R3_Members at h
  have HM := Lib.hid h; clear h
  go_enter Try.func15, Try.ntmps15
  replace HOA := Lib.hid (show HP _ _ (.fl (owI (.slice none 0 0) ([])) :: _) from HOA.out.pushNil _ _)
  go_wp2_with fail
  obtain ⟨o2, ho, hm⟩ := obind HM.out
  replace HM := Lib.hid hm; have HL1 := Lib.hid ho; clear hm ho
  go_loopg [3, 4] F (fun gg u5 u6 wr => ∃ (x3 : List Int) (x4 : Int) (V7 : Value), V7 = u5 ∧ u6 = .int .i64 x4 ∧ Hid (Below w.heap.size w wr) ∧ Hid (HP wr w.heap.size [.fl (owI V7 (x3))]) ∧ Hid (R3_Members_L1 F (v0) gg x3 x4 = some o2))
  case atStart => exact ⟨[], 0, (.slice none 0 0), rfl, rfl, HD, HOA, HL1⟩
  case round =>
    obtain ⟨x3, x4, V7, rfl, rfl, HD, HOA, HL1⟩ := hrel
    rename World => W8
    cases gk with
    | zero => exact absurd ((R3_Members_L1_0 ..).symm.trans HL1.out) (by intro h; cases h)
    | succ g1 =>
      replace HL1 := Lib.hid ((R3_Members_L1_s ..).symm.trans HL1.out)
      by_cases hc9 : x4 < 9
      · replace HL1 := Lib.hid (ifT hc9 HL1.out)
        obtain ⟨y12, hy10, hm⟩ := obind HL1.out
        replace HL1 := Lib.hid hm; clear hm
        have HC11 := R3_Member_ok W8  hy10
        clear hy10
        replace HC11 := Lib.hid HC11
        cases y12
        · replace HL1 := Lib.hid (ifF Bool.false_ne_true HL1.out)
          go_wp2_with fail
          refine HC11.out.mono ?_; rintro e w' ⟨rfl, rfl⟩
          go_wp2_with fail
          try clear hc9
          go_roundg g1
          case measure => omega
          case rel => exact ⟨x3, (wrap64 (x4 + 1)), V7, rfl, rfl, HD, HOA, HL1⟩
        · replace HL1 := Lib.hid (ifT rfl HL1.out)
          obtain ⟨y13, hy14, hm⟩ := obind HL1.out
          replace HL1 := Lib.hid hm; clear hm
          obtain ⟨f15, hy14⟩ := app_some hy14; subst hy14
          go_wp2_with fail
          refine HC11.out.mono ?_; rintro e w' ⟨rfl, rfl⟩
          have HF18 := Lib.hid f15; clear f15
          go_upto_region 4 with (at_builtin; refine hp_appI _ (.tmp 12) (.tmp 14) 23 Try.underlying23 rfl rfl (L1 := []) HOA.out rfl rfl HF18.out HD.out.size ?_; intro V16 W17 hoa hd)
          try clear hc9
          replace HOA := Lib.hid (show HP W17 w.heap.size [.fl (owI V16 ((x3 ++ [x4])))] from hoa); clear hoa
          replace HD := Lib.hid (HD.out.trans hd); clear hd
          go_wp2_with fail
          go_roundg g1
          case measure => omega
          case rel => exact ⟨(x3 ++ [x4]), (wrap64 (x4 + 1)), V16, rfl, rfl, HD, HOA, HL1⟩
      · replace HL1 := Lib.hid (ifF hc9 HL1.out)
        have hc9d := decide_eq_false hc9
        obtain rfl := Option.some.inj HL1.out
        have hm := HM.out; try dsimp only at hm
        replace HM := Lib.hid hm; clear hm
        obtain rfl := Option.some.inj HM.out
        go_wp2_with fail
        try clear hc9 hc9d
        go_ret
        exact ⟨_, rfl, HOA.out.get (List.Mem.head _), HD.out⟩




def R3_Most_L1 (F : Nat) (v0 : List Int) : Nat → (Int) → (Int) → Option (Int × Int)
  | 0, _, _ => none
  | g+1, v2, v3 => if v3 < ((v0).length : Int) then ((ix v0 v3).bind fun y2 => if v2 < y2 then (ix v0 v3).bind fun y3 => R3_Most_L1 F v0 g (y3) ((wrap64 (v3 + 1))) else R3_Most_L1 F v0 g (v2) ((wrap64 (v3 + 1)))) else some (v2, v3)
theorem R3_Most_L1_0 (F : Nat) (v0 : List Int) (v2 : Int) (v3 : Int) : R3_Most_L1 F v0 0 v2 v3 = none := by rw [R3_Most_L1]
theorem R3_Most_L1_s (F g : Nat) (v0 : List Int) (v2 : Int) (v3 : Int) : R3_Most_L1 F v0 (g+1) v2 v3 = (if v3 < ((v0).length : Int) then ((ix v0 v3).bind fun y2 => if v2 < y2 then (ix v0 v3).bind fun y3 => R3_Most_L1 F v0 g (y3) ((wrap64 (v3 + 1))) else R3_Most_L1 F v0 g (v2) ((wrap64 (v3 + 1)))) else some (v2, v3)) := by rw [R3_Most_L1]
def R3_Most (F : Nat) (v0 : List Int) : Option (Int) := (ix v0 0).bind fun y1 => (R3_Most_L1 F (v0) F (y1) (0)).bind fun o4 => some (o4.1)
set_option maxRecDepth 100000 in
set_option maxHeartbeats 1000000 in
theorem R3_Most_ok {F : Nat} {v0 : List Int} {A0 : Option Addr} {r : Int} (w : World) (cap0 : Nat) (hr0 : ReadsI w w.heap.size A0 v0) (h : R3_Most F v0 = some r) :
    Calls Try.prog 10 #[.slice A0 v0.length cap0] w fun e w' => e = .returned (.int .i64 r) ∧ w = w' := by
  have HR0 := Lib.hid hr0; clear hr0
  unfold R3_Most at h
  have HM := Lib.hid h; clear h
  go_enter Try.func10, Try.ntmps10
  obtain ⟨y1, hy2, hm⟩ := obind HM.out
  replace HM := Lib.hid hm; clear hm
  obtain ⟨b3, o4, ea5, _, f6, f7, f8⟩ := ReadsI.ix HR0.out hy2
  cases ea5
  try simp only [Nat.zero_add, Nat.add_zero, Int.toNat_natCast, Int.toNat_zero, Int.toNat_one] at f8
  have HY10 := Lib.hid hy2; clear hy2
  go_wp2_with fail
  try clear f6 f7 f8
  obtain ⟨o11, ho, hm⟩ := obind HM.out
  replace HM := Lib.hid hm; have HL1 := Lib.hid ho; clear hm ho
  go_loopg [3, 4] F (fun gg u14 u15 wr => ∃ (x12 : Int) (x13 : Int), u14 = .int .i64 x12 ∧ u15 = .int .i64 x13 ∧ w = wr ∧ Hid (R3_Most_L1 F (v0) gg x12 x13 = some o11))
  case atStart => exact ⟨y1, 0, rfl, rfl, rfl, HL1⟩
  case round =>
    obtain ⟨x12, x13, rfl, rfl, rfl, HL1⟩ := hrel
    cases gk with
    | zero => exact absurd ((R3_Most_L1_0 ..).symm.trans HL1.out) (by intro h; cases h)
    | succ g1 =>
      replace HL1 := Lib.hid ((R3_Most_L1_s ..).symm.trans HL1.out)
      by_cases hc16 : x13 < ((v0).length : Int)
      · replace HL1 := Lib.hid (ifT hc16 HL1.out)
        obtain ⟨y17, hy18, hm⟩ := obind HL1.out
        replace HL1 := Lib.hid hm; clear hm
        obtain ⟨b19, o20, ea21, _, f22, f23, f24⟩ := ReadsI.ix HR0.out hy18
        cases ea21
        try simp only [Nat.zero_add, Nat.add_zero, Int.toNat_natCast, Int.toNat_zero, Int.toNat_one] at f24
        have HY26 := Lib.hid hy18; clear hy18
        by_cases hc27 : x12 < y17
        · replace HL1 := Lib.hid (ifT hc27 HL1.out)
          obtain ⟨y28, hy29, hm⟩ := obind HL1.out
          replace HL1 := Lib.hid hm; clear hm
          obtain rfl := Option.some.inj (HY26.out.symm.trans hy29)
          clear hy29
          go_wp2_with fail
          try clear hc16 f22 f23 f24 hc27
          go_roundg g1
          case measure => omega
          case rel => exact ⟨y17, (wrap64 (x13 + 1)), rfl, rfl, rfl, HL1⟩
        · replace HL1 := Lib.hid (ifF hc27 HL1.out)
          have hc27d := decide_eq_false hc27
          go_wp2_with fail
          try clear hc16 f22 f23 f24 hc27 hc27d
          go_roundg g1
          case measure => omega
          case rel => exact ⟨x12, (wrap64 (x13 + 1)), rfl, rfl, rfl, HL1⟩
      · replace HL1 := Lib.hid (ifF hc16 HL1.out)
        have hc16d := decide_eq_false hc16
        obtain rfl := Option.some.inj HL1.out
        have hm := HM.out; try dsimp only at hm
        replace HM := Lib.hid hm; clear hm
        obtain rfl := Option.some.inj HM.out
        go_wp2_with fail
        try clear hc16 hc16d
        go_ret
        exact ⟨rfl, rfl⟩





end Go.Proofs.Ytfabhdadckohdaa
