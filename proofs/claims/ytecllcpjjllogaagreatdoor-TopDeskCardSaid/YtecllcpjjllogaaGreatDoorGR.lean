import Derived.Test.YtecllcpjjllogaaGreatDoorTl
set_option linter.all false
set_option maxRecDepth 100000
namespace Go.Proofs.YtecllcpjjllogaaGreatDoor
open Go.RowKit
def core_Within (F : Nat) (v0 : Int) (v1 : Int) (v2 : Int) : Option (Bool) := (if v1 ≤ v0 then if v0 ≤ v2 then some true else some false else some false).bind fun b1 => some (b1)
set_option maxRecDepth 100000 in
set_option maxHeartbeats 1000000 in
theorem core_Within_ok {F : Nat} {v0 : Int} {v1 : Int} {v2 : Int} {r : Bool} (w : World)  (h : core_Within F v0 v1 v2 = some r) :
    Calls Tryz.prog 63 #[.int .i64 v0, .int .i64 v1, .int .i64 v2] w fun e w' => e = .returned (.bool r) ∧ w = w' := by
  unfold core_Within at h
  have HM := Lib.hid h; clear h
  go_enter Tryz.func63, Tryz.ntmps63
  obtain ⟨b1, hb, hm⟩ := obind HM.out
  replace HM := Lib.hid hm; have HB2 := Lib.hid hb; clear hm hb
  by_cases hc3 : v1 ≤ v0
  · replace HB2 := Lib.hid (ifT hc3 HB2.out)
    by_cases hc4 : v0 ≤ v2
    · replace HB2 := Lib.hid (ifT hc4 HB2.out)
      obtain rfl := Option.some.inj HB2.out
      obtain rfl := Option.some.inj HM.out
      go_wp2_with fail
      go_ret
      exact ⟨(by first | rfl | (refine congrArg (fun b => Ending.returned (Value.bool b)) ?_; first | (exact decide_eq_true (by omega)) | (exact decide_eq_false (by omega)))), rfl⟩
    · replace HB2 := Lib.hid (ifF hc4 HB2.out)
      have hc4d := decide_eq_false hc4
      obtain rfl := Option.some.inj HB2.out
      obtain rfl := Option.some.inj HM.out
      go_wp2_with fail
      go_ret
      exact ⟨(by first | rfl | (refine congrArg (fun b => Ending.returned (Value.bool b)) ?_; first | (exact decide_eq_true (by omega)) | (exact decide_eq_false (by omega)))), rfl⟩
  · replace HB2 := Lib.hid (ifF hc3 HB2.out)
    have hc3d := decide_eq_false hc3
    obtain rfl := Option.some.inj HB2.out
    obtain rfl := Option.some.inj HM.out
    go_wp2_with fail
    go_ret
    exact ⟨(by first | rfl | (refine congrArg (fun b => Ending.returned (Value.bool b)) ?_; first | (exact decide_eq_true (by omega)) | (exact decide_eq_false (by omega)))), rfl⟩

def core_All_L1 (F : Nat) (v0 : List Int) (v1 : Int) (v2 : Int) : Nat → (Int) → Option ((Unit) ⊕ (Bool))
  | 0, _ => none
  | g+1, j => if j < ((v0).length : Int) then (ix v0 j).bind fun y => ((core_Within F (y) (v1) (v2)).bind fun y1 => if y1 = true then core_All_L1 F v0 v1 v2 g (wrap64 (j + 1)) else some (.inr (false))) else some (.inl ())
theorem core_All_L1_0 (F : Nat) (v0 : List Int) (v1 : Int) (v2 : Int) (j : Int) : core_All_L1 F v0 v1 v2 0 j = none := by rw [core_All_L1]
theorem core_All_L1_s (F g : Nat) (v0 : List Int) (v1 : Int) (v2 : Int) (j : Int) : core_All_L1 F v0 v1 v2 (g+1) j = (if j < ((v0).length : Int) then (ix v0 j).bind fun y => ((core_Within F (y) (v1) (v2)).bind fun y1 => if y1 = true then core_All_L1 F v0 v1 v2 g (wrap64 (j + 1)) else some (.inr (false))) else some (.inl ())) := by rw [core_All_L1]
def core_All (F : Nat) (v0 : List Int) (v1 : Int) (v2 : Int) : Option (Bool) := (core_All_L1 F (v0) (v1) (v2) F (0)).bind fun o2 => match o2 with | .inr r => some (r) | .inl o2 => some (true)
set_option maxRecDepth 100000 in
set_option maxHeartbeats 1000000 in
theorem core_All_ok {F : Nat} {v0 : List Int} {A0 : Option Addr} {v1 : Int} {v2 : Int} {r : Bool} (w : World) (cap0 : Nat) (hr0 : ReadsI w w.heap.size A0 v0) (h : core_All F v0 v1 v2 = some r) :
    Calls Tryz.prog 47 #[.slice A0 v0.length cap0, .int .i64 v1, .int .i64 v2] w fun e w' => e = .returned (.bool r) ∧ w = w' := by
  have HR0 := Lib.hid hr0; clear hr0
  unfold core_All at h
  have HM := Lib.hid h; clear h
  go_enter Tryz.func47, Tryz.ntmps47
  go_wp2_with fail
  obtain ⟨o1, ho, hm⟩ := obind HM.out
  replace HM := Lib.hid hm; have HL1 := Lib.hid ho; clear hm ho
  go_loopg [11] F (fun gg uj wr => ∃ (j2 : Int), uj = .int .i64 j2 ∧ w = wr ∧ Hid (core_All_L1 F (v0) (v1) (v2) gg j2 = some o1))
  case atStart => exact ⟨0, rfl, rfl, HL1⟩
  case round =>
    obtain ⟨j2, rfl, rfl, HL1⟩ := hrel
    cases gk with
    | zero => exact absurd ((core_All_L1_0 ..).symm.trans HL1.out) (by intro h; cases h)
    | succ g1 =>
      replace HL1 := Lib.hid ((core_All_L1_s ..).symm.trans HL1.out)
      by_cases hc3 : j2 < ((v0).length : Int)
      · replace HL1 := Lib.hid (ifT hc3 HL1.out)
        obtain ⟨y4, hy5, hm⟩ := obind HL1.out
        replace HL1 := Lib.hid hm; clear hm
        obtain ⟨b6, o7, ea8, _, f9, f10, f11⟩ := ReadsI.ix HR0.out hy5
        cases ea8
        try simp only [Nat.zero_add, Nat.add_zero, Int.toNat_natCast, Int.toNat_zero, Int.toNat_one] at f11
        have HY13 := Lib.hid hy5; clear hy5
        obtain ⟨y16, hy14, hm⟩ := obind HL1.out
        replace HL1 := Lib.hid hm; clear hm
        have HC15 := core_Within_ok w  hy14
        clear hy14
        replace HC15 := Lib.hid HC15
        cases y16
        · replace HL1 := Lib.hid (ifF Bool.false_ne_true HL1.out)
          obtain rfl := Option.some.inj HL1.out
          have hm := HM.out; try dsimp only at hm
          replace HM := Lib.hid hm; clear hm
          obtain rfl := Option.some.inj HM.out
          go_wp2_with fail
          refine HC15.out.mono ?_; rintro e w' ⟨rfl, rfl⟩
          go_wp2_with fail
          try clear f9 f10 f11
          go_ret
          exact ⟨(by first | rfl | (refine congrArg (fun b => Ending.returned (Value.bool b)) ?_; first | (exact decide_eq_true (by omega)) | (exact decide_eq_false (by omega)))), rfl⟩
        · replace HL1 := Lib.hid (ifT rfl HL1.out)
          go_wp2_with fail
          refine HC15.out.mono ?_; rintro e w' ⟨rfl, rfl⟩
          go_wp2_with fail
          try clear hc3 f9 f10 f11
          go_roundg g1
          case measure => omega
          case rel => exact ⟨(wrap64 (j2 + 1)), rfl, rfl, HL1⟩
      · replace HL1 := Lib.hid (ifF hc3 HL1.out)
        have hc3d := decide_eq_false hc3
        obtain rfl := Option.some.inj HL1.out
        have hm := HM.out; try dsimp only at hm
        replace HM := Lib.hid hm; clear hm
        obtain rfl := Option.some.inj HM.out
        go_wp2_with fail
        go_ret
        exact ⟨(by first | rfl | (refine congrArg (fun b => Ending.returned (Value.bool b)) ?_; first | (exact decide_eq_true (by omega)) | (exact decide_eq_false (by omega)))), rfl⟩





























end Go.Proofs.YtecllcpjjllogaaGreatDoor
