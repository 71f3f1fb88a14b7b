import Derived.Test.YtfabhdadckohdaaHP2
import Derived.Test.YtfabhdadckohdaaTl
set_option linter.all false
set_option maxRecDepth 100000
namespace Go.Proofs.Ytfabhdadckohdaa
open Go.RowKit
def cmp_isNaN_int (F : Nat) (v0 : Int) : Option (Bool) := some false
set_option maxHeartbeats 4000000 in
theorem cmp_isNaN_int_ok {F : Nat} {v0 : Int} {r : Bool} (w : World)  (h : cmp_isNaN_int F v0 = some r) :
    Calls Try.prog 65 #[.int .i64 v0] w fun e w' => e = .returned (.bool r) ∧ w = w' := by
  obtain rfl := Option.some.inj h
  go_enter Try.func65, Try.ntmps65
  go_wp2_with fail
  go_ret
  exact ⟨by first | rfl | (simp), rfl⟩
def cmp_Compare_int (F : Nat) (v0 : Int) (v1 : Int) : Option (Int) := (cmp_isNaN_int F (v0)).bind fun y1 => (cmp_isNaN_int F (v1)).bind fun y2 => (if y1 = true then (if y2 = true then some (0) else some ((-1))) else (if y2 = true then some (1) else (if v0 < v1 then some ((-1)) else (if v1 < v0 then some (1) else some (0)))))
set_option maxRecDepth 100000 in
set_option maxHeartbeats 4000000 in
theorem cmp_Compare_int_ok {F : Nat} {v0 : Int} {v1 : Int} {r : Int} (w : World)  (h : cmp_Compare_int F v0 v1 = some r) :
    Calls Try.prog 48 #[.int .i64 v0, .int .i64 v1] w fun e w' => e = .returned (.int .i64 r) ∧ w = w' := by
  unfold cmp_Compare_int at h
  have HM := Lib.hid h; clear h
  go_enter Try.func48, Try.ntmps48
  obtain ⟨y3, hy1, hm⟩ := obind HM.out
  replace HM := Lib.hid hm; clear hm
  have HC2 := cmp_isNaN_int_ok w  hy1
  clear hy1
  replace HC2 := Lib.hid HC2
  obtain ⟨y6, hy4, hm⟩ := obind HM.out
  replace HM := Lib.hid hm; clear hm
  have HC5 := cmp_isNaN_int_ok w  hy4
  clear hy4
  replace HC5 := Lib.hid HC5
  cases y3
  · replace HM := Lib.hid (ifF Bool.false_ne_true HM.out)
    cases y6
    · replace HM := Lib.hid (ifF Bool.false_ne_true HM.out)
      by_cases hc7 : v0 < v1
      · replace HM := Lib.hid (ifT hc7 HM.out)
        have HK8 := Lib.hid hc7
        obtain rfl := Option.some.inj HM.out
        go_wp2_with fail
        refine HC2.out.mono ?_; rintro e w' ⟨rfl, rfl⟩
        go_wp2_with fail
        refine HC5.out.mono ?_; rintro e w' ⟨rfl, rfl⟩
        go_wp2_with fail
        try clear hc7
        go_ret
        exact ⟨rfl, rfl⟩
      · replace HM := Lib.hid (ifF hc7 HM.out)
        have hc7d := decide_eq_false hc7
        have HK8 := Lib.hid hc7
        by_cases hc9 : v1 < v0
        · replace HM := Lib.hid (ifT hc9 HM.out)
          have HK10 := Lib.hid hc9
          obtain rfl := Option.some.inj HM.out
          go_wp2_with fail
          refine HC2.out.mono ?_; rintro e w' ⟨rfl, rfl⟩
          go_wp2_with fail
          refine HC5.out.mono ?_; rintro e w' ⟨rfl, rfl⟩
          go_wp2_with fail
          try clear hc7 hc7d hc9
          go_ret
          exact ⟨rfl, rfl⟩
        · replace HM := Lib.hid (ifF hc9 HM.out)
          have hc9d := decide_eq_false hc9
          have HK10 := Lib.hid hc9
          obtain rfl := Option.some.inj HM.out
          go_wp2_with fail
          refine HC2.out.mono ?_; rintro e w' ⟨rfl, rfl⟩
          go_wp2_with fail
          refine HC5.out.mono ?_; rintro e w' ⟨rfl, rfl⟩
          go_wp2_with fail
          try clear hc7 hc7d hc9 hc9d
          go_ret
          exact ⟨rfl, rfl⟩
    · replace HM := Lib.hid (ifT rfl HM.out)
      obtain rfl := Option.some.inj HM.out
      go_wp2_with fail
      refine HC2.out.mono ?_; rintro e w' ⟨rfl, rfl⟩
      go_wp2_with fail
      refine HC5.out.mono ?_; rintro e w' ⟨rfl, rfl⟩
      go_wp2_with fail
      go_ret
      exact ⟨rfl, rfl⟩
  · replace HM := Lib.hid (ifT rfl HM.out)
    cases y6
    · replace HM := Lib.hid (ifF Bool.false_ne_true HM.out)
      obtain rfl := Option.some.inj HM.out
      go_wp2_with fail
      refine HC2.out.mono ?_; rintro e w' ⟨rfl, rfl⟩
      go_wp2_with fail
      refine HC5.out.mono ?_; rintro e w' ⟨rfl, rfl⟩
      go_wp2_with fail
      go_ret
      exact ⟨rfl, rfl⟩
    · replace HM := Lib.hid (ifT rfl HM.out)
      obtain rfl := Option.some.inj HM.out
      go_wp2_with fail
      refine HC2.out.mono ?_; rintro e w' ⟨rfl, rfl⟩
      go_wp2_with fail
      refine HC5.out.mono ?_; rintro e w' ⟨rfl, rfl⟩
      go_wp2_with fail
      go_ret
      exact ⟨rfl, rfl⟩
end Go.Proofs.Ytfabhdadckohdaa
