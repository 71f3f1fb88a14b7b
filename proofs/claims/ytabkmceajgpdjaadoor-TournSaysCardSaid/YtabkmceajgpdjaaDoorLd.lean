import Derived.Test.YtabkmceajgpdjaaDoorD1
import Derived.Test.YtabkmceajgpdjaaDoorB
set_option linter.all false
set_option maxRecDepth 100000
namespace Go.Proofs.YtabkmceajgpdjaaDoor
open Go.RowKit
def R1_Degrees (F : Nat) (v0 : List Int) : Option (Int) := (if (((v0).length : Int) == 0) = true then some (5) else (if 8 < ((v0).length : Int) then some (4) else ((R1_All F (v0) (0) (7)).bind fun y1 => if y1 = true then some (0) else some (1))))
set_option maxRecDepth 100000 in
set_option maxHeartbeats 4000000 in
theorem R1_Degrees_ok {F : Nat} {v0 : List Int} {A0 : Option Addr} {r : Int} (w : World) (cap0 : Nat) (hr0 : ReadsI w w.heap.size A0 v0) (h : R1_Degrees F v0 = some r) :
    Calls Tryd.prog 12 #[.slice A0 v0.length cap0] w fun e w' => e = .returned (.int .i64 r) ∧ w = w' := by
  have HR0 := Lib.hid hr0; clear hr0
  unfold R1_Degrees at h
  have HM := Lib.hid h; clear h
  go_enter Tryd.func12, Tryd.ntmps12
  rcases Bool.eq_false_or_eq_true (((v0).length : Int) == 0) with hc1 | hc1
  · replace HM := Lib.hid (ifT hc1 HM.out)
    have HK2 := Lib.hid hc1
    obtain rfl := Option.some.inj HM.out
    go_wp2_with fail
    try clear hc1
    go_ret
    exact ⟨rfl, rfl⟩
  · replace HM := Lib.hid (ifF (bF hc1) HM.out)
    have HK2 := Lib.hid hc1
    by_cases hc3 : 8 < ((v0).length : Int)
    · replace HM := Lib.hid (ifT hc3 HM.out)
      have HK4 := Lib.hid hc3
      have hc3n := hc3; try norm_cast at hc3n
      obtain rfl := Option.some.inj HM.out
      go_wp2_with fail
      try clear hc1 hc3 hc3n
      go_ret
      exact ⟨rfl, rfl⟩
    · replace HM := Lib.hid (ifF hc3 HM.out)
      have hc3d := decide_eq_false hc3
      have HK4 := Lib.hid hc3
      have hc3n := hc3; try norm_cast at hc3n
      obtain ⟨y7, hy5, hm⟩ := obind HM.out
      replace HM := Lib.hid hm; clear hm
      have HC6 := R1_All_ok w cap0 HR0.out hy5
      clear hy5
      replace HC6 := Lib.hid HC6
      cases y7
      · replace HM := Lib.hid (ifF Bool.false_ne_true HM.out)
        obtain rfl := Option.some.inj HM.out
        go_wp2_with fail
        refine HC6.out.mono ?_; rintro e w' ⟨rfl, rfl⟩
        go_wp2_with fail
        try clear hc1 hc3 hc3n hc3d
        go_ret
        exact ⟨rfl, rfl⟩
      · replace HM := Lib.hid (ifT rfl HM.out)
        obtain rfl := Option.some.inj HM.out
        go_wp2_with fail
        refine HC6.out.mono ?_; rintro e w' ⟨rfl, rfl⟩
        go_wp2_with fail
        try clear hc1 hc3 hc3n hc3d
        go_ret
        exact ⟨rfl, rfl⟩
end Go.Proofs.YtabkmceajgpdjaaDoor
