import Derived.Test.YtpcmofhmhggcoaaDoorG1
set_option linter.all false
set_option maxRecDepth 100000
namespace Go.Proofs.YtpcmofhmhggcoaaDoor
open Go.RowKit
def R1_Beside (F : Nat) (v0 : List (Int × Int)) (v1 : Int) (v2 : Int) : Option (Bool) := ((R1_Goes F (v0) (v1) (v2)).bind fun y2 => if y2 = true then some true else (R1_Goes F (v0) (v2) (v1)).bind fun y3 => if y3 = true then some true else some false).bind fun b1 => some (b1)
set_option maxRecDepth 100000 in
set_option maxHeartbeats 1000000 in
theorem R1_Beside_ok {F : Nat} {v0 : List (Int × Int)} {A0 : Option Addr} {v1 : Int} {v2 : Int} {r : Bool} (w : World) (cap0 : Nat) (hr0 : ReadsL w w.heap.size A0 v0) (h : R1_Beside F v0 v1 v2 = some r) :
    Calls Tryd.prog 38 #[.slice A0 v0.length cap0, .int .i64 v1, .int .i64 v2] w fun e w' => e = .returned (.bool r) ∧ w = w' := by
  have HR0 := Lib.hid hr0; clear hr0
  unfold R1_Beside at h
  have HM := Lib.hid h; clear h
  go_enter Tryd.func38, Tryd.ntmps38
  obtain ⟨b1, hb, hm⟩ := obind HM.out
  have HM := Lib.hid hm; have HB2 := Lib.hid hb; clear hm hb
  obtain ⟨y3, hy4, hm⟩ := obind HB2.out
  have HB2 := Lib.hid hm; clear hm
  have HC5 := Lib.hid (R1_Goes_ok w cap0 HR0.out hy4)
  clear hy4
  cases y3
  · have HB2 := Lib.hid (ifF Bool.false_ne_true HB2.out)
    obtain ⟨y6, hy7, hm⟩ := obind HB2.out
    have HB2 := Lib.hid hm; clear hm
    have HC8 := Lib.hid (R1_Goes_ok w cap0 HR0.out hy7)
    clear hy7
    cases y6
    · have HB2 := Lib.hid (ifF Bool.false_ne_true HB2.out)
      obtain rfl := Option.some.inj HB2.out
      obtain rfl := Option.some.inj HM.out
      go_wp2_with fail
      refine HC5.out.mono ?_; rintro e w' ⟨rfl, rfl⟩
      go_wp2_with fail
      refine HC8.out.mono ?_; rintro e w' ⟨rfl, rfl⟩
      go_wp2_with fail
      go_ret
      exact ⟨rfl, rfl⟩
    · have HB2 := Lib.hid (ifT rfl HB2.out)
      obtain rfl := Option.some.inj HB2.out
      obtain rfl := Option.some.inj HM.out
      go_wp2_with fail
      refine HC5.out.mono ?_; rintro e w' ⟨rfl, rfl⟩
      go_wp2_with fail
      refine HC8.out.mono ?_; rintro e w' ⟨rfl, rfl⟩
      go_wp2_with fail
      go_ret
      exact ⟨rfl, rfl⟩
  · have HB2 := Lib.hid (ifT rfl HB2.out)
    obtain rfl := Option.some.inj HB2.out
    obtain rfl := Option.some.inj HM.out
    go_wp2_with fail
    refine HC5.out.mono ?_; rintro e w' ⟨rfl, rfl⟩
    go_wp2_with fail
    go_ret
    exact ⟨rfl, rfl⟩
end Go.Proofs.YtpcmofhmhggcoaaDoor
