import Derived.Test.YtfaemblfffbmfaaDoorCmp
import Derived.Test.YtfaemblfffbmfaaDoorR2
set_option linter.all false
set_option maxRecDepth 100000
namespace Go.Proofs.YtfaemblfffbmfaaDoor
open Go.RowKit
def brambleweir_rank_Greedy_1 (F : Nat) (v1000 : List Int) (v0 : Int) (v1 : Int) : Option (Int) := (ix v1000 v1).bind fun y1 => (ix v1000 v0).bind fun y2 => (cmp_Compare_int F (y1) (y2)).bind fun y3 => some (y3)
set_option maxRecDepth 100000 in
set_option maxHeartbeats 4000000 in
theorem brambleweir_rank_Greedy_1_ok {F : Nat} {v0 : Int} {v1 : Int} {v1000 : List Int} {g1000 : Nat} {A1000 : Option Addr} {r : Int} (w : World) (cap1000 : Nat) (hr1000 : ReadsI w w.heap.size A1000 v1000) (hx1000 : w.cell? ⟨g1000, 0, none⟩ = some (.slice A1000 v1000.length cap1000)) (h : brambleweir_rank_Greedy_1 F v1000 v0 v1 = some r) :
    Calls Tryd.prog 37 #[.int .i64 v0, .int .i64 v1, .pointer (some ⟨g1000, 0, none⟩)] w fun e w' => e = .returned (.int .i64 r) ∧ Dr w w' := by
  have HR1000 := Lib.hid hr1000; clear hr1000
  have HX1000 := Lib.hid hx1000; clear hx1000
  have HD := Lib.hid (Dr.refl w)
  unfold brambleweir_rank_Greedy_1 at h
  have HM := Lib.hid h; clear h
  go_enter Tryd.func37, Tryd.ntmps37
  try go_wp2_with fail
  have fb1 := ((HD.out.below _).cell (p := ⟨g1000, 0, none⟩) (World.block_lt_of_cell? _ _ HX1000.out)).trans HX1000.out
  obtain ⟨y2, hy3, hm⟩ := obind HM.out
  replace HM := Lib.hid hm; clear hm
  obtain ⟨b4, o5, ea6, _, f7, f8, f9⟩ := ReadsI.ix (rdI (HD.out.below _) HR1000.out) hy3
  cases ea6
  try simp only [Nat.zero_add, Nat.add_zero, Int.toNat_natCast, Int.toNat_zero, Int.toNat_one] at f9
  have HY11 := Lib.hid hy3; clear hy3
  obtain ⟨y12, hy13, hm⟩ := obind HM.out
  replace HM := Lib.hid hm; clear hm
  obtain ⟨b14, o15, ea16, _, f17, f18, f19⟩ := ReadsI.ix (rdI (HD.out.below _) HR1000.out) hy13
  cases ea16
  try simp only [Nat.zero_add, Nat.add_zero, Int.toNat_natCast, Int.toNat_zero, Int.toNat_one] at f19
  have HY21 := Lib.hid hy13; clear hy13
  obtain ⟨y24, hy22, hm⟩ := obind HM.out
  replace HM := Lib.hid hm; clear hm
  have HC23 := Lib.hid (fun m => cmp_Compare_int_ok (w.drewN m)  hy22)
  clear hy22
  go_quiet (first | (go_at_call 38; exact quiet_left (HC23.out _)))
  generalize hW : World.drewN w _ = W25
  have hd : Dr w W25 := ⟨_, hW.symm⟩
  clear hW
  try clear fb1 f7 f8 f9 f17 f18 f19
  replace HD := Lib.hid (HD.out.trans hd); clear hd
  obtain rfl := Option.some.inj HM.out
  go_wp2_with fail
  go_ret
  exact ⟨rfl, HD.out⟩
end Go.Proofs.YtfaemblfffbmfaaDoor
