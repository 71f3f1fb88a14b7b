import Derived.Test.YtgihnflaikmakaaDoorGR
set_option linter.all false
set_option maxRecDepth 100000
namespace Go.Proofs.YtgihnflaikmakaaDoor
open Go.RowKit
def menger_check (F : Nat) (v0 : Int) (v1 : List (Int × Int)) (v2 : Int) (v3 : Int) : Option (Int) := (mCheck (v0) (v1)).bind fun y1 => (if (y1 != 0) = true then some (y1) else ((core_All F ([v2, v3]) (0) ((wrap64 (v0 - 1)))).bind fun y2 => if y2 = true then (if (v2 == v3) = true then some (3) else some (0)) else some (1)))
set_option maxRecDepth 100000 in
set_option maxHeartbeats 1000000 in
theorem menger_check_ok {F : Nat} {v0 : Int} {v1 : List (Int × Int)} {A1 : Option Addr} {v2 : Int} {v3 : Int} {r : Int} (w : World) (cap1 : Nat) (hr1 : ReadsL w w.heap.size A1 v1) (h : menger_check F v0 v1 v2 v3 = some r) :
    Calls Tryd.prog 16 #[.int .i64 v0, .slice A1 v1.length cap1, .int .i64 v2, .int .i64 v3] w fun e w' => e = .returned (errV 48 r) ∧ Below w.heap.size w w' := by
  have HR1 := Lib.hid hr1; clear hr1
  have HD := Lib.hid (Below.refl w.heap.size w)
  have HOA := Lib.hid (HP.nil (W := w) (B := w.heap.size))
  unfold menger_check at h
  have HM := Lib.hid h; clear h
  go_enter Tryd.func16, Tryd.ntmps16
  obtain ⟨y3, hy1, hm⟩ := obind HM.out
  replace HM := Lib.hid hm; clear hm
  have HC2 := mCheck_ok w cap1 (rdL HD.out HR1.out) hy1
  clear hy1
  by_cases hz4 : y3 = 0
  · subst hz4
    rw [errV_zero] at HC2; replace HC2 := Lib.hid HC2
    go_wp2_with fail
    refine HC2.out.mono ?_; rintro e W5 ⟨rfl, hd⟩
    replace HOA := Lib.hid (HOA.out.below hd)
    replace HD := Lib.hid (HD.out.trans (hd.mono HD.out.size))
    clear hd
    replace HM := Lib.hid (ifF (by decide) HM.out)
    have hd : Below W5.heap.size W5 (World.alloc W5 (.cells #[Value.int .i64 (v2), Value.int .i64 (v3)] 3)) := (Below.refl _ _).alloc (Nat.le_refl _) _
    have ho : (owI (.slice (some ⟨W5.heap.size, 0, none⟩) 2 2) [v2, v3]).ok (World.alloc W5 (.cells #[Value.int .i64 (v2), Value.int .i64 (v3)] 3)) W5.heap.size := litI_ok W5 [v2, v3] (by unfold maxLen; simp)
    replace HOA := Lib.hid (HOA.out.call hd HD.out.size ho); clear ho
    replace HD := Lib.hid (HD.out.trans (hd.mono HD.out.size))
    clear hd
    obtain ⟨y12, hy10, hm⟩ := obind HM.out
    replace HM := Lib.hid hm; clear hm
    have HC11 := core_All_ok (World.alloc W5 (.cells #[Value.int .i64 (v2), Value.int .i64 (v3)] 3)) 2 (HP.rd_I HOA.out (List.Mem.head _)) hy10
    clear hy10
    replace HC11 := Lib.hid HC11
    go_wp2_with fail
    refine HC11.out.mono ?_; rintro e w' ⟨rfl, rfl⟩
    generalize hW : World.alloc W5 _ = W8 at *
    clear hW
    cases y12
    · replace HM := Lib.hid (ifF Bool.false_ne_true HM.out)
      obtain rfl := Option.some.inj HM.out
      go_wp2_with fail
      go_ret
      exact ⟨rfl, HD.out⟩
    · replace HM := Lib.hid (ifT rfl HM.out)
      rcases Bool.eq_false_or_eq_true (v2 == v3) with hc13 | hc13
      · replace HM := Lib.hid (ifT hc13 HM.out)
        obtain rfl := Option.some.inj HM.out
        go_wp2_with fail
        try clear hc13
        go_ret
        exact ⟨rfl, HD.out⟩
      · replace HM := Lib.hid (ifF (bF hc13) HM.out)
        obtain rfl := Option.some.inj HM.out
        go_wp2_with fail
        try clear hc13
        go_ret
        exact ⟨rfl, HD.out⟩
  · rw [errV_pos _ hz4] at HC2; replace HC2 := Lib.hid HC2
    go_wp2_with fail
    refine HC2.out.mono ?_; rintro e W6 ⟨rfl, hd⟩
    replace HOA := Lib.hid (HOA.out.below hd)
    replace HD := Lib.hid (HD.out.trans (hd.mono HD.out.size))
    clear hd
    have HZ7 := Lib.hid hz4; clear hz4
    replace HM := Lib.hid (ifT (bne_iff_ne.2 HZ7.out) HM.out)
    obtain rfl := Option.some.inj HM.out
    go_wp2_with fail
    go_ret
    exact ⟨(by first | (rw [errV_pos _ HZ7.out]; rfl) | rw [errV_pos _ HZ7.out]), HD.out⟩
end Go.Proofs.YtgihnflaikmakaaDoor
