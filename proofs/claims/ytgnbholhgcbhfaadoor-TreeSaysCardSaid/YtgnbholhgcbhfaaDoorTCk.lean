import Derived.Test.YtgnbholhgcbhfaaDoorGR
import Derived.Test.YtgnbholhgcbhfaaDoorBox
import Derived.Test.YtgnbholhgcbhfaaDoorFrom
set_option linter.all false
set_option maxRecDepth 100000
namespace Go.Proofs.YtgnbholhgcbhfaaDoor
open Go.RowKit
attribute [local go_sem] Oper.semAt_some
def tree_Check (F : Nat) (v0 : Int) (v1 : List (Int × Int)) : Option (Int) := (mCheck (v0) (v1)).bind fun y1 => (if (y1 != 0) = true then some (y1) else ((if (((v1).length : Int) != (wrap64 (v0 - 1))) = true then some true else (mBeside (v0) (v1)).bind fun y3 => (sBelow (v0)).bind fun y4 => (core_Reach F (0) (y3) (y4)).bind fun y5 => (sBelow (v0)).bind fun y6 => if (y5 != y6) = true then some true else some false).bind fun b2 => if b2 = true then some (7) else some (0)))
set_option maxRecDepth 100000 in
set_option maxHeartbeats 4000000 in
theorem tree_Check_ok {F : Nat} {v0 : Int} {v1 : List (Int × Int)} {A1 : Option Addr} {r : Int} (w : World) (cap1 : Nat) (hr1 : ReadsL w w.heap.size A1 v1) (h : tree_Check F v0 v1 = some r) :
    Calls Tryd.prog 6 #[.int .i64 v0, .slice A1 v1.length cap1] w fun e w' => e = .returned (errV 43 r) ∧ Below w.heap.size w w' := by
  have HR1 := Lib.hid hr1; clear hr1
  have HD := Lib.hid (Below.refl w.heap.size w)
  have HOA := Lib.hid (HP.nil (W := w) (B := w.heap.size))
  unfold tree_Check at h
  have HM := Lib.hid h; clear h
  go_enter Tryd.func6, Tryd.ntmps6
  obtain ⟨y3, hy1, hm⟩ := obind HM.out
  replace HM := Lib.hid hm; clear hm
  have HC2 := mCheck_ok w cap1 (rdL HD.out HR1.out) hy1
  clear hy1
  by_cases hz4 : y3 = 0
  · subst hz4
    rw [errV_zero] at HC2; replace HC2 := Lib.hid HC2
    go_wp2_with fail
    refine HC2.out.mono ?_; rintro e W5 ⟨rfl, hd⟩
    replace HOA := Lib.hid (HOA.out.below hd)
    replace HD := Lib.hid (HD.out.trans (hd.mono HD.out.size))
    clear hd
    replace HM := Lib.hid (ifF (by decide) HM.out)
    obtain ⟨b8, hb, hm⟩ := obind HM.out
    replace HM := Lib.hid hm; have HB9 := Lib.hid hb; clear hm hb
    rcases Bool.eq_false_or_eq_true (((v1).length : Int) != (wrap64 (v0 - 1))) with hc10 | hc10
    · replace HB9 := Lib.hid (ifT hc10 HB9.out)
      have HK11 := Lib.hid hc10
      obtain rfl := Option.some.inj HB9.out
      replace HM := Lib.hid (ifT (by first | rfl | trivial) HM.out)
      obtain rfl := Option.some.inj HM.out
      go_wp2_with fail
      try clear hc10
      go_ret
      exact ⟨rfl, HD.out⟩
    · replace HB9 := Lib.hid (ifF (bF hc10) HB9.out)
      have HK11 := Lib.hid hc10
      obtain ⟨y14, hy12, hm⟩ := obind HB9.out
      replace HB9 := Lib.hid hm; clear hm
      have HC13 := mBeside_ok W5 cap1 (rdL HD.out HR1.out) hy12
      clear hy12
      replace HC13 := Lib.hid HC13
      go_wp2_with fail
      refine HC13.out.mono ?_; rintro e W15 ⟨V16, rfl, ho, hd⟩
      try clear hc10
      replace HOA := Lib.hid (HOA.out.call hd HD.out.size ho); clear ho
      replace HD := Lib.hid (HD.out.trans (hd.mono HD.out.size))
      clear hd
      obtain ⟨y20, hy18, hm⟩ := obind HB9.out
      replace HB9 := Lib.hid hm; clear hm
      have HC19 := sBelow_ok W15  hy18
      clear hy18
      replace HC19 := Lib.hid HC19
      obtain ⟨y23, hy21, hm⟩ := obind HB9.out
      replace HB9 := Lib.hid hm; clear hm
      obtain ⟨A24, cap25, he, _⟩ := HP.open_M HOA.out (List.Mem.head _)
      subst he
      have HC22 := core_Reach_ok W15 cap25 (HP.rd_M HOA.out (List.Mem.head _)) hy21
      clear hy21
      replace HC22 := Lib.hid HC22
      go_wp2_with fail
      refine HC19.out.mono ?_; rintro e w' ⟨rfl, rfl⟩
      go_wp2_with fail
      refine HC22.out.mono ?_; rintro e W26 ⟨rfl, hd⟩
      replace HOA := Lib.hid (HOA.out.below hd)
      replace HD := Lib.hid (HD.out.trans (hd.mono HD.out.size))
      clear hd
      obtain ⟨y29, hy27, hm⟩ := obind HB9.out
      replace HB9 := Lib.hid hm; clear hm
      have HC28 := sBelow_ok W26  hy27
      clear hy27
      replace HC28 := Lib.hid HC28
      rcases Bool.eq_false_or_eq_true (y23 != y29) with hc30 | hc30
      · replace HB9 := Lib.hid (ifT hc30 HB9.out)
        have HK31 := Lib.hid hc30
        obtain rfl := Option.some.inj HB9.out
        replace HM := Lib.hid (ifT (by first | rfl | trivial) HM.out)
        obtain rfl := Option.some.inj HM.out
        go_wp2_with fail
        refine HC28.out.mono ?_; rintro e w' ⟨rfl, rfl⟩
        go_wp2_with fail
        try clear hc30
        go_ret
        exact ⟨rfl, HD.out⟩
      · replace HB9 := Lib.hid (ifF (bF hc30) HB9.out)
        have HK31 := Lib.hid hc30
        obtain rfl := Option.some.inj HB9.out
        replace HM := Lib.hid (ifF (by first | exact Bool.false_ne_true | exact not_false) HM.out)
        obtain rfl := Option.some.inj HM.out
        go_wp2_with fail
        refine HC28.out.mono ?_; rintro e w' ⟨rfl, rfl⟩
        go_wp2_with fail
        try clear hc30
        go_ret
        exact ⟨rfl, HD.out⟩
  · rw [errV_pos _ hz4] at HC2; replace HC2 := Lib.hid HC2
    go_wp2_with fail
    refine HC2.out.mono ?_; rintro e W6 ⟨rfl, hd⟩
    replace HOA := Lib.hid (HOA.out.below hd)
    replace HD := Lib.hid (HD.out.trans (hd.mono HD.out.size))
    clear hd
    have HZ7 := Lib.hid hz4; clear hz4
    replace HM := Lib.hid (ifT (bne_iff_ne.2 HZ7.out) HM.out)
    obtain rfl := Option.some.inj HM.out
    go_wp2_with fail
    go_ret
    exact ⟨(by first | (rw [errV_pos _ HZ7.out]; rfl) | rw [errV_pos _ HZ7.out]), HD.out⟩
end Go.Proofs.YtgnbholhgcbhfaaDoor
