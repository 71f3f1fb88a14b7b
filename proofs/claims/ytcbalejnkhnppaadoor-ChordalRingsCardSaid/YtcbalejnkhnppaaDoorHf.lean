import Derived.Test.YtcbalejnkhnppaaDoorHa
import Derived.Test.YtcbalejnkhnppaaDoorGR
import Derived.Test.YtcbalejnkhnppaaDoorSlc
import Derived.Test.YtcbalejnkhnppaaDoorCh
import Derived.Test.YtcbalejnkhnppaaDoorCh2
import Derived.Test.YtcbalejnkhnppaaDoorBox
import Derived.Test.YtcbalejnkhnppaaDoorErr
set_option linter.all false
set_option maxRecDepth 100000
namespace Go.Proofs.YtcbalejnkhnppaaDoor
open Go.RowKit
attribute [local go_sem] Oper.semAt_some
def L3_chordalFact (F : Nat)  : Option (Bool) := (chordal_Peel F (4) ([(0, 1), (1, 2), (2, 3), (3, 0)])).bind fun y1 => (app [(0, 1), (1, 2), (2, 3), (3, 0)] (0, 2)).bind fun y2 => (chordal_Peel F (4) (y2)).bind fun y3 => (((mErr (y1.2) (5)).bind fun y6 => if y6 = true then if (y3.2 == 0) = true then some true else some false else some false).bind fun b5 => if b5 = true then (SE_Ints F (y3.1) ([1, 0, 2, 3])).bind fun y7 => if y7 = true then some true else some false else some false).bind fun b4 => some (b4)
set_option maxRecDepth 100000 in
set_option maxHeartbeats 4000000 in
theorem L3_chordalFact_ok {F : Nat}  {r : Bool} (w : World) (htc : TyCell w)  (h : L3_chordalFact F  = some r) :
    Calls Tryd.prog 7 #[] w fun e w' => e = .returned (.bool r) ∧ Below w.heap.size w w' := by
  have HTC := Lib.hid htc; clear htc
  have HD := Lib.hid (Below.refl w.heap.size w)
  have HOA := Lib.hid (HP.nil (W := w) (B := w.heap.size))
  unfold L3_chordalFact at h
  have HM := Lib.hid h; clear h
  go_enter Tryd.func7, Tryd.ntmps7
  have hd : Below w.heap.size w (World.alloc w (.cells #[Value.int .i64 (0), Value.int .i64 (1), Value.int .i64 (1), Value.int .i64 (2), Value.int .i64 (2), Value.int .i64 (3), Value.int .i64 (3), Value.int .i64 (0)] 34)) := (Below.refl _ _).alloc (Nat.le_refl _) _
  have ho : (owL (.slice (some ⟨w.heap.size, 0, none⟩) 4 4) [(0, 1), (1, 2), (2, 3), (3, 0)]).ok (World.alloc w (.cells #[Value.int .i64 (0), Value.int .i64 (1), Value.int .i64 (1), Value.int .i64 (2), Value.int .i64 (2), Value.int .i64 (3), Value.int .i64 (3), Value.int .i64 (0)] 34)) w.heap.size := litL_ok w [(0, 1), (1, 2), (2, 3), (3, 0)] (by unfold maxLen; simp)
  replace HOA := Lib.hid (HOA.out.call hd HD.out.size ho); clear ho
  replace HD := Lib.hid (HD.out.trans (hd.mono HD.out.size))
  clear hd
  go_upto_region 2 with (fail)
  generalize hW : World.alloc w _ = W1 at *
  clear hW
  obtain ⟨⟨y5, y6⟩, hy3, hm⟩ := obind HM.out
  dsimp only at hm
  replace HM := Lib.hid hm; clear hm
  have HC4 := chordal_Peel_ok W1 4 (HP.rd_L HOA.out (List.Mem.head _)) hy3
  clear hy3
  try rw [← HP.len_L HOA.out (List.Mem.head _)] at HC4
  replace HC4 := Lib.hid HC4
  go_wp2_with fail
  refine HC4.out.mono ?_; rintro e W7 ⟨V8, rfl, ho, hd⟩
  replace HOA := Lib.hid (HOA.out.call hd HD.out.size ho); clear ho
  replace HD := Lib.hid (HD.out.trans (hd.mono HD.out.size))
  clear hd
  obtain ⟨y10, hy11, hm⟩ := obind HM.out
  replace HM := Lib.hid hm; clear hm
  obtain ⟨f12, hy11⟩ := app_some hy11; subst hy11
  have HF15 := Lib.hid f12; clear f12
  go_wp2_with (at_builtin; refine hp_appL _ (.tmp 17) (.tmp 19) 22 Tryd.underlying22 rfl rfl (L1 := [_]) HOA.out rfl rfl HF15.out HD.out.size ?_; intro V13 W14 hoa hd)
  replace HOA := Lib.hid (show HP W14 w.heap.size [.fl (owI V8 (y5)), .fl (owL V13 (([(0, 1), (1, 2), (2, 3), (3, 0)] ++ [(0, 2)])))] from hoa); clear hoa
  replace HD := Lib.hid (HD.out.trans hd); clear hd
  generalize ([(0, 1), (1, 2), (2, 3), (3, 0)] ++ [(0, 2)]) = xl16 at HOA HM
  obtain ⟨⟨y19, y20⟩, hy17, hm⟩ := obind HM.out
  dsimp only at hm
  replace HM := Lib.hid hm; clear hm
  obtain ⟨A21, cap22, he, _⟩ := HP.open_L HOA.out (List.Mem.tail _ (List.Mem.head _))
  subst he
  have HC18 := chordal_Peel_ok W14 cap22 (HP.rd_L HOA.out (List.Mem.tail _ (List.Mem.head _))) hy17
  clear hy17
  by_cases hz23 : y20 = 0
  · subst hz23
    rw [errV_zero] at HC18; replace HC18 := Lib.hid HC18
    go_wp2_with fail
    refine HC18.out.mono ?_; rintro e W24 ⟨V25, rfl, ho, hd⟩
    replace HOA := Lib.hid (HOA.out.call hd HD.out.size ho); clear ho
    replace HD := Lib.hid (HD.out.trans (hd.mono HD.out.size))
    clear hd
    obtain ⟨b31, hb, hm⟩ := obind HM.out
    replace HM := Lib.hid hm; have HB32 := Lib.hid hb; clear hm hb
    obtain ⟨b33, hb, hm⟩ := obind HB32.out
    replace HB32 := Lib.hid hm; have HB34 := Lib.hid hb; clear hm hb
    obtain ⟨y37, hy35, hm⟩ := obind HB34.out
    replace HB34 := Lib.hid hm; clear hm
    have HC36 := mErr_ok W24 (HTC.out.go HD.out)  hy35
    clear hy35
    replace HC36 := Lib.hid HC36
    go_wp2_with fail
    refine HC36.out.mono ?_; rintro e W38 ⟨rfl, hd⟩
    replace HOA := Lib.hid (HOA.out.below hd)
    replace HD := Lib.hid (HD.out.trans (hd.mono HD.out.size))
    clear hd
    cases y37
    · replace HB34 := Lib.hid (ifF Bool.false_ne_true HB34.out)
      obtain rfl := Option.some.inj HB34.out
      replace HB32 := Lib.hid (ifF (by first | exact Bool.false_ne_true | exact not_false) HB32.out)
      obtain rfl := Option.some.inj HB32.out
      obtain rfl := Option.some.inj HM.out
      go_wp2_with fail
      go_ret
      exact ⟨rfl, HD.out⟩
    · replace HB34 := Lib.hid (ifT rfl HB34.out)
      replace HB34 := Lib.hid (ifT (by decide) HB34.out)
      obtain rfl := Option.some.inj HB34.out
      replace HB32 := Lib.hid (ifT (by first | rfl | trivial) HB32.out)
      have hd : Below W38.heap.size W38 (World.alloc W38 (.cells #[Value.int .i64 (1), Value.int .i64 (0), Value.int .i64 (2), Value.int .i64 (3)] 3)) := (Below.refl _ _).alloc (Nat.le_refl _) _
      have ho : (owI (.slice (some ⟨W38.heap.size, 0, none⟩) 4 4) [1, 0, 2, 3]).ok (World.alloc W38 (.cells #[Value.int .i64 (1), Value.int .i64 (0), Value.int .i64 (2), Value.int .i64 (3)] 3)) W38.heap.size := litI_ok W38 [1, 0, 2, 3] (by unfold maxLen; simp)
      replace HOA := Lib.hid (HOA.out.call hd HD.out.size ho); clear ho
      replace HD := Lib.hid (HD.out.trans (hd.mono HD.out.size))
      clear hd
      obtain ⟨y43, hy41, hm⟩ := obind HB32.out
      replace HB32 := Lib.hid hm; clear hm
      obtain ⟨A44, cap45, he, _⟩ := HP.open_I HOA.out (List.Mem.tail _ (List.Mem.head _))
      subst he
      have HC42 := SE_Ints_ok (World.alloc W38 (.cells #[Value.int .i64 (1), Value.int .i64 (0), Value.int .i64 (2), Value.int .i64 (3)] 3)) cap45 (HP.rd_I HOA.out (List.Mem.tail _ (List.Mem.head _))) 4 (HP.rd_I HOA.out (List.Mem.head _)) hy41
      clear hy41
      try rw [← HP.len_I HOA.out (List.Mem.head _)] at HC42
      replace HC42 := Lib.hid HC42
      go_wp2_with fail
      refine HC42.out.mono ?_; rintro e W46 ⟨rfl, hd⟩
      replace HOA := Lib.hid (HOA.out.below (hd.below _))
      replace HD := Lib.hid (HD.out.trans ((hd.below _).mono HD.out.size))
      clear hd
      cases y43
      · replace HB32 := Lib.hid (ifF Bool.false_ne_true HB32.out)
        obtain rfl := Option.some.inj HB32.out
        obtain rfl := Option.some.inj HM.out
        go_wp2_with fail
        go_ret
        exact ⟨rfl, HD.out⟩
      · replace HB32 := Lib.hid (ifT rfl HB32.out)
        obtain rfl := Option.some.inj HB32.out
        obtain rfl := Option.some.inj HM.out
        go_wp2_with fail
        go_ret
        exact ⟨rfl, HD.out⟩
  · rw [errV_pos _ hz23] at HC18; replace HC18 := Lib.hid HC18
    go_wp2_with fail
    refine HC18.out.mono ?_; rintro e W27 ⟨V28, rfl, ho, hd⟩
    replace HOA := Lib.hid (HOA.out.call hd HD.out.size ho); clear ho
    replace HD := Lib.hid (HD.out.trans (hd.mono HD.out.size))
    clear hd
    have HZ30 := Lib.hid hz23; clear hz23
    obtain ⟨b47, hb, hm⟩ := obind HM.out
    replace HM := Lib.hid hm; have HB48 := Lib.hid hb; clear hm hb
    obtain ⟨b49, hb, hm⟩ := obind HB48.out
    replace HB48 := Lib.hid hm; have HB50 := Lib.hid hb; clear hm hb
    obtain ⟨y53, hy51, hm⟩ := obind HB50.out
    replace HB50 := Lib.hid hm; clear hm
    have HC52 := mErr_ok W27 (HTC.out.go HD.out)  hy51
    clear hy51
    replace HC52 := Lib.hid HC52
    go_wp2_with fail
    refine HC52.out.mono ?_; rintro e W54 ⟨rfl, hd⟩
    replace HOA := Lib.hid (HOA.out.below hd)
    replace HD := Lib.hid (HD.out.trans (hd.mono HD.out.size))
    clear hd
    cases y53
    · replace HB50 := Lib.hid (ifF Bool.false_ne_true HB50.out)
      obtain rfl := Option.some.inj HB50.out
      replace HB48 := Lib.hid (ifF (by first | exact Bool.false_ne_true | exact not_false) HB48.out)
      obtain rfl := Option.some.inj HB48.out
      obtain rfl := Option.some.inj HM.out
      go_wp2_with fail
      go_ret
      exact ⟨rfl, HD.out⟩
    · replace HB50 := Lib.hid (ifT rfl HB50.out)
      replace HB50 := Lib.hid (ifF (fun h => HZ30.out (eq_of_beq h)) HB50.out)
      obtain rfl := Option.some.inj HB50.out
      replace HB48 := Lib.hid (ifF (by first | exact Bool.false_ne_true | exact not_false) HB48.out)
      obtain rfl := Option.some.inj HB48.out
      obtain rfl := Option.some.inj HM.out
      go_wp2_with fail
      go_ret
      exact ⟨rfl, HD.out⟩
end Go.Proofs.YtcbalejnkhnppaaDoor
