import Derived.Test.YtgihnflaikmakaaDoorF1
import Derived.Test.YtgihnflaikmakaaDoorF2
set_option linter.all false
set_option maxRecDepth 100000
namespace Go.Proofs.YtgihnflaikmakaaDoor
open Go.RowKit
def menger_Ways (F : Nat) (v0 : Int) (v1 : List (Int × Int)) (v2 : Int) (v3 : Int) : Option (Int × Int) := (menger_check F (v0) (v1) (v2) (v3)).bind fun y1 => (if (y1 != 0) = true then some ((0, y1)) else (menger_find F (v0) (v1) (v2) (v3)).bind fun y2 => some ((y2.1, 0)))
set_option maxRecDepth 100000 in
set_option maxHeartbeats 1000000 in
theorem menger_Ways_ok {F : Nat} {v0 : Int} {v1 : List (Int × Int)} {A1 : Option Addr} {v2 : Int} {v3 : Int} {r : Int × Int} (w : World) (cap1 : Nat) (hr1 : ReadsL w w.heap.size A1 v1) (h : menger_Ways F v0 v1 v2 v3 = some r) :
    Calls Tryd.prog 7 #[.int .i64 v0, .slice A1 v1.length cap1, .int .i64 v2, .int .i64 v3] w fun e w' => e = .returned (.tuple #[(.int .i64 r.1), (errV 48 r.2)]) ∧ Below w.heap.size w w' := by
  have HR1 := Lib.hid hr1; clear hr1
  have HD := Lib.hid (Below.refl w.heap.size w)
  have HOA := Lib.hid (HP.nil (W := w) (B := w.heap.size))
  unfold menger_Ways at h
  have HM := Lib.hid h; clear h
  go_enter Tryd.func7, Tryd.ntmps7
  obtain ⟨y3, hy1, hm⟩ := obind HM.out
  replace HM := Lib.hid hm; clear hm
  have HC2 := menger_check_ok w cap1 (rdL HD.out HR1.out) hy1
  clear hy1
  by_cases hz4 : y3 = 0
  · subst hz4
    rw [errV_zero] at HC2; replace HC2 := Lib.hid HC2
    go_wp2_with fail
    refine HC2.out.mono ?_; rintro e W5 ⟨rfl, hd⟩
    replace HOA := Lib.hid (HOA.out.below hd)
    replace HD := Lib.hid (HD.out.trans (hd.mono HD.out.size))
    clear hd
    replace HM := Lib.hid (ifF (by decide) HM.out)
    obtain ⟨⟨y10, y11⟩, hy8, hm⟩ := obind HM.out
    dsimp only at hm
    replace HM := Lib.hid hm; clear hm
    have HC9 := menger_find_ok W5 cap1 (rdL HD.out HR1.out) hy8
    clear hy8
    replace HC9 := Lib.hid HC9
    go_wp2_with fail
    refine HC9.out.mono ?_; rintro e W12 ⟨rfl, hd⟩
    replace HOA := Lib.hid (HOA.out.below hd)
    replace HD := Lib.hid (HD.out.trans (hd.mono HD.out.size))
    clear hd
    obtain rfl := Option.some.inj HM.out
    go_wp2_with fail
    go_ret2
    exact ⟨rfl, HD.out⟩
  · rw [errV_pos _ hz4] at HC2; replace HC2 := Lib.hid HC2
    go_wp2_with fail
    refine HC2.out.mono ?_; rintro e W6 ⟨rfl, hd⟩
    replace HOA := Lib.hid (HOA.out.below hd)
    replace HD := Lib.hid (HD.out.trans (hd.mono HD.out.size))
    clear hd
    have HZ7 := Lib.hid hz4; clear hz4
    replace HM := Lib.hid (ifT (bne_iff_ne.2 HZ7.out) HM.out)
    obtain rfl := Option.some.inj HM.out
    go_wp2_with fail
    go_ret2
    exact ⟨(by first | (rw [errV_pos _ HZ7.out]; rfl) | rw [errV_pos _ HZ7.out]), HD.out⟩
def menger_Side (F : Nat) (v0 : Int) (v1 : List (Int × Int)) (v2 : Int) (v3 : Int) : Option (List Int × Int) := (menger_check F (v0) (v1) (v2) (v3)).bind fun y1 => (if (y1 != 0) = true then some (([], y1)) else (menger_find F (v0) (v1) (v2) (v3)).bind fun y2 => (sList (y2.2)).bind fun y3 => some ((y3, 0)))
set_option maxRecDepth 100000 in
set_option maxHeartbeats 1000000 in
theorem menger_Side_ok {F : Nat} {v0 : Int} {v1 : List (Int × Int)} {A1 : Option Addr} {v2 : Int} {v3 : Int} {r : List Int × Int} (w : World) (cap1 : Nat) (hr1 : ReadsL w w.heap.size A1 v1) (h : menger_Side F v0 v1 v2 v3 = some r) :
    Calls Tryd.prog 9 #[.int .i64 v0, .slice A1 v1.length cap1, .int .i64 v2, .int .i64 v3] w (PostG (fun v => (.tuple #[v, (errV 48 r.2)])) (fun v => owI v r.1) w.heap.size w) := by
  have HR1 := Lib.hid hr1; clear hr1
  have HD := Lib.hid (Below.refl w.heap.size w)
  have HOA := Lib.hid (HP.nil (W := w) (B := w.heap.size))
  unfold menger_Side at h
  have HM := Lib.hid h; clear h
  go_enter Tryd.func9, Tryd.ntmps9
  obtain ⟨y3, hy1, hm⟩ := obind HM.out
  replace HM := Lib.hid hm; clear hm
  have HC2 := menger_check_ok w cap1 (rdL HD.out HR1.out) hy1
  clear hy1
  by_cases hz4 : y3 = 0
  · subst hz4
    rw [errV_zero] at HC2; replace HC2 := Lib.hid HC2
    go_wp2_with fail
    refine HC2.out.mono ?_; rintro e W5 ⟨rfl, hd⟩
    replace HOA := Lib.hid (HOA.out.below hd)
    replace HD := Lib.hid (HD.out.trans (hd.mono HD.out.size))
    clear hd
    replace HM := Lib.hid (ifF (by decide) HM.out)
    obtain ⟨⟨y10, y11⟩, hy8, hm⟩ := obind HM.out
    dsimp only at hm
    replace HM := Lib.hid hm; clear hm
    have HC9 := menger_find_ok W5 cap1 (rdL HD.out HR1.out) hy8
    clear hy8
    replace HC9 := Lib.hid HC9
    go_wp2_with fail
    refine HC9.out.mono ?_; rintro e W12 ⟨rfl, hd⟩
    replace HOA := Lib.hid (HOA.out.below hd)
    replace HD := Lib.hid (HD.out.trans (hd.mono HD.out.size))
    clear hd
    obtain ⟨y15, hy13, hm⟩ := obind HM.out
    replace HM := Lib.hid hm; clear hm
    have HC14 := sList_ok W12  hy13
    clear hy13
    replace HC14 := Lib.hid HC14
    go_wp2_with fail
    refine HC14.out.mono ?_; rintro e W16 ⟨V17, rfl, ho, hd⟩
    replace HOA := Lib.hid (HOA.out.call hd HD.out.size ho); clear ho
    replace HD := Lib.hid (HD.out.trans (hd.mono HD.out.size))
    clear hd
    obtain rfl := Option.some.inj HM.out
    go_wp2_with fail
    go_ret2
    exact ⟨_, rfl, HOA.out.get (List.Mem.head _), HD.out⟩
  · rw [errV_pos _ hz4] at HC2; replace HC2 := Lib.hid HC2
    go_wp2_with fail
    refine HC2.out.mono ?_; rintro e W6 ⟨rfl, hd⟩
    replace HOA := Lib.hid (HOA.out.below hd)
    replace HD := Lib.hid (HD.out.trans (hd.mono HD.out.size))
    clear hd
    have HZ7 := Lib.hid hz4; clear hz4
    replace HM := Lib.hid (ifT (bne_iff_ne.2 HZ7.out) HM.out)
    obtain rfl := Option.some.inj HM.out
    go_wp2_with fail
    go_ret2
    exact ⟨_, (by first | (rw [errV_pos _ HZ7.out]; rfl) | rw [errV_pos _ HZ7.out]), World.ownsRow_nil _ _ _ _, HD.out⟩
end Go.Proofs.YtgihnflaikmakaaDoor
