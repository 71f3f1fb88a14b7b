import Derived.Test.YtabkmceajgpdjaaDoorA
import Derived.Test.YtabkmceajgpdjaaDoorIns
set_option linter.all false
set_option maxRecDepth 100000
namespace Go.Proofs.YtabkmceajgpdjaaDoor
open Go.RowKit
def tourn_Row_L1 (F : Nat) (v0 : Int) (v5 : List Nat) : Nat → (Int) → (List Int) → Option (List Int)
  | 0, _, _ => none
  | g+1, j, v6 => if j < v0 then (ix v5 j).bind fun y3 => (slIdxM F (v6) (y3)).bind fun y4 => (if y4 < 0 then (slIns v6 ((v6).length : Int) j).bind fun y5 => tourn_Row_L1 F v0 v5 g (wrap64 (j + 1)) (y5) else (slIns v6 y4 j).bind fun y6 => tourn_Row_L1 F v0 v5 g (wrap64 (j + 1)) (y6)) else some (v6)
theorem tourn_Row_L1_0 (F : Nat) (v0 : Int) (v5 : List Nat) (v6 : List Int) (j : Int) : tourn_Row_L1 F v0 v5 0 j v6 = none := by rw [tourn_Row_L1]
theorem tourn_Row_L1_s (F g : Nat) (v0 : Int) (v5 : List Nat) (v6 : List Int) (j : Int) : tourn_Row_L1 F v0 v5 (g+1) j v6 = (if j < v0 then (ix v5 j).bind fun y3 => (slIdxM F (v6) (y3)).bind fun y4 => (if y4 < 0 then (slIns v6 ((v6).length : Int) j).bind fun y5 => tourn_Row_L1 F v0 v5 g (wrap64 (j + 1)) (y5) else (slIns v6 y4 j).bind fun y6 => tourn_Row_L1 F v0 v5 g (wrap64 (j + 1)) (y6)) else some (v6)) := by rw [tourn_Row_L1]
def tourn_Row (F : Nat) (v0 : Int) (v1 : List (Int × Int)) : Option (List Int × Int) := (tourn_Check F (v0) (v1)).bind fun y1 => (if (y1 != 0) = true then some (([], y1)) else (mOut (v0) (v1)).bind fun y2 => (tourn_Row_L1 F (v0) (y2) F (0) ([])).bind fun o7 => some ((o7, 0)))
set_option maxRecDepth 100000 in
set_option maxHeartbeats 4000000 in
theorem tourn_Row_ok {F : Nat} {v0 : Int} {v1 : List (Int × Int)} {A1 : Option Addr} {r : List Int × Int} (w : World) (cap1 : Nat) (hr1 : ReadsL w w.heap.size A1 v1) (h : tourn_Row F v0 v1 = some r) :
    Calls Tryd.prog 10 #[.int .i64 v0, .slice A1 v1.length cap1] w (PostG (fun v => (.tuple #[v, (errV 39 r.2)])) (fun v => owI v r.1) w.heap.size w) := by
  have HR1 := Lib.hid hr1; clear hr1
  have HD := Lib.hid (Below.refl w.heap.size w)
  have HOA := Lib.hid (HP.nil (W := w) (B := w.heap.size))
  unfold tourn_Row at h
  have HM := Lib.hid h; clear h
  go_enter Tryd.func10, Tryd.ntmps10
  obtain ⟨y3, hy1, hm⟩ := obind HM.out
  replace HM := Lib.hid hm; clear hm
  have HC2 := tourn_Check_ok w cap1 (rdL HD.out HR1.out) hy1
  clear hy1
  by_cases hz4 : y3 = 0
  · subst hz4
    rw [errV_zero] at HC2; replace HC2 := Lib.hid HC2
    go_wp2_with fail
    refine HC2.out.mono ?_; rintro e W5 ⟨rfl, hd⟩
    replace HOA := Lib.hid (HOA.out.below hd)
    replace HD := Lib.hid (HD.out.trans (hd.mono HD.out.size))
    clear hd
    replace HM := Lib.hid (ifF (by decide) HM.out)
    obtain ⟨y10, hy8, hm⟩ := obind HM.out
    replace HM := Lib.hid hm; clear hm
    have HC9 := mOut_ok W5 cap1 (rdL HD.out HR1.out) hy8
    clear hy8
    replace HC9 := Lib.hid HC9
    go_wp2_with fail
    refine HC9.out.mono ?_; rintro e W11 ⟨V12, rfl, ho, hd⟩
    replace HOA := Lib.hid (HOA.out.call hd HD.out.size ho); clear ho
    replace HD := Lib.hid (HD.out.trans (hd.mono HD.out.size))
    clear hd
    replace HOA := Lib.hid (show HP _ _ (.fl (owI (.slice none 0 0) ([])) :: _) from HOA.out.pushNil _ _)
    go_wp2_with fail
    obtain ⟨o15, ho, hm⟩ := obind HM.out
    replace HM := Lib.hid hm; have HL1 := Lib.hid ho; clear hm ho
    go_loopg [21, 8] F (fun gg uj ux17 wr => ∃ (j19 : Int) (x16 : List Int) (V18 : Value), uj = .int .i64 j19 ∧ V18 = ux17 ∧ Hid (Below w.heap.size w wr) ∧ Hid (HP wr w.heap.size [.fl (owI V18 (x16)), .fl (owM V12 (y10))]) ∧ Hid (tourn_Row_L1 F (v0) (y10) gg j19 x16 = some o15))
    case atStart => exact ⟨0, [], (.slice none 0 0), rfl, rfl, HD, HOA, HL1⟩
    case round =>
      obtain ⟨j19, x16, V18, rfl, rfl, HD, HOA, HL1⟩ := hrel
      rename World => W20
      cases gk with
      | zero => exact absurd ((tourn_Row_L1_0 ..).symm.trans HL1.out) (by intro h; cases h)
      | succ g1 =>
        replace HL1 := Lib.hid ((tourn_Row_L1_s ..).symm.trans HL1.out)
        by_cases hc21 : j19 < v0
        · replace HL1 := Lib.hid (ifT hc21 HL1.out)
          have HK22 := Lib.hid hc21
          obtain ⟨A25, cap26, he, _⟩ := HP.open_M HOA.out (List.Mem.tail _ (List.Mem.head _))
          subst he
          obtain ⟨y23, hy24, hm⟩ := obind HL1.out
          replace HL1 := Lib.hid hm; clear hm
          obtain ⟨b27, o28, ea29, _, f30, f31, f32⟩ := ReadsM.ix (HP.rd_M HOA.out (List.Mem.tail _ (List.Mem.head _))) hy24
          cases ea29
          try simp only [Nat.zero_add, Nat.add_zero, Int.toNat_natCast, Int.toNat_zero, Int.toNat_one] at f32
          try rw [← HP.len_M HOA.out (List.Mem.tail _ (List.Mem.head _))] at f31
          have HY34 := Lib.hid hy24; clear hy24
          obtain ⟨y37, hy35, hm⟩ := obind HL1.out
          replace HL1 := Lib.hid hm; clear hm
          obtain ⟨A38, cap39, he, _⟩ := HP.open_I HOA.out (List.Mem.head _)
          subst he
          have HC36 := slIdxM_ok W20 cap39 (HP.rd_I HOA.out (List.Mem.head _)) hy35
          clear hy35
          replace HC36 := Lib.hid HC36
          go_wp2_with fail
          refine HC36.out.mono ?_; rintro e W40 ⟨rfl, hd⟩
          try clear hc21 f30 f31 f32
          replace HOA := Lib.hid (HOA.out.below hd)
          replace HD := Lib.hid (HD.out.trans (hd.mono HD.out.size))
          clear hd
          by_cases hc41 : y37 < 0
          · replace HL1 := Lib.hid (ifT hc41 HL1.out)
            have HK42 := Lib.hid hc41
            obtain ⟨y43, hy44, hm⟩ := obind HL1.out
            replace HL1 := Lib.hid hm; clear hm
            obtain ⟨f45, hy44⟩ := slIns_some hy44; subst hy44
            have hc := slIns_ok (L1 := []) (x := j19) W40 HOA.out HD.out.size f45
            try rw [← HP.len_I HOA.out (List.Mem.head _)] at hc
            have HC48 := Lib.hid hc; clear hc
            go_wp2_with fail
            refine HC48.out.mono ?_; rintro e W47 ⟨V46, rfl, hoa, hd⟩
            try clear f45 hc41
            replace HOA := Lib.hid hoa; clear hoa
            replace HOA := Lib.hid (show HP W47 w.heap.size [.fl (owI V46 ((insAt x16 ((x16).length : Int) j19))), .fl (owM (.slice (some ⟨b27, o28, none⟩) (y10).length cap26) (y10))] from HOA.out)
            replace HD := Lib.hid (HD.out.trans hd); clear hd
            go_wp2_with fail
            go_roundg g1
            case measure => omega
            case rel => exact ⟨(wrap64 (j19 + 1)), (insAt x16 ((x16).length : Int) j19), V46, rfl, rfl, HD, HOA, HL1⟩
          · replace HL1 := Lib.hid (ifF hc41 HL1.out)
            have hc41d := decide_eq_false hc41
            have HK42 := Lib.hid hc41
            obtain ⟨y49, hy50, hm⟩ := obind HL1.out
            replace HL1 := Lib.hid hm; clear hm
            obtain ⟨f51, hy50⟩ := slIns_some hy50; subst hy50
            have hc := slIns_ok (L1 := []) (x := j19) W40 HOA.out HD.out.size f51
            try rw [← HP.len_I HOA.out (List.Mem.head _)] at hc
            have HC54 := Lib.hid hc; clear hc
            go_wp2_with fail
            refine HC54.out.mono ?_; rintro e W53 ⟨V52, rfl, hoa, hd⟩
            try clear f51 hc41 hc41d
            replace HOA := Lib.hid hoa; clear hoa
            replace HOA := Lib.hid (show HP W53 w.heap.size [.fl (owI V52 ((insAt x16 y37 j19))), .fl (owM (.slice (some ⟨b27, o28, none⟩) (y10).length cap26) (y10))] from HOA.out)
            replace HD := Lib.hid (HD.out.trans hd); clear hd
            go_wp2_with fail
            go_roundg g1
            case measure => omega
            case rel => exact ⟨(wrap64 (j19 + 1)), (insAt x16 y37 j19), V52, rfl, rfl, HD, HOA, HL1⟩
        · replace HL1 := Lib.hid (ifF hc21 HL1.out)
          have hc21d := decide_eq_false hc21
          have HK22 := Lib.hid hc21
          obtain rfl := Option.some.inj HL1.out
          have hm := HM.out; try dsimp only at hm
          replace HM := Lib.hid hm; clear hm
          obtain rfl := Option.some.inj HM.out
          go_wp2_with fail
          try clear hc21 hc21d
          go_ret2
          exact ⟨_, rfl, HOA.out.get (List.Mem.head _), HD.out⟩
  · rw [errV_pos _ hz4] at HC2; replace HC2 := Lib.hid HC2
    go_wp2_with fail
    refine HC2.out.mono ?_; rintro e W6 ⟨rfl, hd⟩
    replace HOA := Lib.hid (HOA.out.below hd)
    replace HD := Lib.hid (HD.out.trans (hd.mono HD.out.size))
    clear hd
    have HZ7 := Lib.hid hz4; clear hz4
    replace HM := Lib.hid (ifT (bne_iff_ne.2 HZ7.out) HM.out)
    obtain rfl := Option.some.inj HM.out
    go_wp2_with fail
    go_ret2
    exact ⟨_, (by first | (rw [errV_pos _ HZ7.out]; rfl) | rw [errV_pos _ HZ7.out]), World.ownsRow_nil _ _ _ _, HD.out⟩
end Go.Proofs.YtabkmceajgpdjaaDoor
