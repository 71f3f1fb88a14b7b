import Derived.Test.YtoiidngnlhhanaaDoorA
import Derived.Test.YtoiidngnlhhanaaDoorB
import Derived.Test.YtoiidngnlhhanaaDoorErr
import Derived.Test.YtoiidngnlhhanaaDoorGR
import Derived.Test.YtoiidngnlhhanaaDoorReach
import Derived.Test.YtoiidngnlhhanaaDoorMSt
import Derived.Test.YtoiidngnlhhanaaDoorTl
set_option linter.all false
set_option maxRecDepth 100000
namespace Go.Proofs.YtoiidngnlhhanaaDoor
open Go.RowKit
def close_reach_L2 (F : Nat) (v0 : Int) (v4 : Int) : Nat → (Int) → (List Nat) → Option (List Nat)
  | 0, _, _ => none
  | g+1, j, v3 => if j < v0 then ((ix v3 j).bind fun y2 => (sHas (y2) (v4)).bind fun y3 => if y3 = true then (ix v3 j).bind fun y5 => (ix v3 v4).bind fun y6 => (sOr y5 y6).bind fun y7 => (st v3 j y7).bind fun y4 => close_reach_L2 F v0 v4 g (wrap64 (j + 1)) (y4) else close_reach_L2 F v0 v4 g (wrap64 (j + 1)) (v3)) else some (v3)
theorem close_reach_L2_0 (F : Nat) (v0 : Int) (v4 : Int) (v3 : List Nat) (j : Int) : close_reach_L2 F v0 v4 0 j v3 = none := by rw [close_reach_L2]
theorem close_reach_L2_s (F g : Nat) (v0 : Int) (v4 : Int) (v3 : List Nat) (j : Int) : close_reach_L2 F v0 v4 (g+1) j v3 = (if j < v0 then ((ix v3 j).bind fun y2 => (sHas (y2) (v4)).bind fun y3 => if y3 = true then (ix v3 j).bind fun y5 => (ix v3 v4).bind fun y6 => (sOr y5 y6).bind fun y7 => (st v3 j y7).bind fun y4 => close_reach_L2 F v0 v4 g (wrap64 (j + 1)) (y4) else close_reach_L2 F v0 v4 g (wrap64 (j + 1)) (v3)) else some (v3)) := by rw [close_reach_L2]
def close_reach_L1 (F : Nat) (v0 : Int) : Nat → (Int) → (List Nat) → Option (List Nat)
  | 0, _, _ => none
  | g+1, j, v3 => if j < v0 then (close_reach_L2 F (v0) (j) F (0) (v3)).bind fun o8 => close_reach_L1 F v0 g (wrap64 (j + 1)) (o8) else some (v3)
theorem close_reach_L1_0 (F : Nat) (v0 : Int) (v3 : List Nat) (j : Int) : close_reach_L1 F v0 0 j v3 = none := by rw [close_reach_L1]
theorem close_reach_L1_s (F g : Nat) (v0 : Int) (v3 : List Nat) (j : Int) : close_reach_L1 F v0 (g+1) j v3 = (if j < v0 then (close_reach_L2 F (v0) (j) F (0) (v3)).bind fun o8 => close_reach_L1 F v0 g (wrap64 (j + 1)) (o8) else some (v3)) := by rw [close_reach_L1]
def close_reach (F : Nat) (v0 : Int) (v1 : List (Int × Int)) : Option (List Nat) := (mOut (v0) (v1)).bind fun y1 => (close_reach_L1 F (v0) F (0) (y1)).bind fun o9 => some (o9)
set_option maxRecDepth 100000 in
set_option maxHeartbeats 4000000 in
theorem close_reach_ok {F : Nat} {v0 : Int} {v1 : List (Int × Int)} {A1 : Option Addr} {r : List Nat} (w : World) (cap1 : Nat) (hr1 : ReadsL w w.heap.size A1 v1) (h : close_reach F v0 v1 = some r) :
    Calls Tryd.prog 18 #[.int .i64 v0, .slice A1 v1.length cap1] w (PostG (fun v => v) (fun v => owM v r) w.heap.size w) := by
  have HR1 := Lib.hid hr1; clear hr1
  have HD := Lib.hid (Below.refl w.heap.size w)
  have HOA := Lib.hid (HP.nil (W := w) (B := w.heap.size))
  unfold close_reach at h
  have HM := Lib.hid h; clear h
  go_enter Tryd.func18, Tryd.ntmps18
  obtain ⟨y3, hy1, hm⟩ := obind HM.out
  replace HM := Lib.hid hm; clear hm
  have HC2 := mOut_ok w cap1 (rdL HD.out HR1.out) hy1
  clear hy1
  replace HC2 := Lib.hid HC2
  go_wp2_with fail
  refine HC2.out.mono ?_; rintro e W4 ⟨V5, rfl, ho, hd⟩
  replace HOA := Lib.hid (HOA.out.call hd HD.out.size ho); clear ho
  replace HD := Lib.hid (HD.out.trans (hd.mono HD.out.size))
  clear hd
  go_wp2_with fail
  obtain ⟨o7, ho, hm⟩ := obind HM.out
  replace HM := Lib.hid hm; have HL1 := Lib.hid ho; clear hm ho
  obtain ⟨A8, cap9, he, _⟩ := HP.open_M HOA.out (List.Mem.head _)
  subst he
  go_loopg [12] F (fun gg uj wr => ∃ (j11 : Int) (x10 : List Nat), uj = .int .i64 j11 ∧ Hid (Below w.heap.size w wr) ∧ Hid (HP wr w.heap.size [.fl (owM (.slice A8 (y3).length cap9) (x10))]) ∧ Hid (close_reach_L1 F (v0) gg j11 x10 = some o7))
  case atStart => exact ⟨0, y3, rfl, HD, HOA, HL1⟩
  case round =>
    obtain ⟨j11, x10, rfl, HD, HOA, HL1⟩ := hrel
    rename World => W12
    cases gk with
    | zero => exact absurd ((close_reach_L1_0 ..).symm.trans HL1.out) (by intro h; cases h)
    | succ g1 =>
      replace HL1 := Lib.hid ((close_reach_L1_s ..).symm.trans HL1.out)
      by_cases hc13 : j11 < v0
      · replace HL1 := Lib.hid (ifT hc13 HL1.out)
        have HK14 := Lib.hid hc13
        go_wp2_with fail
        try clear hc13
        obtain ⟨o15, ho, hm⟩ := obind HL1.out
        replace HL1 := Lib.hid hm; have HL2 := Lib.hid ho; clear hm ho
        go_loopg [16] F (fun gg uj wr => ∃ (j17 : Int) (x16 : List Nat), uj = .int .i64 j17 ∧ Hid (Below w.heap.size w wr) ∧ Hid (HP wr w.heap.size [.fl (owM (.slice A8 (y3).length cap9) (x16))]) ∧ Hid (close_reach_L2 F (v0) (j11) gg j17 x16 = some o15))
        case atStart => exact ⟨0, x10, rfl, HD, HOA, HL2⟩
        case round =>
          obtain ⟨j17, x16, rfl, HD, HOA, HL2⟩ := hrel
          rename World => W18
          cases gk with
          | zero => exact absurd ((close_reach_L2_0 ..).symm.trans HL2.out) (by intro h; cases h)
          | succ g2 =>
            replace HL2 := Lib.hid ((close_reach_L2_s ..).symm.trans HL2.out)
            by_cases hc19 : j17 < v0
            · replace HL2 := Lib.hid (ifT hc19 HL2.out)
              have HK20 := Lib.hid hc19
              obtain ⟨y21, hy22, hm⟩ := obind HL2.out
              replace HL2 := Lib.hid hm; clear hm
              obtain ⟨b23, o24, ea25, _, f26, f27, f28⟩ := ReadsM.ix (HP.rd_M HOA.out (List.Mem.head _)) hy22
              cases ea25
              try simp only [Nat.zero_add, Nat.add_zero, Int.toNat_natCast, Int.toNat_zero, Int.toNat_one] at f28
              try rw [← HP.len_M HOA.out (List.Mem.head _)] at f27
              have HY30 := Lib.hid hy22; clear hy22
              obtain ⟨y33, hy31, hm⟩ := obind HL2.out
              replace HL2 := Lib.hid hm; clear hm
              have HC32 := sHas_ok W18  hy31
              clear hy31
              replace HC32 := Lib.hid HC32
              cases y33
              · replace HL2 := Lib.hid (ifF Bool.false_ne_true HL2.out)
                go_wp2_with fail
                refine HC32.out.mono ?_; rintro e w' ⟨rfl, rfl⟩
                go_wp2_with fail
                try clear hc19 f26 f27 f28
                go_roundg g2
                case measure => omega
                case rel => exact ⟨(wrap64 (j17 + 1)), x16, rfl, HD, HOA, HL2⟩
              · replace HL2 := Lib.hid (ifT rfl HL2.out)
                try go_wp2_with fail
                refine HC32.out.mono ?_; rintro e w' ⟨rfl, rfl⟩
                try go_wp2_with fail
                try clear hc19 f26 f27 f28
                obtain ⟨y34, hy35, hm⟩ := obind HL2.out
                replace HL2 := Lib.hid hm; clear hm
                obtain ⟨b36, o37, ea38, _, f39, f40, f41⟩ := ReadsM.ix (HP.rd_M HOA.out (List.Mem.head _)) hy35
                cases ea38
                try simp only [Nat.zero_add, Nat.add_zero, Int.toNat_natCast, Int.toNat_zero, Int.toNat_one] at f41
                try rw [← HP.len_M HOA.out (List.Mem.head _)] at f40
                have HY43 := Lib.hid hy35; clear hy35
                obtain ⟨y44, hy45, hm⟩ := obind HL2.out
                replace HL2 := Lib.hid hm; clear hm
                obtain ⟨b46, o47, ea48, _, f49, f50, f51⟩ := ReadsM.ix (HP.rd_M HOA.out (List.Mem.head _)) hy45
                cases ea48
                try simp only [Nat.zero_add, Nat.add_zero, Int.toNat_natCast, Int.toNat_zero, Int.toNat_one] at f51
                try rw [← HP.len_M HOA.out (List.Mem.head _)] at f50
                have HY53 := Lib.hid hy45; clear hy45
                obtain ⟨y54, hy55, hm⟩ := obind HL2.out
                replace HL2 := Lib.hid hm; clear hm
                obtain ⟨f56, hy55⟩ := sOr_some hy55; subst hy55
                obtain ⟨y59, hy58, hm⟩ := obind HL2.out
                replace HL2 := Lib.hid hm; clear hm
                obtain ⟨f60, hy58⟩ := st_some hy58; subst hy58
                obtain ⟨g66, ea, f63, ⟨ux65, f64⟩, hp, hb⟩ := HP.setM (x := (y34 ||| y44)) (its1 := []) HOA.out f60
                cases ea
                try simp only [Nat.zero_add] at f39
                try simp only [Nat.zero_add] at f40
                try simp only [Nat.zero_add] at f41
                try simp only [Nat.zero_add] at f49
                try simp only [Nat.zero_add] at f50
                try simp only [Nat.zero_add] at f51
                try simp only [Nat.zero_add] at f56
                obtain ⟨q0, q1⟩ := f60
                try rw [← HP.len_M HOA.out (List.Mem.head _)] at q1
                clear f64
                have HP_ := Lib.hid hp; have HB_ := Lib.hid hb; clear hp hb
                go_still_tail 10, (by kernel_rfl)
                change wpList _ _ _ _ _ (World.drew W18)
                go_wp2_with fail
                have hp := HP_.out.dr (Dr.one _); have hb := HB_.out.trans ((Dr.one _).below _); clear HP_ HB_
                generalize hW : World.drew (World.setCell W18 _ _) = W57 at *
                clear hW
                try clear f63 q0 q1 f39 f40 f41 f49 f50 f51 f56
                replace HOA := Lib.hid (show HP W57 w.heap.size [.fl (owM (.slice (some ⟨b23, 0, none⟩) (y3).length cap9) ((List.set x16 (Int.toNat j17) (y34 ||| y44))))] from hp); clear hp
                replace HD := Lib.hid (HD.out.trans hb); clear hb
                go_wp2_with fail
                go_roundg g2
                case measure => omega
                case rel => exact ⟨(wrap64 (j17 + 1)), (List.set x16 (Int.toNat j17) (y34 ||| y44)), rfl, HD, HOA, HL2⟩
            · replace HL2 := Lib.hid (ifF hc19 HL2.out)
              have hc19d := decide_eq_false hc19
              have HK20 := Lib.hid hc19
              obtain rfl := Option.some.inj HL2.out
              have hm := HL1.out; try dsimp only at hm
              replace HL1 := Lib.hid hm; clear hm
              go_wp2_with fail
              try clear hc19 hc19d
              go_roundg g1
              case measure => omega
              case rel => exact ⟨(wrap64 (j11 + 1)), x16, rfl, HD, HOA, HL1⟩
      · replace HL1 := Lib.hid (ifF hc13 HL1.out)
        have hc13d := decide_eq_false hc13
        have HK14 := Lib.hid hc13
        obtain rfl := Option.some.inj HL1.out
        have hm := HM.out; try dsimp only at hm
        replace HM := Lib.hid hm; clear hm
        obtain rfl := Option.some.inj HM.out
        go_wp2_with fail
        try clear hc13 hc13d
        go_ret
        exact ⟨_, rfl, HOA.out.get (List.Mem.head _), HD.out⟩
def close_All_L1 (F : Nat) (v8 : List Nat) : Nat → (Int) → (List (List Int)) → Option (List (List Int))
  | 0, _, _ => none
  | g+1, j, v5 => if j < ((v8).length : Int) then (ix v8 j).bind fun y => (sList (y)).bind fun y4 => (app v5 y4).bind fun y3 => close_All_L1 F v8 g (wrap64 (j + 1)) (y3) else some (v5)
theorem close_All_L1_0 (F : Nat) (v8 : List Nat) (v5 : List (List Int)) (j : Int) : close_All_L1 F v8 0 j v5 = none := by rw [close_All_L1]
theorem close_All_L1_s (F g : Nat) (v8 : List Nat) (v5 : List (List Int)) (j : Int) : close_All_L1 F v8 (g+1) j v5 = (if j < ((v8).length : Int) then (ix v8 j).bind fun y => (sList (y)).bind fun y4 => (app v5 y4).bind fun y3 => close_All_L1 F v8 g (wrap64 (j + 1)) (y3) else some (v5)) := by rw [close_All_L1]
def close_All (F : Nat) (v0 : Int) (v1 : List (Int × Int)) : Option (List (List Int) × Int) := (mCheck (v0) (v1)).bind fun y1 => (if (y1 != 0) = true then some (([], y1)) else (close_reach F (v0) (v1)).bind fun y2 => (close_All_L1 F (y2) F (0) ([])).bind fun o5 => some ((o5, 0)))
set_option maxRecDepth 100000 in
set_option maxHeartbeats 4000000 in
theorem close_All_ok {F : Nat} {v0 : Int} {v1 : List (Int × Int)} {A1 : Option Addr} {r : List (List Int) × Int} (w : World) (cap1 : Nat) (hr1 : ReadsL w w.heap.size A1 v1) (h : close_All F v0 v1 = some r) :
    Calls Tryd.prog 5 #[.int .i64 v0, .slice A1 v1.length cap1] w (PostR (fun v => (.tuple #[v, (errV 55 r.2)])) r.1 w.heap.size w) := by
  have HR1 := Lib.hid hr1; clear hr1
  have HD := Lib.hid (Below.refl w.heap.size w)
  have HOA := Lib.hid (HP.nil (W := w) (B := w.heap.size))
  unfold close_All at h
  have HM := Lib.hid h; clear h
  go_enter Tryd.func5, Tryd.ntmps5
  obtain ⟨y3, hy1, hm⟩ := obind HM.out
  replace HM := Lib.hid hm; clear hm
  have HC2 := mCheck_ok w cap1 (rdL HD.out HR1.out) hy1
  clear hy1
  by_cases hz4 : y3 = 0
  · subst hz4
    rw [errV_zero] at HC2; replace HC2 := Lib.hid HC2
    go_wp2_with fail
    refine HC2.out.mono ?_; rintro e W5 ⟨rfl, hd⟩
    replace HOA := Lib.hid (HOA.out.below hd)
    replace HD := Lib.hid (HD.out.trans (hd.mono HD.out.size))
    clear hd
    replace HM := Lib.hid (ifF (by decide) HM.out)
    replace HOA := Lib.hid (show HP _ _ (.ro (.slice none 0 0) ([]) :: _) from HOA.out.pushNilR)
    obtain ⟨y11, hy9, hm⟩ := obind HM.out
    replace HM := Lib.hid hm; clear hm
    have HC10 := close_reach_ok W5 cap1 (rdL HD.out HR1.out) hy9
    clear hy9
    replace HC10 := Lib.hid HC10
    go_wp2_with fail
    refine HC10.out.mono ?_; rintro e W12 ⟨V13, rfl, ho, hd⟩
    replace HOA := Lib.hid (HOA.out.call hd HD.out.size ho); clear ho
    replace HD := Lib.hid (HD.out.trans (hd.mono HD.out.size))
    clear hd
    obtain ⟨A15, cap16, he, _⟩ := HP.open_M HOA.out (List.Mem.head _)
    subst he
    go_wp2_with fail
    obtain ⟨o17, ho, hm⟩ := obind HM.out
    replace HM := Lib.hid hm; have HL1 := Lib.hid ho; clear hm ho
    go_loopg [20, 7] F (fun gg uj ux19 wr => ∃ (j21 : Int) (x18 : List (List Int)) (V20 : Value), uj = .int .i64 j21 ∧ V20 = ux19 ∧ Hid (Below w.heap.size w wr) ∧ Hid (HP wr w.heap.size [.fl (owM (.slice A15 (y11).length cap16) (y11)), .ro V20 (x18)]) ∧ Hid (close_All_L1 F (y11) gg j21 x18 = some o17))
    case atStart => exact ⟨0, [], (.slice none 0 0), rfl, rfl, HD, HOA, HL1⟩
    case round =>
      obtain ⟨j21, x18, V20, rfl, rfl, HD, HOA, HL1⟩ := hrel
      rename World => W22
      cases gk with
      | zero => exact absurd ((close_All_L1_0 ..).symm.trans HL1.out) (by intro h; cases h)
      | succ g1 =>
        replace HL1 := Lib.hid ((close_All_L1_s ..).symm.trans HL1.out)
        by_cases hc23 : j21 < ((y11).length : Int)
        · replace HL1 := Lib.hid (ifT hc23 HL1.out)
          have HK24 := Lib.hid hc23
          try rw [← HP.len_M HOA.out (List.Mem.head _)] at hc23
          obtain ⟨y25, hy26, hm⟩ := obind HL1.out
          replace HL1 := Lib.hid hm; clear hm
          obtain ⟨b27, o28, ea29, _, f30, f31, f32⟩ := ReadsM.ix (HP.rd_M HOA.out (List.Mem.head _)) hy26
          cases ea29
          try simp only [Nat.zero_add, Nat.add_zero, Int.toNat_natCast, Int.toNat_zero, Int.toNat_one] at f32
          try rw [← HP.len_M HOA.out (List.Mem.head _)] at f31
          have HY34 := Lib.hid hy26; clear hy26
          obtain ⟨y37, hy35, hm⟩ := obind HL1.out
          replace HL1 := Lib.hid hm; clear hm
          have HC36 := sList_ok W22  hy35
          clear hy35
          replace HC36 := Lib.hid HC36
          go_wp2_with fail
          refine HC36.out.mono ?_; rintro e W38 ⟨V39, rfl, ho, hd⟩
          try clear hc23 f30 f31 f32
          replace HOA := Lib.hid (HOA.out.call hd HD.out.size ho); clear ho
          replace HD := Lib.hid (HD.out.trans (hd.mono HD.out.size))
          clear hd
          obtain ⟨y41, hy42, hm⟩ := obind HL1.out
          replace HL1 := Lib.hid hm; clear hm
          obtain ⟨f43, hy42⟩ := app_some hy42; subst hy42
          have HF46 := Lib.hid f43; clear f43
          obtain ⟨A47, cap48, he, _⟩ := HP.open_I HOA.out (List.Mem.head _)
          subst he
          have hfr := Lib.hid (HP.front (its1 := []) HOA.out)
          go_wp2_with (at_builtin; refine hp_appR _ (.tmp 24) (.tmp 27) 23 Tryd.underlying23 rfl rfl (its1 := [_]) hfr.out rfl rfl HF46.out HD.out.size ?_; intro V44 W45 hoa hd)
          clear hfr
          replace HOA := Lib.hid (show HP W45 w.heap.size [.fl (owM (.slice (some ⟨b27, o28, none⟩) (y11).length cap16) (y11)), .ro V44 ((x18 ++ [y37]))] from hoa); clear hoa
          replace HD := Lib.hid (HD.out.trans hd); clear hd
          go_wp2_with fail
          go_roundg g1
          case measure => omega
          case rel => exact ⟨(wrap64 (j21 + 1)), (x18 ++ [y37]), V44, rfl, rfl, HD, HOA, HL1⟩
        · replace HL1 := Lib.hid (ifF hc23 HL1.out)
          have hc23d := decide_eq_false hc23
          have HK24 := Lib.hid hc23
          try rw [← HP.len_M HOA.out (List.Mem.head _)] at hc23
          obtain rfl := Option.some.inj HL1.out
          have hm := HM.out; try dsimp only at hm
          replace HM := Lib.hid hm; clear hm
          obtain rfl := Option.some.inj HM.out
          replace HOA := Lib.hid (HOA.out.sub (.cons _ (.cons₂ _ .slnil)))
          go_wp2_with fail
          try clear hc23 hc23d
          go_ret2
          exact ⟨_, rfl, HOA.out, HD.out⟩
  · rw [errV_pos _ hz4] at HC2; replace HC2 := Lib.hid HC2
    go_wp2_with fail
    refine HC2.out.mono ?_; rintro e W6 ⟨rfl, hd⟩
    replace HOA := Lib.hid (HOA.out.below hd)
    replace HD := Lib.hid (HD.out.trans (hd.mono HD.out.size))
    clear hd
    have HZ7 := Lib.hid hz4; clear hz4
    replace HM := Lib.hid (ifT (bne_iff_ne.2 HZ7.out) HM.out)
    obtain rfl := Option.some.inj HM.out
    go_wp2_with fail
    go_ret2
    exact ⟨_, (by first | (rw [errV_pos _ HZ7.out]; rfl) | rw [errV_pos _ HZ7.out]), HP.nil.pushNilR, HD.out⟩
def slices_Max_int_int_L1 (F : Nat) (v0 : List Int) : Nat → (Int) → (Int) → Option (Int × Int)
  | 0, _, _ => none
  | g+1, v2, v3 => if v3 < ((v0).length : Int) then (ix v0 v3).bind fun y2 => slices_Max_int_int_L1 F v0 g ((gmax v2 y2)) ((wrap64 (v3 + 1))) else some (v2, v3)
theorem slices_Max_int_int_L1_0 (F : Nat) (v0 : List Int) (v2 : Int) (v3 : Int) : slices_Max_int_int_L1 F v0 0 v2 v3 = none := by rw [slices_Max_int_int_L1]
theorem slices_Max_int_int_L1_s (F g : Nat) (v0 : List Int) (v2 : Int) (v3 : Int) : slices_Max_int_int_L1 F v0 (g+1) v2 v3 = (if v3 < ((v0).length : Int) then (ix v0 v3).bind fun y2 => slices_Max_int_int_L1 F v0 g ((gmax v2 y2)) ((wrap64 (v3 + 1))) else some (v2, v3)) := by rw [slices_Max_int_int_L1]
def slices_Max_int_int (F : Nat) (v0 : List Int) : Option (Int) := (if ((v0).length : Int) < 1 then none else (ix v0 0).bind fun y1 => (slices_Max_int_int_L1 F (v0) F (y1) (1)).bind fun o3 => some (o3.1))
set_option maxRecDepth 100000 in
set_option maxHeartbeats 4000000 in
theorem slices_Max_int_int_ok {F : Nat} {v0 : List Int} {A0 : Option Addr} {r : Int} (w : World) (cap0 : Nat) (hr0 : ReadsI w w.heap.size A0 v0) (h : slices_Max_int_int F v0 = some r) :
    Calls Tryd.prog 30 #[.slice A0 v0.length cap0] w fun e w' => e = .returned (.int .i64 r) ∧ w = w' := by
  have HR0 := Lib.hid hr0; clear hr0
  unfold slices_Max_int_int at h
  have HM := Lib.hid h; clear h
  go_enter Tryd.func30, Tryd.ntmps30
  by_cases hc1 : ((v0).length : Int) < 1
  · replace HM := Lib.hid (ifT hc1 HM.out)
    have HK2 := Lib.hid hc1
    have hc1n := hc1; try norm_cast at hc1n
    all_goals exact absurd HM.out (by intro h; cases h)
  · replace HM := Lib.hid (ifF hc1 HM.out)
    have hc1d := decide_eq_false hc1
    have HK2 := Lib.hid hc1
    have hc1n := hc1; try norm_cast at hc1n
    obtain ⟨y3, hy4, hm⟩ := obind HM.out
    replace HM := Lib.hid hm; clear hm
    obtain ⟨b5, o6, ea7, _, f8, f9, f10⟩ := ReadsI.ix HR0.out hy4
    cases ea7
    try simp only [Nat.zero_add, Nat.add_zero, Int.toNat_natCast, Int.toNat_zero, Int.toNat_one] at f10
    have f9n := f9; try norm_cast at f9n
    have HY12 := Lib.hid hy4; clear hy4
    go_wp2_with fail
    try clear hc1 hc1n hc1d f8 f9 f10 f9n
    obtain ⟨o13, ho, hm⟩ := obind HM.out
    replace HM := Lib.hid hm; have HL1 := Lib.hid ho; clear hm ho
    go_loopg [3, 4] F (fun gg ux16 ux17 wr => ∃ (x14 : Int) (x15 : Int), ux16 = .int .i64 x14 ∧ ux17 = .int .i64 x15 ∧ w = wr ∧ Hid (slices_Max_int_int_L1 F (v0) gg x14 x15 = some o13))
    case atStart => exact ⟨y3, 1, rfl, rfl, rfl, HL1⟩
    case round =>
      obtain ⟨x14, x15, rfl, rfl, rfl, HL1⟩ := hrel
      cases gk with
      | zero => exact absurd ((slices_Max_int_int_L1_0 ..).symm.trans HL1.out) (by intro h; cases h)
      | succ g1 =>
        replace HL1 := Lib.hid ((slices_Max_int_int_L1_s ..).symm.trans HL1.out)
        by_cases hc18 : x15 < ((v0).length : Int)
        · replace HL1 := Lib.hid (ifT hc18 HL1.out)
          have HK19 := Lib.hid hc18
          obtain ⟨y20, hy21, hm⟩ := obind HL1.out
          replace HL1 := Lib.hid hm; clear hm
          obtain ⟨b22, o23, ea24, _, f25, f26, f27⟩ := ReadsI.ix HR0.out hy21
          cases ea24
          try simp only [Nat.zero_add, Nat.add_zero, Int.toNat_natCast, Int.toNat_zero, Int.toNat_one] at f27
          have HY29 := Lib.hid hy21; clear hy21
          by_cases hc30 : x14 < y20
          · replace HL1 := Lib.hid (by have q := HL1.out; (try simp only [show gmax x14 y20 = y20 from if_pos hc30] at q); exact q)
            have HK31 := Lib.hid hc30
            have hc30x : x14 < y20 := by first | exact hc30 | (simp only [i64w]; exact hc30)
            have hc30y : ¬ (y20 ≤ x14) := by first | exact Int.not_le.2 hc30 | (simp only [i64w]; exact Int.not_le.2 hc30)
            have hc30m : max (x14) (y20) = y20 := by omega
            go_wp2_with fail
            try clear hc18 f25 f26 f27 hc30 hc30x hc30y hc30m
            go_roundg g1
            case measure => omega
            case rel => exact ⟨y20, (wrap64 (x15 + 1)), rfl, rfl, rfl, HL1⟩
          · replace HL1 := Lib.hid (by have q := HL1.out; (try simp only [show gmax x14 y20 = x14 from if_neg hc30] at q); exact q)
            have HK31 := Lib.hid hc30
            have hc30x : ¬ (x14 < y20) := by first | exact hc30 | (simp only [i64w]; exact hc30)
            have hc30y : y20 ≤ x14 := by first | exact Int.not_lt.1 hc30 | (simp only [i64w]; exact Int.not_lt.1 hc30)
            have hc30m : max (x14) (y20) = x14 := by omega
            go_wp2_with fail
            try clear hc18 f25 f26 f27 hc30 hc30x hc30y hc30m
            go_roundg g1
            case measure => omega
            case rel => exact ⟨x14, (wrap64 (x15 + 1)), rfl, rfl, rfl, HL1⟩
        · replace HL1 := Lib.hid (ifF hc18 HL1.out)
          have hc18d := decide_eq_false hc18
          have HK19 := Lib.hid hc18
          obtain rfl := Option.some.inj HL1.out
          have hm := HM.out; try dsimp only at hm
          replace HM := Lib.hid hm; clear hm
          obtain rfl := Option.some.inj HM.out
          go_wp2_with fail
          try clear hc18 hc18d
          go_ret
          exact ⟨rfl, rfl⟩
end Go.Proofs.YtoiidngnlhhanaaDoor
