import Derived.Test.YtoiidngnlhhanaaDoorB
import Derived.Test.YtoiidngnlhhanaaDoorReach
set_option linter.all false
set_option maxRecDepth 100000
namespace Go.Proofs.YtoiidngnlhhanaaDoor
open Go.RowKit
def strong_Parts_L1 (F : Nat) (v1 : List (Int × Int)) : Nat → (Int) → (List (Int × Int)) → Option (List (Int × Int))
  | 0, _, _ => none
  | g+1, j, v6 => if j < ((v1).length : Int) then (ix v1 j).bind fun y => (app v6 (y.2, y.1)).bind fun y3 => strong_Parts_L1 F v1 g (wrap64 (j + 1)) (y3) else some (v6)
theorem strong_Parts_L1_0 (F : Nat) (v1 : List (Int × Int)) (v6 : List (Int × Int)) (j : Int) : strong_Parts_L1 F v1 0 j v6 = none := by rw [strong_Parts_L1]
theorem strong_Parts_L1_s (F g : Nat) (v1 : List (Int × Int)) (v6 : List (Int × Int)) (j : Int) : strong_Parts_L1 F v1 (g+1) j v6 = (if j < ((v1).length : Int) then (ix v1 j).bind fun y => (app v6 (y.2, y.1)).bind fun y3 => strong_Parts_L1 F v1 g (wrap64 (j + 1)) (y3) else some (v6)) := by rw [strong_Parts_L1]
def strong_Parts_L2 (F : Nat) (v0 : Int) (v5 : List Nat) (v9 : List Nat) : Nat → (Int) → (List Int) → Option (List Int)
  | 0, _, _ => none
  | g+1, j, v10 => if j < v0 then (sBelow (v0)).bind fun y6 => (core_Reach F (j) (v5) (y6)).bind fun y7 => (sBelow (v0)).bind fun y8 => (core_Reach F (j) (v9) (y8)).bind fun y9 => (sAnd y7 y9).bind fun y10 => (sList (y10)).bind fun y12 => (ix y12 0).bind fun y13 => (app v10 y13).bind fun y11 => strong_Parts_L2 F v0 v5 v9 g (wrap64 (j + 1)) (y11) else some (v10)
theorem strong_Parts_L2_0 (F : Nat) (v0 : Int) (v5 : List Nat) (v9 : List Nat) (v10 : List Int) (j : Int) : strong_Parts_L2 F v0 v5 v9 0 j v10 = none := by rw [strong_Parts_L2]
theorem strong_Parts_L2_s (F g : Nat) (v0 : Int) (v5 : List Nat) (v9 : List Nat) (v10 : List Int) (j : Int) : strong_Parts_L2 F v0 v5 v9 (g+1) j v10 = (if j < v0 then (sBelow (v0)).bind fun y6 => (core_Reach F (j) (v5) (y6)).bind fun y7 => (sBelow (v0)).bind fun y8 => (core_Reach F (j) (v9) (y8)).bind fun y9 => (sAnd y7 y9).bind fun y10 => (sList (y10)).bind fun y12 => (ix y12 0).bind fun y13 => (app v10 y13).bind fun y11 => strong_Parts_L2 F v0 v5 v9 g (wrap64 (j + 1)) (y11) else some (v10)) := by rw [strong_Parts_L2]
def strong_Parts (F : Nat) (v0 : Int) (v1 : List (Int × Int)) : Option (List Int × Int) := (mCheck (v0) (v1)).bind fun y1 => (if (y1 != 0) = true then some (([], y1)) else (mOut (v0) (v1)).bind fun y2 => (strong_Parts_L1 F (v1) F (0) ([])).bind fun o4 => (mOut (v0) (o4)).bind fun y5 => (strong_Parts_L2 F (v0) (y2) (y5) F (0) ([])).bind fun o14 => some ((o14, 0)))
set_option maxRecDepth 100000 in
set_option maxHeartbeats 4000000 in
theorem strong_Parts_ok {F : Nat} {v0 : Int} {v1 : List (Int × Int)} {A1 : Option Addr} {r : List Int × Int} (w : World) (cap1 : Nat) (hr1 : ReadsL w w.heap.size A1 v1) (h : strong_Parts F v0 v1 = some r) :
    Calls Tryd.prog 8 #[.int .i64 v0, .slice A1 v1.length cap1] w (PostG (fun v => (.tuple #[v, (errV 55 r.2)])) (fun v => owI v r.1) w.heap.size w) := by
  have HR1 := Lib.hid hr1; clear hr1
  have HD := Lib.hid (Below.refl w.heap.size w)
  have HOA := Lib.hid (HP.nil (W := w) (B := w.heap.size))
  unfold strong_Parts at h
  have HM := Lib.hid h; clear h
  go_enter Tryd.func8, Tryd.ntmps8
  obtain ⟨y3, hy1, hm⟩ := obind HM.out
  replace HM := Lib.hid hm; clear hm
  have HC2 := mCheck_ok w cap1 (rdL HD.out HR1.out) hy1
  clear hy1
  by_cases hz4 : y3 = 0
  · subst hz4
    rw [errV_zero] at HC2; replace HC2 := Lib.hid HC2
    go_wp2_with fail
    refine HC2.out.mono ?_; rintro e W5 ⟨rfl, hd⟩
    replace HOA := Lib.hid (HOA.out.below hd)
    replace HD := Lib.hid (HD.out.trans (hd.mono HD.out.size))
    clear hd
    replace HM := Lib.hid (ifF (by decide) HM.out)
    obtain ⟨y10, hy8, hm⟩ := obind HM.out
    replace HM := Lib.hid hm; clear hm
    have HC9 := mOut_ok W5 cap1 (rdL HD.out HR1.out) hy8
    clear hy8
    replace HC9 := Lib.hid HC9
    go_wp2_with fail
    refine HC9.out.mono ?_; rintro e W11 ⟨V12, rfl, ho, hd⟩
    replace HOA := Lib.hid (HOA.out.call hd HD.out.size ho); clear ho
    replace HD := Lib.hid (HD.out.trans (hd.mono HD.out.size))
    clear hd
    replace HOA := Lib.hid (show HP _ _ (.fl (owL (.slice none 0 0) ([])) :: _) from HOA.out.pushNil _ _)
    go_wp2_with fail
    obtain ⟨o15, ho, hm⟩ := obind HM.out
    replace HM := Lib.hid hm; have HL1 := Lib.hid ho; clear hm ho
    go_loopg [26, 8] F (fun gg uj ux17 wr => ∃ (j19 : Int) (x16 : List (Int × Int)) (V18 : Value), uj = .int .i64 j19 ∧ V18 = ux17 ∧ Hid (Below w.heap.size w wr) ∧ Hid (HP wr w.heap.size [.fl (owL V18 (x16)), .fl (owM V12 (y10))]) ∧ Hid (strong_Parts_L1 F (v1) gg j19 x16 = some o15))
    case atStart => exact ⟨0, [], (.slice none 0 0), rfl, rfl, HD, HOA, HL1⟩
    case round =>
      obtain ⟨j19, x16, V18, rfl, rfl, HD, HOA, HL1⟩ := hrel
      rename World => W20
      cases gk with
      | zero => exact absurd ((strong_Parts_L1_0 ..).symm.trans HL1.out) (by intro h; cases h)
      | succ g1 =>
        replace HL1 := Lib.hid ((strong_Parts_L1_s ..).symm.trans HL1.out)
        by_cases hc21 : j19 < ((v1).length : Int)
        · replace HL1 := Lib.hid (ifT hc21 HL1.out)
          have HK22 := Lib.hid hc21
          obtain ⟨y23, hy24, hm⟩ := obind HL1.out
          replace HL1 := Lib.hid hm; clear hm
          obtain ⟨b25, o26, ea27, _, f28, f29, f30, f31⟩ := ReadsL.ix (rdL HD.out HR1.out) hy24
          cases ea27
          try simp only [Nat.zero_add, Nat.add_zero, Int.toNat_natCast, Int.toNat_zero, Int.toNat_one] at f30 f31
          have HY32 := Lib.hid hy24; clear hy24
          go_upto_region 9 with (fail)
          have hd : Below W20.heap.size W20 (W20.alloc (.cells #[Value.int .i64 y23.1, Value.int .i64 y23.2] 32)) := (Below.refl _ _).alloc (Nat.le_refl _) _
          have ho := boxRL W20 y23
          generalize hW : World.alloc W20 _ = W33 at *
          clear hW
          try clear hc21 f28 f29 f30 f31
          replace HOA := Lib.hid (HOA.out.call hd HD.out.size ho); clear ho
          replace HD := Lib.hid (HD.out.trans (hd.mono HD.out.size))
          clear hd
          obtain ⟨f36, f37⟩ := boxL (HP.rd_L HOA.out (List.Mem.head _))
          obtain ⟨y38, hy39, hm⟩ := obind HL1.out
          replace HL1 := Lib.hid hm; clear hm
          obtain ⟨f40, hy39⟩ := app_some hy39; subst hy39
          have HF43 := Lib.hid f40; clear f40
          go_wp2_with (at_builtin; refine hp_appL _ (.tmp 30) (.tmp 36) 22 Tryd.underlying22 rfl rfl (L1 := [_]) HOA.out rfl rfl HF43.out HD.out.size ?_; intro V41 W42 hoa hd)
          try clear f36 f37
          replace HOA := Lib.hid (show HP W42 w.heap.size [.fl (owL (.slice (some ⟨W20.heap.size, 0, none⟩) 1 1) ([y23])), .fl (owL V41 ((x16 ++ [(y23.2, y23.1)]))), .fl (owM V12 (y10))] from hoa); clear hoa
          replace HD := Lib.hid (HD.out.trans hd); clear hd
          go_wp2_with fail
          replace HOA := Lib.hid (HOA.out.sub (.cons _ (.cons₂ _ (.cons₂ _ .slnil))))
          go_roundg g1
          case measure => omega
          case rel => exact ⟨(wrap64 (j19 + 1)), (x16 ++ [(y23.2, y23.1)]), V41, rfl, rfl, HD, HOA, HL1⟩
        · replace HL1 := Lib.hid (ifF hc21 HL1.out)
          have hc21d := decide_eq_false hc21
          have HK22 := Lib.hid hc21
          obtain rfl := Option.some.inj HL1.out
          have hm := HM.out; try dsimp only at hm
          replace HM := Lib.hid hm; clear hm
          obtain ⟨y46, hy44, hm⟩ := obind HM.out
          replace HM := Lib.hid hm; clear hm
          obtain ⟨A47, cap48, he, _⟩ := HP.open_L HOA.out (List.Mem.head _)
          subst he
          have HC45 := mOut_ok W20 cap48 (HP.rd_L HOA.out (List.Mem.head _)) hy44
          clear hy44
          replace HC45 := Lib.hid HC45
          go_wp2_with fail
          refine HC45.out.mono ?_; rintro e W49 ⟨V50, rfl, ho, hd⟩
          try clear hc21 hc21d
          replace HOA := Lib.hid (HOA.out.call hd HD.out.size ho); clear ho
          replace HD := Lib.hid (HD.out.trans (hd.mono HD.out.size))
          clear hd
          replace HOA := Lib.hid (show HP _ _ (.fl (owI (.slice none 0 0) ([])) :: _) from HOA.out.pushNil _ _)
          go_wp2_with fail
          obtain ⟨o53, ho, hm⟩ := obind HM.out
          replace HM := Lib.hid hm; have HL2 := Lib.hid ho; clear hm ho
          go_loopg [43, 12] F (fun gg uj ux55 wr => ∃ (j57 : Int) (x54 : List Int) (V56 : Value), uj = .int .i64 j57 ∧ V56 = ux55 ∧ Hid (Below w.heap.size w wr) ∧ Hid (HP wr w.heap.size [.fl (owI V56 (x54)), .fl (owM V50 (y46)), .fl (owL (.slice A47 (x16).length cap48) (x16)), .fl (owM V12 (y10))]) ∧ Hid (strong_Parts_L2 F (v0) (y10) (y46) gg j57 x54 = some o53))
          case atStart => exact ⟨0, [], (.slice none 0 0), rfl, rfl, HD, HOA, HL2⟩
          case round =>
            obtain ⟨j57, x54, V56, rfl, rfl, HD, HOA, HL2⟩ := hrel
            rename World => W58
            cases gk with
            | zero => exact absurd ((strong_Parts_L2_0 ..).symm.trans HL2.out) (by intro h; cases h)
            | succ g2 =>
              replace HL2 := Lib.hid ((strong_Parts_L2_s ..).symm.trans HL2.out)
              by_cases hc59 : j57 < v0
              · replace HL2 := Lib.hid (ifT hc59 HL2.out)
                have HK60 := Lib.hid hc59
                obtain ⟨y63, hy61, hm⟩ := obind HL2.out
                replace HL2 := Lib.hid hm; clear hm
                have HC62 := sBelow_ok W58  hy61
                clear hy61
                replace HC62 := Lib.hid HC62
                obtain ⟨y66, hy64, hm⟩ := obind HL2.out
                replace HL2 := Lib.hid hm; clear hm
                obtain ⟨A67, cap68, he, _⟩ := HP.open_M HOA.out (List.Mem.tail _ (List.Mem.tail _ (List.Mem.tail _ (List.Mem.head _))))
                subst he
                have HC65 := core_Reach_ok W58 cap68 (HP.rd_M HOA.out (List.Mem.tail _ (List.Mem.tail _ (List.Mem.tail _ (List.Mem.head _))))) hy64
                clear hy64
                replace HC65 := Lib.hid HC65
                go_wp2_with fail
                refine HC62.out.mono ?_; rintro e w' ⟨rfl, rfl⟩
                go_wp2_with fail
                refine HC65.out.mono ?_; rintro e W69 ⟨rfl, hd⟩
                try clear hc59
                replace HOA := Lib.hid (HOA.out.below hd)
                replace HD := Lib.hid (HD.out.trans (hd.mono HD.out.size))
                clear hd
                obtain ⟨y72, hy70, hm⟩ := obind HL2.out
                replace HL2 := Lib.hid hm; clear hm
                have HC71 := sBelow_ok W69  hy70
                clear hy70
                replace HC71 := Lib.hid HC71
                obtain ⟨y75, hy73, hm⟩ := obind HL2.out
                replace HL2 := Lib.hid hm; clear hm
                obtain ⟨A76, cap77, he, _⟩ := HP.open_M HOA.out (List.Mem.tail _ (List.Mem.head _))
                subst he
                have HC74 := core_Reach_ok W69 cap77 (HP.rd_M HOA.out (List.Mem.tail _ (List.Mem.head _))) hy73
                clear hy73
                replace HC74 := Lib.hid HC74
                go_wp2_with fail
                refine HC71.out.mono ?_; rintro e w' ⟨rfl, rfl⟩
                go_wp2_with fail
                refine HC74.out.mono ?_; rintro e W78 ⟨rfl, hd⟩
                replace HOA := Lib.hid (HOA.out.below hd)
                replace HD := Lib.hid (HD.out.trans (hd.mono HD.out.size))
                clear hd
                obtain ⟨y79, hy80, hm⟩ := obind HL2.out
                replace HL2 := Lib.hid hm; clear hm
                obtain ⟨f81, hy80⟩ := sAnd_some hy80; subst hy80
                obtain ⟨y84, hy82, hm⟩ := obind HL2.out
                replace HL2 := Lib.hid hm; clear hm
                have HC83 := sList_ok W78  hy82
                clear hy82
                replace HC83 := Lib.hid HC83
                go_wp2_with fail
                refine HC83.out.mono ?_; rintro e W85 ⟨V86, rfl, ho, hd⟩
                try clear f81
                replace HOA := Lib.hid (HOA.out.call hd HD.out.size ho); clear ho
                replace HD := Lib.hid (HD.out.trans (hd.mono HD.out.size))
                clear hd
                obtain ⟨A90, cap91, he, _⟩ := HP.open_I HOA.out (List.Mem.head _)
                subst he
                obtain ⟨y88, hy89, hm⟩ := obind HL2.out
                replace HL2 := Lib.hid hm; clear hm
                obtain ⟨b92, o93, ea94, _, f95, f96, f97⟩ := ReadsI.ix (HP.rd_I HOA.out (List.Mem.head _)) hy89
                cases ea94
                try simp only [Nat.zero_add, Nat.add_zero, Int.toNat_natCast, Int.toNat_zero, Int.toNat_one] at f97
                have f96n := f96; try norm_cast at f96n
                try rw [← HP.len_I HOA.out (List.Mem.head _)] at f96
                have HY99 := Lib.hid hy89; clear hy89
                obtain ⟨y100, hy101, hm⟩ := obind HL2.out
                replace HL2 := Lib.hid hm; clear hm
                obtain ⟨f102, hy101⟩ := app_some hy101; subst hy101
                have HF105 := Lib.hid f102; clear f102
                go_wp2_with (at_builtin; refine hp_appI _ (.tmp 57) (.tmp 62) 28 Tryd.underlying28 rfl rfl (L1 := [_]) HOA.out rfl rfl HF105.out HD.out.size ?_; intro V103 W104 hoa hd)
                try clear f95 f96 f97 f96n
                replace HOA := Lib.hid (show HP W104 w.heap.size [.fl (owI (.slice (some ⟨b92, o93, none⟩) (y84).length cap91) (y84)), .fl (owI V103 ((x54 ++ [y88]))), .fl (owM (.slice A76 (y46).length cap77) (y46)), .fl (owL (.slice A47 (x16).length cap48) (x16)), .fl (owM (.slice A67 (y10).length cap68) (y10))] from hoa); clear hoa
                replace HD := Lib.hid (HD.out.trans hd); clear hd
                go_wp2_with fail
                replace HOA := Lib.hid (HOA.out.sub (.cons _ (.cons₂ _ (.cons₂ _ (.cons₂ _ (.cons₂ _ .slnil))))))
                go_roundg g2
                case measure => omega
                case rel => exact ⟨(wrap64 (j57 + 1)), (x54 ++ [y88]), V103, rfl, rfl, HD, HOA, HL2⟩
              · replace HL2 := Lib.hid (ifF hc59 HL2.out)
                have hc59d := decide_eq_false hc59
                have HK60 := Lib.hid hc59
                obtain rfl := Option.some.inj HL2.out
                have hm := HM.out; try dsimp only at hm
                replace HM := Lib.hid hm; clear hm
                obtain rfl := Option.some.inj HM.out
                go_wp2_with fail
                try clear hc59 hc59d
                go_ret2
                exact ⟨_, rfl, HOA.out.get (List.Mem.head _), HD.out⟩
  · rw [errV_pos _ hz4] at HC2; replace HC2 := Lib.hid HC2
    go_wp2_with fail
    refine HC2.out.mono ?_; rintro e W6 ⟨rfl, hd⟩
    replace HOA := Lib.hid (HOA.out.below hd)
    replace HD := Lib.hid (HD.out.trans (hd.mono HD.out.size))
    clear hd
    have HZ7 := Lib.hid hz4; clear hz4
    replace HM := Lib.hid (ifT (bne_iff_ne.2 HZ7.out) HM.out)
    obtain rfl := Option.some.inj HM.out
    go_wp2_with fail
    go_ret2
    exact ⟨_, (by first | (rw [errV_pos _ HZ7.out]; rfl) | rw [errV_pos _ HZ7.out]), World.ownsRow_nil _ _ _ _, HD.out⟩
end Go.Proofs.YtoiidngnlhhanaaDoor
