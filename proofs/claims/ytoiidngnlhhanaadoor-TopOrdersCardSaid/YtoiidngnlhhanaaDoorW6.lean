import Derived.Test.YtoiidngnlhhanaaDoorW2
import Derived.Test.YtoiidngnlhhanaaDoorW4
import Derived.Test.YtoiidngnlhhanaaDoorW5
import Derived.Test.YtoiidngnlhhanaaDoorC2
import Derived.Test.YtoiidngnlhhanaaDoorF2
import Derived.Test.YtoiidngnlhhanaaDoorErr
import Derived.Test.YtoiidngnlhhanaaDoorGR
set_option linter.all false
set_option maxRecDepth 100000
namespace Go.Proofs.YtoiidngnlhhanaaDoor
open Go.RowKit
def LT_TopOrders_L1 (F : Nat) (v1 : List (Int × Int)) : Nat → (List (Int × Int × Int)) → (Int) → Option (List (Int × Int × Int) × Int)
  | 0, _, _ => none
  | g+1, v11, v12 => if v12 < ((v1).length : Int) then (ix v1 v12).bind fun y8 => (ix v1 v12).bind fun y9 => (app v11 (y8.1, y9.2, 1)).bind fun y7 => LT_TopOrders_L1 F v1 g (y7) ((wrap64 (v12 + 1))) else some (v11, v12)
theorem LT_TopOrders_L1_0 (F : Nat) (v1 : List (Int × Int)) (v11 : List (Int × Int × Int)) (v12 : Int) : LT_TopOrders_L1 F v1 0 v11 v12 = none := by rw [LT_TopOrders_L1]
theorem LT_TopOrders_L1_s (F g : Nat) (v1 : List (Int × Int)) (v11 : List (Int × Int × Int)) (v12 : Int) : LT_TopOrders_L1 F v1 (g+1) v11 v12 = (if v12 < ((v1).length : Int) then (ix v1 v12).bind fun y8 => (ix v1 v12).bind fun y9 => (app v11 (y8.1, y9.2, 1)).bind fun y7 => LT_TopOrders_L1 F v1 g (y7) ((wrap64 (v12 + 1))) else some (v11, v12)) := by rw [LT_TopOrders_L1]
def LT_TopOrders_L2 (F : Nat) (v0 : Int) (v3 : List (List Int)) (v9 : List Int) : Nat → (Bool) → (Bool) → (Int) → Option (Bool × Bool × Int)
  | 0, _, _, _ => none
  | g+1, v18, v19, v20 => if v20 < v0 then (if v18 = true then some true else (ix v3 v20).bind fun y15 => (R1_Has F (y15) (v20)).bind fun y16 => if y16 = true then some true else some false).bind fun b14 => (if v19 = true then (ix v9 v20).bind fun y18 => if (y18 == v20) = true then some true else some false else some false).bind fun b17 => LT_TopOrders_L2 F v0 v3 v9 g (b14) (b17) ((wrap64 (v20 + 1))) else some (v18, v19, v20)
theorem LT_TopOrders_L2_0 (F : Nat) (v0 : Int) (v3 : List (List Int)) (v9 : List Int) (v18 : Bool) (v19 : Bool) (v20 : Int) : LT_TopOrders_L2 F v0 v3 v9 0 v18 v19 v20 = none := by rw [LT_TopOrders_L2]
theorem LT_TopOrders_L2_s (F g : Nat) (v0 : Int) (v3 : List (List Int)) (v9 : List Int) (v18 : Bool) (v19 : Bool) (v20 : Int) : LT_TopOrders_L2 F v0 v3 v9 (g+1) v18 v19 v20 = (if v20 < v0 then (if v18 = true then some true else (ix v3 v20).bind fun y15 => (R1_Has F (y15) (v20)).bind fun y16 => if y16 = true then some true else some false).bind fun b14 => (if v19 = true then (ix v9 v20).bind fun y18 => if (y18 == v20) = true then some true else some false else some false).bind fun b17 => LT_TopOrders_L2 F v0 v3 v9 g (b14) (b17) ((wrap64 (v20 + 1))) else some (v18, v19, v20)) := by rw [LT_TopOrders_L2]
def LT_TopOrders (F : Nat) (v0 : Int) (v1 : List (Int × Int)) : Option (Bool) := (close_All F (v0) (v1)).bind fun y1 => (topo_Order F (2) ([(0, 1), (1, 0)])).bind fun y2 => ((mErr (y2.2) (5)).bind fun y3 => if y3 = true then (if (y1.2 != 0) = true then (if (((y1.1).length : Int) == 0) = true then some true else some false).bind fun b4 => some (b4) else (if (((y1.1).length : Int) != v0) = true then some (false) else (topo_Order F (v0) (v1)).bind fun y5 => (strong_Parts F (v0) (v1)).bind fun y6 => (LT_TopOrders_L1 F (v1) F ([]) (0)).bind fun o10 => (mean_Least F (v0) (o10.1)).bind fun y11 => (chain_Longest F (v0) (v1)).bind fun y12 => ((if (y6.2 != 0) = true then some true else if (((y6.1).length : Int) != v0) = true then some true else some false).bind fun b13 => if b13 = true then some (false) else (LT_TopOrders_L2 F (v0) (y1.1) (y6.1) F (false) (true) (0)).bind fun o19 => ((((if (y5.2 == 0) = true then some true else some false).bind fun b23 => (if o19.1 = true then some false else some true).bind fun b24 => if (b23 == b24) = true then (if o19.1 = true then some false else some true).bind fun b25 => if (o19.2.1 == b25) = true then some true else some false else some false).bind fun b22 => if b22 = true then (mErr (y11.2.2) (5)).bind fun y26 => (if o19.1 = true then some false else some true).bind fun b27 => if (y26 == b27) = true then some true else some false else some false).bind fun b21 => if b21 = true then (if (y12.2 == 0) = true then some true else some false).bind fun b28 => (if o19.1 = true then some false else some true).bind fun b29 => if (b28 == b29) = true then some true else some false else some false).bind fun b20 => some (b20)))) else some (false))
set_option maxRecDepth 100000 in
set_option maxHeartbeats 4000000 in
theorem LT_TopOrders_ok {F : Nat} {v0 : Int} {v1 : List (Int × Int)} {A1 : Option Addr} {r : Bool} (w : World) (htc : TyCell w) (cap1 : Nat) (hr1 : ReadsL w w.heap.size A1 v1) (h : LT_TopOrders F v0 v1 = some r) :
    Calls Tryd.prog 3 #[.int .i64 v0, .slice A1 v1.length cap1] w fun e w' => e = .returned (.bool r) ∧ Below w.heap.size w w' := by
  have HTC := Lib.hid htc; clear htc
  have HR1 := Lib.hid hr1; clear hr1
  have HD := Lib.hid (Below.refl w.heap.size w)
  have HOA := Lib.hid (HP.nil (W := w) (B := w.heap.size))
  unfold LT_TopOrders at h
  have HM := Lib.hid h; clear h
  go_enter Tryd.func3, Tryd.ntmps3
  obtain ⟨⟨y3, y4⟩, hy1, hm⟩ := obind HM.out
  dsimp only at hm
  replace HM := Lib.hid hm; clear hm
  have HC2 := close_All_ok w cap1 (rdL HD.out HR1.out) hy1
  clear hy1
  replace HC2 := Lib.hid HC2
  go_wp2_with fail
  refine HC2.out.mono ?_; rintro e W5 ⟨V6, rfl, ho, hd⟩
  replace HOA := Lib.hid (HOA.out.callR hd HD.out.size ho); clear ho
  replace HD := Lib.hid (HD.out.trans (hd.mono HD.out.size))
  clear hd
  have hd : Below W5.heap.size W5 (World.alloc W5 (.cells #[Value.int .i64 (0), Value.int .i64 (1), Value.int .i64 (1), Value.int .i64 (0)] 32)) := (Below.refl _ _).alloc (Nat.le_refl _) _
  have ho : (owL (.slice (some ⟨W5.heap.size, 0, none⟩) 2 2) [(0, 1), (1, 0)]).ok (World.alloc W5 (.cells #[Value.int .i64 (0), Value.int .i64 (1), Value.int .i64 (1), Value.int .i64 (0)] 32)) W5.heap.size := litL_ok W5 [(0, 1), (1, 0)] (by unfold maxLen; simp)
  replace HOA := Lib.hid (HOA.out.call hd HD.out.size ho); clear ho
  replace HD := Lib.hid (HD.out.trans (hd.mono HD.out.size))
  clear hd
  obtain ⟨⟨y12, y13⟩, hy10, hm⟩ := obind HM.out
  dsimp only at hm
  replace HM := Lib.hid hm; clear hm
  have HC11 := topo_Order_ok (World.alloc W5 (.cells #[Value.int .i64 (0), Value.int .i64 (1), Value.int .i64 (1), Value.int .i64 (0)] 32)) 2 (HP.rd_L HOA.out (List.Mem.head _)) hy10
  clear hy10
  try rw [← HP.len_L HOA.out (List.Mem.head _)] at HC11
  replace HC11 := Lib.hid HC11
  go_wp2_with fail
  refine HC11.out.mono ?_; rintro e W14 ⟨V15, rfl, ho, hd⟩
  replace HOA := Lib.hid (HOA.out.call hd HD.out.size ho); clear ho
  replace HD := Lib.hid (HD.out.trans (hd.mono HD.out.size))
  clear hd
  obtain ⟨y19, hy17, hm⟩ := obind HM.out
  replace HM := Lib.hid hm; clear hm
  have HC18 := mErr_ok W14 (HTC.out.go HD.out)  hy17
  clear hy17
  replace HC18 := Lib.hid HC18
  go_wp2_with fail
  refine HC18.out.mono ?_; rintro e W20 ⟨rfl, hd⟩
  replace HOA := Lib.hid (HOA.out.below hd)
  replace HD := Lib.hid (HD.out.trans (hd.mono HD.out.size))
  clear hd
  cases y19
  · replace HM := Lib.hid (ifF Bool.false_ne_true HM.out)
    obtain rfl := Option.some.inj HM.out
    go_wp2_with fail
    go_ret
    exact ⟨rfl, HD.out⟩
  · replace HM := Lib.hid (ifT rfl HM.out)
    go_wp2_with fail
    by_cases hz21 : y4 = 0
    · subst hz21
      try simp only [errV_zero]
      replace HM := Lib.hid (ifF (by decide) HM.out)
      obtain ⟨A23, cap24, he, _⟩ := HP.open_R HOA.out (List.Mem.tail _ (List.Mem.tail _ (List.Mem.head _)))
      subst he
      rcases Bool.eq_false_or_eq_true (((y3).length : Int) != v0) with hc25 | hc25
      · replace HM := Lib.hid (ifT hc25 HM.out)
        have HK26 := Lib.hid hc25
        obtain rfl := Option.some.inj HM.out
        go_wp2_with fail
        go_ret
        exact ⟨(by first | rfl | (refine congrArg (fun b => Ending.returned (Value.bool b)) ?_; first | (exact decide_eq_true (by omega)) | (exact decide_eq_false (by omega)) | (have q := hc25; rw [bne_iff_ne] at q ⊢; omega) | (have q := hc25; rw [bne_eq_false_iff_eq] at q ⊢; omega) | (have q := hc25; rw [beq_iff_eq] at q ⊢; omega) | (have q := hc25; rw [beq_eq_false_iff_ne] at q ⊢; omega))), HD.out⟩
      · replace HM := Lib.hid (ifF (bF hc25) HM.out)
        have HK26 := Lib.hid hc25
        obtain ⟨⟨y29, y30⟩, hy27, hm⟩ := obind HM.out
        dsimp only at hm
        replace HM := Lib.hid hm; clear hm
        have HC28 := topo_Order_ok W20 cap1 (rdL HD.out HR1.out) hy27
        clear hy27
        replace HC28 := Lib.hid HC28
        go_wp2_with fail
        refine HC28.out.mono ?_; rintro e W31 ⟨V32, rfl, ho, hd⟩
        try clear hc25
        replace HOA := Lib.hid (HOA.out.call hd HD.out.size ho); clear ho
        replace HD := Lib.hid (HD.out.trans (hd.mono HD.out.size))
        clear hd
        obtain ⟨⟨y36, y37⟩, hy34, hm⟩ := obind HM.out
        dsimp only at hm
        replace HM := Lib.hid hm; clear hm
        have HC35 := strong_Parts_ok W31 cap1 (rdL HD.out HR1.out) hy34
        clear hy34
        replace HC35 := Lib.hid HC35
        go_wp2_with fail
        refine HC35.out.mono ?_; rintro e W38 ⟨V39, rfl, ho, hd⟩
        replace HOA := Lib.hid (HOA.out.call hd HD.out.size ho); clear ho
        replace HD := Lib.hid (HD.out.trans (hd.mono HD.out.size))
        clear hd
        replace HOA := Lib.hid (show HP _ _ (.fl (owC (.slice none 0 0) ([])) :: _) from HOA.out.pushNil _ _)
        go_wp2_with fail
        obtain ⟨o42, ho, hm⟩ := obind HM.out
        replace HM := Lib.hid hm; have HL1 := Lib.hid ho; clear hm ho
        replace HOA := Lib.hid (HOA.out.sub (.cons₂ _ (.cons₂ _ (.cons₂ _ (.cons₂ _ (.cons _ (.cons₂ _ .slnil)))))))
        go_loopg [13, 14] F (fun gg ux45 ux46 wr => ∃ (x43 : List (Int × Int × Int)) (x44 : Int) (V47 : Value), V47 = ux45 ∧ ux46 = .int .i64 x44 ∧ Hid (Below w.heap.size w wr) ∧ Hid (HP wr w.heap.size [.fl (owC V47 (x43)), .fl (owI V39 (y36)), .fl (owI V32 (y29)), .fl (owI V15 (y12)), .ro (.slice A23 (y3).length cap24) (y3)]) ∧ Hid (LT_TopOrders_L1 F (v1) gg x43 x44 = some o42))
        case atStart => exact ⟨[], 0, (.slice none 0 0), rfl, rfl, HD, HOA, HL1⟩
        case round =>
          obtain ⟨x43, x44, V47, rfl, rfl, HD, HOA, HL1⟩ := hrel
          rename World => W48
          cases gk with
          | zero => exact absurd ((LT_TopOrders_L1_0 ..).symm.trans HL1.out) (by intro h; cases h)
          | succ g1 =>
            replace HL1 := Lib.hid ((LT_TopOrders_L1_s ..).symm.trans HL1.out)
            by_cases hc49 : x44 < ((v1).length : Int)
            · replace HL1 := Lib.hid (ifT hc49 HL1.out)
              have HK50 := Lib.hid hc49
              try go_wp2_with fail
              try clear hc49
              obtain ⟨y51, hy52, hm⟩ := obind HL1.out
              replace HL1 := Lib.hid hm; clear hm
              obtain ⟨b53, o54, ea55, _, f56, f57, f58, f59⟩ := ReadsL.ix (rdL HD.out HR1.out) hy52
              cases ea55
              try simp only [Nat.zero_add, Nat.add_zero, Int.toNat_natCast, Int.toNat_zero, Int.toNat_one] at f58 f59
              have HY60 := Lib.hid hy52; clear hy52
              obtain ⟨y61, hy62, hm⟩ := obind HL1.out
              replace HL1 := Lib.hid hm; clear hm
              obtain rfl := Option.some.inj (HY60.out.symm.trans hy62)
              clear hy62
              obtain ⟨y63, hy64, hm⟩ := obind HL1.out
              replace HL1 := Lib.hid hm; clear hm
              obtain ⟨f65, hy64⟩ := app_some hy64; subst hy64
              have HF68 := Lib.hid f65; clear f65
              have hd1 := Dr.one W48
              replace HOA := Lib.hid (HOA.out.dr hd1)
              replace HD := Lib.hid (HD.out.trans (hd1.below _))
              clear hd1
              go_region_law (first | (refine hp_appC_st (World.drew W48) (.tmp 66) (.tmp 78) 34 Tryd.underlying34 rfl rfl (L1 := []) HOA.out (by simp [Act.eval, Act.put]) (by simp [Act.eval, Act.put]) HF68.out HD.out.size ?_; intro g69 cap70 W67 hoa hd; have HOA2 := Lib.hid hoa; have HD2 := Lib.hid hd; clear hoa hd))
              all_goals
                try clear f56 f57 f58 f59
                replace HOA := Lib.hid (show HP W67 w.heap.size [.fl (owC (.slice (some ⟨g69, 0, none⟩) ((x43).length + 1) cap70) ((x43 ++ [(y51.1, y51.2, 1)]))), .fl (owI V39 (y36)), .fl (owI V32 (y29)), .fl (owI V15 (y12)), .ro (.slice A23 (y3).length cap24) (y3)] from by have q := HOA2.out; (try simp only [i64w] at q); exact q); clear HOA2
                replace HD := Lib.hid (HD.out.trans HD2.out); clear HD2
                go_wp2_with fail
                go_roundg g1
                case measure => omega
                case rel => exact ⟨(x43 ++ [(y51.1, y51.2, 1)]), (wrap64 (x44 + 1)), (.slice (some ⟨g69, 0, none⟩) ((x43).length + 1) cap70), rfl, rfl, HD, HOA, HL1⟩
            · replace HL1 := Lib.hid (ifF hc49 HL1.out)
              have hc49d := decide_eq_false hc49
              have HK50 := Lib.hid hc49
              obtain rfl := Option.some.inj HL1.out
              have hm := HM.out; try dsimp only at hm
              replace HM := Lib.hid hm; clear hm
              obtain ⟨⟨y73, y74, y75⟩, hy71, hm⟩ := obind HM.out
              dsimp only at hm
              replace HM := Lib.hid hm; clear hm
              obtain ⟨A76, cap77, he, _⟩ := HP.open_C HOA.out (List.Mem.head _)
              subst he
              have HC72 := mean_Least_ok W48 cap77 (HP.rd_C HOA.out (List.Mem.head _)) hy71
              clear hy71
              replace HC72 := Lib.hid HC72
              go_wp2_with fail
              refine HC72.out.mono ?_; rintro e W78 ⟨rfl, hd⟩
              try clear hc49 hc49d
              replace HOA := Lib.hid (HOA.out.below hd)
              replace HD := Lib.hid (HD.out.trans (hd.mono HD.out.size))
              clear hd
              obtain ⟨⟨y81, y82⟩, hy79, hm⟩ := obind HM.out
              dsimp only at hm
              replace HM := Lib.hid hm; clear hm
              have HC80 := chain_Longest_ok W78 cap1 (rdL HD.out HR1.out) hy79
              clear hy79
              replace HC80 := Lib.hid HC80
              go_wp2_with fail
              refine HC80.out.mono ?_; rintro e W83 ⟨rfl, hd⟩
              replace HOA := Lib.hid (HOA.out.below hd)
              replace HD := Lib.hid (HD.out.trans (hd.mono HD.out.size))
              clear hd
              go_upto_region 18 with (fail)
              obtain ⟨b84, hb, hm⟩ := obind HM.out
              replace HM := Lib.hid hm; have HB85 := Lib.hid hb; clear hm hb
              go_cut [100] (fun uq wr => uq = .bool b84 ∧ Hid (Below W83.heap.size W83 wr))
              case first =>
                have HWC86 := Lib.hid (Below.refl W83.heap.size W83)
                go_wp2_with fail
                by_cases hz87 : y37 = 0
                · subst hz87
                  try simp only [errV_zero]
                  replace HB85 := Lib.hid (ifF (by decide) HB85.out)
                  obtain ⟨A89, cap90, he, _⟩ := HP.open_I HOA.out (List.Mem.tail _ (List.Mem.head _))
                  subst he
                  rcases Bool.eq_false_or_eq_true (((y36).length : Int) != v0) with hc91 | hc91
                  · replace HB85 := Lib.hid (ifT hc91 HB85.out)
                    have HK92 := Lib.hid hc91
                    cases Option.some.inj HB85.out
                    try go_wp2_with fail
                    go_meet
                    case rel => exact ⟨rfl, HWC86⟩
                  · replace HB85 := Lib.hid (ifF (bF hc91) HB85.out)
                    have HK92 := Lib.hid hc91
                    cases Option.some.inj HB85.out
                    try go_wp2_with fail
                    go_meet
                    case rel => exact ⟨rfl, HWC86⟩
                · try rw [errV_pos _ hz87]
                  have HZ88 := Lib.hid hz87; clear hz87
                  replace HB85 := Lib.hid (ifT (bne_iff_ne.2 HZ88.out) HB85.out)
                  cases Option.some.inj HB85.out
                  try go_wp2_with fail
                  try simp only [← errV_pos _ HZ88.out]
                  go_meet
                  case rel => exact ⟨rfl, HWC86⟩
              case rest =>
                obtain ⟨rfl, HWC86⟩ := hcut
                rename World => W93
                have hd := HWC86.out
                replace HOA := Lib.hid (HOA.out.below hd)
                replace HD := Lib.hid (HD.out.trans (hd.mono HD.out.size))
                clear hd
                cases b84
                · replace HM := Lib.hid (ifF Bool.false_ne_true HM.out)
                  go_wp2_with fail
                  obtain ⟨o94, ho, hm⟩ := obind HM.out
                  replace HM := Lib.hid hm; have HL2 := Lib.hid ho; clear hm ho
                  go_loopg [20, 21, 22] F (fun gg ux98 ux99 ux100 wr => ∃ (x95 : Bool) (x96 : Bool) (x97 : Int), ux98 = .bool x95 ∧ ux99 = .bool x96 ∧ ux100 = .int .i64 x97 ∧ Hid (Below W93.heap.size W93 wr) ∧ Hid (LT_TopOrders_L2 F (v0) (y3) (y36) gg x95 x96 x97 = some o94))
                  case atStart => exact ⟨false, true, 0, rfl, rfl, rfl, (Lib.hid (Below.refl _ _)), HL2⟩
                  case round =>
                    obtain ⟨x95, x96, x97, rfl, rfl, rfl, HW2, HL2⟩ := hrel
                    rename World => W101
                    have hd := HW2.out
                    replace HOA := Lib.hid (HOA.out.below hd)
                    replace HD := Lib.hid (HD.out.trans (hd.mono HD.out.size))
                    clear hd
                    cases gk with
                    | zero => exact absurd ((LT_TopOrders_L2_0 ..).symm.trans HL2.out) (by intro h; cases h)
                    | succ g2 =>
                      replace HL2 := Lib.hid ((LT_TopOrders_L2_s ..).symm.trans HL2.out)
                      by_cases hc102 : x97 < v0
                      · replace HL2 := Lib.hid (ifT hc102 HL2.out)
                        have HK103 := Lib.hid hc102
                        obtain ⟨b104, hb, hm⟩ := obind HL2.out
                        replace HL2 := Lib.hid hm; have HB105 := Lib.hid hb; clear hm hb
                        cases x95
                        · replace HB105 := Lib.hid (ifF Bool.false_ne_true HB105.out)
                          obtain ⟨y106, hy107, hm⟩ := obind HB105.out
                          replace HB105 := Lib.hid hm; clear hm
                          obtain ⟨b108, o109, A115, cap116, ea110, _, f111, f112, f113, hrr⟩ := ReadsR.ix (HP.rd_R HOA.out (List.Mem.tail _ (List.Mem.tail _ (List.Mem.tail _ (List.Mem.tail _ (List.Mem.head _)))))) hy107
                          cases ea110
                          try simp only [Nat.zero_add, Nat.add_zero, Int.toNat_natCast, Int.toNat_zero, Int.toNat_one] at f113
                          have HR117 := Lib.hid hrr; clear hrr
                          try rw [← HP.len_R HOA.out (List.Mem.tail _ (List.Mem.tail _ (List.Mem.tail _ (List.Mem.tail _ (List.Mem.head _)))))] at f112
                          have HY118 := Lib.hid hy107; clear hy107
                          obtain ⟨y121, hy119, hm⟩ := obind HB105.out
                          replace HB105 := Lib.hid hm; clear hm
                          have HC120 := R1_Has_ok W101 cap116 HR117.out hy119
                          clear hy119
                          replace HC120 := Lib.hid HC120
                          cases y121
                          · replace HB105 := Lib.hid (ifF Bool.false_ne_true HB105.out)
                            obtain rfl := Option.some.inj HB105.out
                            obtain ⟨b122, hb, hm⟩ := obind HL2.out
                            replace HL2 := Lib.hid hm; have HB123 := Lib.hid hb; clear hm hb
                            cases x96
                            · replace HB123 := Lib.hid (ifF Bool.false_ne_true HB123.out)
                              obtain rfl := Option.some.inj HB123.out
                              go_wp2_with fail
                              refine HC120.out.mono ?_; rintro e w' ⟨rfl, rfl⟩
                              go_wp2_with fail
                              try clear hc102 f111 f112 f113
                              go_roundg g2
                              case measure => omega
                              case rel => exact ⟨false, false, (wrap64 (x97 + 1)), rfl, rfl, rfl, HW2, HL2⟩
                            · replace HB123 := Lib.hid (ifT rfl HB123.out)
                              obtain ⟨A126, cap127, he, _⟩ := HP.open_I HOA.out (List.Mem.tail _ (List.Mem.head _))
                              subst he
                              obtain ⟨y124, hy125, hm⟩ := obind HB123.out
                              replace HB123 := Lib.hid hm; clear hm
                              obtain ⟨b128, o129, ea130, _, f131, f132, f133⟩ := ReadsI.ix (HP.rd_I HOA.out (List.Mem.tail _ (List.Mem.head _))) hy125
                              cases ea130
                              try simp only [Nat.zero_add, Nat.add_zero, Int.toNat_natCast, Int.toNat_zero, Int.toNat_one] at f133
                              try rw [← HP.len_I HOA.out (List.Mem.tail _ (List.Mem.head _))] at f132
                              have HY135 := Lib.hid hy125; clear hy125
                              rcases Bool.eq_false_or_eq_true (y124 == x97) with hc136 | hc136
                              · replace HB123 := Lib.hid (ifT hc136 HB123.out)
                                have HK137 := Lib.hid hc136
                                obtain rfl := Option.some.inj HB123.out
                                go_wp2_with fail
                                refine HC120.out.mono ?_; rintro e w' ⟨rfl, rfl⟩
                                go_wp2_with fail
                                try clear hc102 f111 f112 f113 f131 f132 f133 hc136
                                go_roundg g2
                                case measure => omega
                                case rel => exact ⟨false, true, (wrap64 (x97 + 1)), rfl, rfl, rfl, HW2, HL2⟩
                              · replace HB123 := Lib.hid (ifF (bF hc136) HB123.out)
                                have HK137 := Lib.hid hc136
                                obtain rfl := Option.some.inj HB123.out
                                go_wp2_with fail
                                refine HC120.out.mono ?_; rintro e w' ⟨rfl, rfl⟩
                                go_wp2_with fail
                                try clear hc102 f111 f112 f113 f131 f132 f133 hc136
                                go_roundg g2
                                case measure => omega
                                case rel => exact ⟨false, false, (wrap64 (x97 + 1)), rfl, rfl, rfl, HW2, HL2⟩
                          · replace HB105 := Lib.hid (ifT rfl HB105.out)
                            obtain rfl := Option.some.inj HB105.out
                            obtain ⟨b138, hb, hm⟩ := obind HL2.out
                            replace HL2 := Lib.hid hm; have HB139 := Lib.hid hb; clear hm hb
                            cases x96
                            · replace HB139 := Lib.hid (ifF Bool.false_ne_true HB139.out)
                              obtain rfl := Option.some.inj HB139.out
                              go_wp2_with fail
                              refine HC120.out.mono ?_; rintro e w' ⟨rfl, rfl⟩
                              go_wp2_with fail
                              try clear hc102 f111 f112 f113
                              go_roundg g2
                              case measure => omega
                              case rel => exact ⟨true, false, (wrap64 (x97 + 1)), rfl, rfl, rfl, HW2, HL2⟩
                            · replace HB139 := Lib.hid (ifT rfl HB139.out)
                              obtain ⟨A142, cap143, he, _⟩ := HP.open_I HOA.out (List.Mem.tail _ (List.Mem.head _))
                              subst he
                              obtain ⟨y140, hy141, hm⟩ := obind HB139.out
                              replace HB139 := Lib.hid hm; clear hm
                              obtain ⟨b144, o145, ea146, _, f147, f148, f149⟩ := ReadsI.ix (HP.rd_I HOA.out (List.Mem.tail _ (List.Mem.head _))) hy141
                              cases ea146
                              try simp only [Nat.zero_add, Nat.add_zero, Int.toNat_natCast, Int.toNat_zero, Int.toNat_one] at f149
                              try rw [← HP.len_I HOA.out (List.Mem.tail _ (List.Mem.head _))] at f148
                              have HY151 := Lib.hid hy141; clear hy141
                              rcases Bool.eq_false_or_eq_true (y140 == x97) with hc152 | hc152
                              · replace HB139 := Lib.hid (ifT hc152 HB139.out)
                                have HK153 := Lib.hid hc152
                                obtain rfl := Option.some.inj HB139.out
                                go_wp2_with fail
                                refine HC120.out.mono ?_; rintro e w' ⟨rfl, rfl⟩
                                go_wp2_with fail
                                try clear hc102 f111 f112 f113 f147 f148 f149 hc152
                                go_roundg g2
                                case measure => omega
                                case rel => exact ⟨true, true, (wrap64 (x97 + 1)), rfl, rfl, rfl, HW2, HL2⟩
                              · replace HB139 := Lib.hid (ifF (bF hc152) HB139.out)
                                have HK153 := Lib.hid hc152
                                obtain rfl := Option.some.inj HB139.out
                                go_wp2_with fail
                                refine HC120.out.mono ?_; rintro e w' ⟨rfl, rfl⟩
                                go_wp2_with fail
                                try clear hc102 f111 f112 f113 f147 f148 f149 hc152
                                go_roundg g2
                                case measure => omega
                                case rel => exact ⟨true, false, (wrap64 (x97 + 1)), rfl, rfl, rfl, HW2, HL2⟩
                        · replace HB105 := Lib.hid (ifT rfl HB105.out)
                          obtain rfl := Option.some.inj HB105.out
                          obtain ⟨b154, hb, hm⟩ := obind HL2.out
                          replace HL2 := Lib.hid hm; have HB155 := Lib.hid hb; clear hm hb
                          cases x96
                          · replace HB155 := Lib.hid (ifF Bool.false_ne_true HB155.out)
                            obtain rfl := Option.some.inj HB155.out
                            go_wp2_with fail
                            try clear hc102
                            go_roundg g2
                            case measure => omega
                            case rel => exact ⟨true, false, (wrap64 (x97 + 1)), rfl, rfl, rfl, HW2, HL2⟩
                          · replace HB155 := Lib.hid (ifT rfl HB155.out)
                            obtain ⟨A158, cap159, he, _⟩ := HP.open_I HOA.out (List.Mem.tail _ (List.Mem.head _))
                            subst he
                            obtain ⟨y156, hy157, hm⟩ := obind HB155.out
                            replace HB155 := Lib.hid hm; clear hm
                            obtain ⟨b160, o161, ea162, _, f163, f164, f165⟩ := ReadsI.ix (HP.rd_I HOA.out (List.Mem.tail _ (List.Mem.head _))) hy157
                            cases ea162
                            try simp only [Nat.zero_add, Nat.add_zero, Int.toNat_natCast, Int.toNat_zero, Int.toNat_one] at f165
                            try rw [← HP.len_I HOA.out (List.Mem.tail _ (List.Mem.head _))] at f164
                            have HY167 := Lib.hid hy157; clear hy157
                            rcases Bool.eq_false_or_eq_true (y156 == x97) with hc168 | hc168
                            · replace HB155 := Lib.hid (ifT hc168 HB155.out)
                              have HK169 := Lib.hid hc168
                              obtain rfl := Option.some.inj HB155.out
                              go_wp2_with fail
                              try clear hc102 f163 f164 f165 hc168
                              go_roundg g2
                              case measure => omega
                              case rel => exact ⟨true, true, (wrap64 (x97 + 1)), rfl, rfl, rfl, HW2, HL2⟩
                            · replace HB155 := Lib.hid (ifF (bF hc168) HB155.out)
                              have HK169 := Lib.hid hc168
                              obtain rfl := Option.some.inj HB155.out
                              go_wp2_with fail
                              try clear hc102 f163 f164 f165 hc168
                              go_roundg g2
                              case measure => omega
                              case rel => exact ⟨true, false, (wrap64 (x97 + 1)), rfl, rfl, rfl, HW2, HL2⟩
                      · replace HL2 := Lib.hid (ifF hc102 HL2.out)
                        have hc102d := decide_eq_false hc102
                        have HK103 := Lib.hid hc102
                        obtain rfl := Option.some.inj HL2.out
                        have hm := HM.out; try dsimp only at hm
                        replace HM := Lib.hid hm; clear hm
                        obtain ⟨b170, hb, hm⟩ := obind HM.out
                        replace HM := Lib.hid hm; have HB171 := Lib.hid hb; clear hm hb
                        obtain ⟨b172, hb, hm⟩ := obind HB171.out
                        replace HB171 := Lib.hid hm; have HB173 := Lib.hid hb; clear hm hb
                        obtain ⟨b174, hb, hm⟩ := obind HB173.out
                        replace HB173 := Lib.hid hm; have HB175 := Lib.hid hb; clear hm hb
                        obtain ⟨b176, hb, hm⟩ := obind HB175.out
                        replace HB175 := Lib.hid hm; have HB177 := Lib.hid hb; clear hm hb
                        go_wp2_with fail
                        try clear hc102 hc102d
                        by_cases hz178 : y30 = 0
                        · subst hz178
                          try simp only [errV_zero]
                          replace HB177 := Lib.hid (ifT (by decide) HB177.out)
                          obtain rfl := Option.some.inj HB177.out
                          obtain ⟨b180, hb, hm⟩ := obind HB175.out
                          replace HB175 := Lib.hid hm; have HB181 := Lib.hid hb; clear hm hb
                          cases x95
                          · replace HB181 := Lib.hid (ifF Bool.false_ne_true HB181.out)
                            obtain rfl := Option.some.inj HB181.out
                            replace HB175 := Lib.hid (ifT (by decide) HB175.out)
                            obtain ⟨b182, hb, hm⟩ := obind HB175.out
                            replace HB175 := Lib.hid hm; have HB183 := Lib.hid hb; clear hm hb
                            replace HB183 := Lib.hid (ifF (by first | exact Bool.false_ne_true | exact not_false) HB183.out)
                            obtain rfl := Option.some.inj HB183.out
                            cases x96
                            · replace HB175 := Lib.hid (ifF (by decide) HB175.out)
                              obtain rfl := Option.some.inj HB175.out
                              replace HB173 := Lib.hid (ifF (by first | exact Bool.false_ne_true | exact not_false) HB173.out)
                              obtain rfl := Option.some.inj HB173.out
                              replace HB171 := Lib.hid (ifF (by first | exact Bool.false_ne_true | exact not_false) HB171.out)
                              obtain rfl := Option.some.inj HB171.out
                              obtain rfl := Option.some.inj HM.out
                              go_wp2_with fail
                              go_ret
                              exact ⟨rfl, HD.out⟩
                            · replace HB175 := Lib.hid (ifT (by decide) HB175.out)
                              obtain rfl := Option.some.inj HB175.out
                              replace HB173 := Lib.hid (ifT (by first | rfl | trivial) HB173.out)
                              obtain ⟨y186, hy184, hm⟩ := obind HB173.out
                              replace HB173 := Lib.hid hm; clear hm
                              have HC185 := mErr_ok W101 (HTC.out.go HD.out)  hy184
                              clear hy184
                              replace HC185 := Lib.hid HC185
                              go_wp2_with fail
                              refine HC185.out.mono ?_; rintro e W187 ⟨rfl, hd⟩
                              replace HOA := Lib.hid (HOA.out.below hd)
                              replace HD := Lib.hid (HD.out.trans (hd.mono HD.out.size))
                              clear hd
                              obtain ⟨b188, hb, hm⟩ := obind HB173.out
                              replace HB173 := Lib.hid hm; have HB189 := Lib.hid hb; clear hm hb
                              replace HB189 := Lib.hid (ifF (by first | exact Bool.false_ne_true | exact not_false) HB189.out)
                              obtain rfl := Option.some.inj HB189.out
                              cases y186
                              · replace HB173 := Lib.hid (ifF (by decide) HB173.out)
                                obtain rfl := Option.some.inj HB173.out
                                replace HB171 := Lib.hid (ifF (by first | exact Bool.false_ne_true | exact not_false) HB171.out)
                                obtain rfl := Option.some.inj HB171.out
                                obtain rfl := Option.some.inj HM.out
                                go_wp2_with fail
                                go_ret
                                exact ⟨rfl, HD.out⟩
                              · replace HB173 := Lib.hid (ifT (by decide) HB173.out)
                                obtain rfl := Option.some.inj HB173.out
                                replace HB171 := Lib.hid (ifT (by first | rfl | trivial) HB171.out)
                                obtain ⟨b190, hb, hm⟩ := obind HB171.out
                                replace HB171 := Lib.hid hm; have HB191 := Lib.hid hb; clear hm hb
                                go_wp2_with fail
                                by_cases hz192 : y82 = 0
                                · subst hz192
                                  try simp only [errV_zero]
                                  replace HB191 := Lib.hid (ifT (by decide) HB191.out)
                                  obtain rfl := Option.some.inj HB191.out
                                  obtain ⟨b194, hb, hm⟩ := obind HB171.out
                                  replace HB171 := Lib.hid hm; have HB195 := Lib.hid hb; clear hm hb
                                  replace HB195 := Lib.hid (ifF (by first | exact Bool.false_ne_true | exact not_false) HB195.out)
                                  obtain rfl := Option.some.inj HB195.out
                                  replace HB171 := Lib.hid (ifT (by decide) HB171.out)
                                  obtain rfl := Option.some.inj HB171.out
                                  obtain rfl := Option.some.inj HM.out
                                  go_wp2_with fail
                                  go_ret
                                  exact ⟨rfl, HD.out⟩
                                · try rw [errV_pos _ hz192]
                                  have HZ193 := Lib.hid hz192; clear hz192
                                  replace HB191 := Lib.hid (ifF (fun h => HZ193.out (eq_of_beq h)) HB191.out)
                                  obtain rfl := Option.some.inj HB191.out
                                  obtain ⟨b196, hb, hm⟩ := obind HB171.out
                                  replace HB171 := Lib.hid hm; have HB197 := Lib.hid hb; clear hm hb
                                  replace HB197 := Lib.hid (ifF (by first | exact Bool.false_ne_true | exact not_false) HB197.out)
                                  obtain rfl := Option.some.inj HB197.out
                                  replace HB171 := Lib.hid (ifF (by decide) HB171.out)
                                  obtain rfl := Option.some.inj HB171.out
                                  obtain rfl := Option.some.inj HM.out
                                  go_wp2_with fail
                                  go_ret
                                  exact ⟨rfl, HD.out⟩
                          · replace HB181 := Lib.hid (ifT rfl HB181.out)
                            obtain rfl := Option.some.inj HB181.out
                            replace HB175 := Lib.hid (ifF (by decide) HB175.out)
                            obtain rfl := Option.some.inj HB175.out
                            replace HB173 := Lib.hid (ifF (by first | exact Bool.false_ne_true | exact not_false) HB173.out)
                            obtain rfl := Option.some.inj HB173.out
                            replace HB171 := Lib.hid (ifF (by first | exact Bool.false_ne_true | exact not_false) HB171.out)
                            obtain rfl := Option.some.inj HB171.out
                            obtain rfl := Option.some.inj HM.out
                            go_wp2_with fail
                            go_ret
                            exact ⟨rfl, HD.out⟩
                        · try rw [errV_pos _ hz178]
                          have HZ179 := Lib.hid hz178; clear hz178
                          replace HB177 := Lib.hid (ifF (fun h => HZ179.out (eq_of_beq h)) HB177.out)
                          obtain rfl := Option.some.inj HB177.out
                          obtain ⟨b198, hb, hm⟩ := obind HB175.out
                          replace HB175 := Lib.hid hm; have HB199 := Lib.hid hb; clear hm hb
                          cases x95
                          · replace HB199 := Lib.hid (ifF Bool.false_ne_true HB199.out)
                            obtain rfl := Option.some.inj HB199.out
                            replace HB175 := Lib.hid (ifF (by decide) HB175.out)
                            obtain rfl := Option.some.inj HB175.out
                            replace HB173 := Lib.hid (ifF (by first | exact Bool.false_ne_true | exact not_false) HB173.out)
                            obtain rfl := Option.some.inj HB173.out
                            replace HB171 := Lib.hid (ifF (by first | exact Bool.false_ne_true | exact not_false) HB171.out)
                            obtain rfl := Option.some.inj HB171.out
                            obtain rfl := Option.some.inj HM.out
                            go_wp2_with fail
                            go_ret
                            exact ⟨rfl, HD.out⟩
                          · replace HB199 := Lib.hid (ifT rfl HB199.out)
                            obtain rfl := Option.some.inj HB199.out
                            replace HB175 := Lib.hid (ifT (by decide) HB175.out)
                            obtain ⟨b200, hb, hm⟩ := obind HB175.out
                            replace HB175 := Lib.hid hm; have HB201 := Lib.hid hb; clear hm hb
                            replace HB201 := Lib.hid (ifT (by first | rfl | trivial) HB201.out)
                            obtain rfl := Option.some.inj HB201.out
                            cases x96
                            · replace HB175 := Lib.hid (ifT (by decide) HB175.out)
                              obtain rfl := Option.some.inj HB175.out
                              replace HB173 := Lib.hid (ifT (by first | rfl | trivial) HB173.out)
                              obtain ⟨y204, hy202, hm⟩ := obind HB173.out
                              replace HB173 := Lib.hid hm; clear hm
                              have HC203 := mErr_ok W101 (HTC.out.go HD.out)  hy202
                              clear hy202
                              replace HC203 := Lib.hid HC203
                              go_wp2_with fail
                              refine HC203.out.mono ?_; rintro e W205 ⟨rfl, hd⟩
                              replace HOA := Lib.hid (HOA.out.below hd)
                              replace HD := Lib.hid (HD.out.trans (hd.mono HD.out.size))
                              clear hd
                              obtain ⟨b206, hb, hm⟩ := obind HB173.out
                              replace HB173 := Lib.hid hm; have HB207 := Lib.hid hb; clear hm hb
                              replace HB207 := Lib.hid (ifT (by first | rfl | trivial) HB207.out)
                              obtain rfl := Option.some.inj HB207.out
                              cases y204
                              · replace HB173 := Lib.hid (ifT (by decide) HB173.out)
                                obtain rfl := Option.some.inj HB173.out
                                replace HB171 := Lib.hid (ifT (by first | rfl | trivial) HB171.out)
                                obtain ⟨b208, hb, hm⟩ := obind HB171.out
                                replace HB171 := Lib.hid hm; have HB209 := Lib.hid hb; clear hm hb
                                go_wp2_with fail
                                by_cases hz210 : y82 = 0
                                · subst hz210
                                  try simp only [errV_zero]
                                  replace HB209 := Lib.hid (ifT (by decide) HB209.out)
                                  obtain rfl := Option.some.inj HB209.out
                                  obtain ⟨b212, hb, hm⟩ := obind HB171.out
                                  replace HB171 := Lib.hid hm; have HB213 := Lib.hid hb; clear hm hb
                                  replace HB213 := Lib.hid (ifT (by first | rfl | trivial) HB213.out)
                                  obtain rfl := Option.some.inj HB213.out
                                  replace HB171 := Lib.hid (ifF (by decide) HB171.out)
                                  obtain rfl := Option.some.inj HB171.out
                                  obtain rfl := Option.some.inj HM.out
                                  go_wp2_with fail
                                  go_ret
                                  exact ⟨rfl, HD.out⟩
                                · try rw [errV_pos _ hz210]
                                  have HZ211 := Lib.hid hz210; clear hz210
                                  replace HB209 := Lib.hid (ifF (fun h => HZ211.out (eq_of_beq h)) HB209.out)
                                  obtain rfl := Option.some.inj HB209.out
                                  obtain ⟨b214, hb, hm⟩ := obind HB171.out
                                  replace HB171 := Lib.hid hm; have HB215 := Lib.hid hb; clear hm hb
                                  replace HB215 := Lib.hid (ifT (by first | rfl | trivial) HB215.out)
                                  obtain rfl := Option.some.inj HB215.out
                                  replace HB171 := Lib.hid (ifT (by decide) HB171.out)
                                  obtain rfl := Option.some.inj HB171.out
                                  obtain rfl := Option.some.inj HM.out
                                  go_wp2_with fail
                                  go_ret
                                  exact ⟨rfl, HD.out⟩
                              · replace HB173 := Lib.hid (ifF (by decide) HB173.out)
                                obtain rfl := Option.some.inj HB173.out
                                replace HB171 := Lib.hid (ifF (by first | exact Bool.false_ne_true | exact not_false) HB171.out)
                                obtain rfl := Option.some.inj HB171.out
                                obtain rfl := Option.some.inj HM.out
                                go_wp2_with fail
                                go_ret
                                exact ⟨rfl, HD.out⟩
                            · replace HB175 := Lib.hid (ifF (by decide) HB175.out)
                              obtain rfl := Option.some.inj HB175.out
                              replace HB173 := Lib.hid (ifF (by first | exact Bool.false_ne_true | exact not_false) HB173.out)
                              obtain rfl := Option.some.inj HB173.out
                              replace HB171 := Lib.hid (ifF (by first | exact Bool.false_ne_true | exact not_false) HB171.out)
                              obtain rfl := Option.some.inj HB171.out
                              obtain rfl := Option.some.inj HM.out
                              go_wp2_with fail
                              go_ret
                              exact ⟨rfl, HD.out⟩
                · replace HM := Lib.hid (ifT rfl HM.out)
                  obtain rfl := Option.some.inj HM.out
                  go_wp2_with fail
                  go_ret
                  exact ⟨rfl, HD.out⟩
    · try rw [errV_pos _ hz21]
      have HZ22 := Lib.hid hz21; clear hz21
      replace HM := Lib.hid (ifT (bne_iff_ne.2 HZ22.out) HM.out)
      obtain ⟨b216, hb, hm⟩ := obind HM.out
      replace HM := Lib.hid hm; have HB217 := Lib.hid hb; clear hm hb
      obtain ⟨A218, cap219, he, _⟩ := HP.open_R HOA.out (List.Mem.tail _ (List.Mem.tail _ (List.Mem.head _)))
      subst he
      rcases Bool.eq_false_or_eq_true (((y3).length : Int) == 0) with hc220 | hc220
      · replace HB217 := Lib.hid (ifT hc220 HB217.out)
        have HK221 := Lib.hid hc220
        obtain rfl := Option.some.inj HB217.out
        obtain rfl := Option.some.inj HM.out
        go_wp2_with fail
        go_ret
        exact ⟨(by first | rfl | (refine congrArg (fun b => Ending.returned (Value.bool b)) ?_; first | (exact decide_eq_true (by omega)) | (exact decide_eq_false (by omega)) | (have q := hc220; rw [bne_iff_ne] at q ⊢; omega) | (have q := hc220; rw [bne_eq_false_iff_eq] at q ⊢; omega) | (have q := hc220; rw [beq_iff_eq] at q ⊢; omega) | (have q := hc220; rw [beq_eq_false_iff_ne] at q ⊢; omega))), HD.out⟩
      · replace HB217 := Lib.hid (ifF (bF hc220) HB217.out)
        have HK221 := Lib.hid hc220
        obtain rfl := Option.some.inj HB217.out
        obtain rfl := Option.some.inj HM.out
        go_wp2_with fail
        go_ret
        exact ⟨(by first | rfl | (refine congrArg (fun b => Ending.returned (Value.bool b)) ?_; first | (exact decide_eq_true (by omega)) | (exact decide_eq_false (by omega)) | (have q := hc220; rw [bne_iff_ne] at q ⊢; omega) | (have q := hc220; rw [bne_eq_false_iff_eq] at q ⊢; omega) | (have q := hc220; rw [beq_iff_eq] at q ⊢; omega) | (have q := hc220; rw [beq_eq_false_iff_ne] at q ⊢; omega))), HD.out⟩
end Go.Proofs.YtoiidngnlhhanaaDoor
