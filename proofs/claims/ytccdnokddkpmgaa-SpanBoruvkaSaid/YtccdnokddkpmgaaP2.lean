import Derived.Test.YtccdnokddkpmgaaP0
import Derived.Test.YtccdnokddkpmgaaReach
import Derived.Test.YtccdnokddkpmgaaL2
import Derived.Test.YtccdnokddkpmgaaAst
set_option linter.all false
set_option maxRecDepth 100000
namespace Go.Proofs.Ytccdnokddkpmgaa
open Go.RowKit
def span_Neck_L2 (F : Nat) (v1 : List (Int × Int × Int)) (v7 : Int) : Nat → (Int) → (List (Int × Int)) → Option (List (Int × Int))
  | 0, _, _ => none
  | g+1, j, v8 => if j < ((v1).length : Int) then (ix v1 j).bind fun y => (if y.2.2 ≤ v7 then (app v8 (y.1, y.2.1)).bind fun y3 => span_Neck_L2 F v1 v7 g (wrap64 (j + 1)) (y3) else span_Neck_L2 F v1 v7 g (wrap64 (j + 1)) (v8)) else some (v8)
theorem span_Neck_L2_0 (F : Nat) (v1 : List (Int × Int × Int)) (v7 : Int) (v8 : List (Int × Int)) (j : Int) : span_Neck_L2 F v1 v7 0 j v8 = none := by rw [span_Neck_L2]
theorem span_Neck_L2_s (F g : Nat) (v1 : List (Int × Int × Int)) (v7 : Int) (v8 : List (Int × Int)) (j : Int) : span_Neck_L2 F v1 v7 (g+1) j v8 = (if j < ((v1).length : Int) then (ix v1 j).bind fun y => (if y.2.2 ≤ v7 then (app v8 (y.1, y.2.1)).bind fun y3 => span_Neck_L2 F v1 v7 g (wrap64 (j + 1)) (y3) else span_Neck_L2 F v1 v7 g (wrap64 (j + 1)) (v8)) else some (v8)) := by rw [span_Neck_L2]
def span_Neck_L1 (F : Nat) (v0 : Int) (v1 : List (Int × Int × Int)) (v2 : Int) (v3 : Int) : Nat → (Int) → Option ((Unit) ⊕ (Int × Int))
  | 0, _ => none
  | g+1, j => if j < 21 then (span_Neck_L2 F (v1) (j) F (0) ([])).bind fun o4 => ((mBeside (v0) (o4)).bind fun y5 => (sBelow (v0)).bind fun y6 => (core_Reach F (v2) (y5) (y6)).bind fun y7 => (sHas (y7) (v3)).bind fun y8 => if y8 = true then some (.inr ((j, 0))) else span_Neck_L1 F v0 v1 v2 v3 g (wrap64 (j + 1))) else some (.inl ())
theorem span_Neck_L1_0 (F : Nat) (v0 : Int) (v1 : List (Int × Int × Int)) (v2 : Int) (v3 : Int) (j : Int) : span_Neck_L1 F v0 v1 v2 v3 0 j = none := by rw [span_Neck_L1]
theorem span_Neck_L1_s (F g : Nat) (v0 : Int) (v1 : List (Int × Int × Int)) (v2 : Int) (v3 : Int) (j : Int) : span_Neck_L1 F v0 v1 v2 v3 (g+1) j = (if j < 21 then (span_Neck_L2 F (v1) (j) F (0) ([])).bind fun o4 => ((mBeside (v0) (o4)).bind fun y5 => (sBelow (v0)).bind fun y6 => (core_Reach F (v2) (y5) (y6)).bind fun y7 => (sHas (y7) (v3)).bind fun y8 => if y8 = true then some (.inr ((j, 0))) else span_Neck_L1 F v0 v1 v2 v3 g (wrap64 (j + 1))) else some (.inl ())) := by rw [span_Neck_L1]
def span_Neck (F : Nat) (v0 : Int) (v1 : List (Int × Int × Int)) (v2 : Int) (v3 : Int) : Option (Int × Int) := (span_Check F (v0) (v1)).bind fun y1 => (if (y1 != 0) = true then some ((0, y1)) else ((core_All F ([v2, v3]) (0) ((wrap64 (v0 - 1)))).bind fun y2 => if y2 = true then (span_Neck_L1 F (v0) (v1) (v2) (v3) F (0)).bind fun o9 => match o9 with | .inr r => some (r) | .inl o9 => some ((0, 5)) else some ((0, 1))))
set_option maxRecDepth 100000 in
set_option maxHeartbeats 4000000 in
theorem span_Neck_ok {F : Nat} {v0 : Int} {v1 : List (Int × Int × Int)} {A1 : Option Addr} {v2 : Int} {v3 : Int} {r : Int × Int} (w : World) (cap1 : Nat) (hr1 : ReadsC w w.heap.size A1 v1) (h : span_Neck F v0 v1 v2 v3 = some r) :
    Calls Try.prog 14 #[.int .i64 v0, .slice A1 v1.length cap1, .int .i64 v2, .int .i64 v3] w fun e w' => e = .returned (.tuple #[(.int .i64 r.1), (errV 58 r.2)]) ∧ Below w.heap.size w w' := by
  have HR1 := Lib.hid hr1; clear hr1
  have HD := Lib.hid (Below.refl w.heap.size w)
  have HOA := Lib.hid (HP.nil (W := w) (B := w.heap.size))
  unfold span_Neck at h
  have HM := Lib.hid h; clear h
  go_enter Try.func14, Try.ntmps14
  obtain ⟨y3, hy1, hm⟩ := obind HM.out
  replace HM := Lib.hid hm; clear hm
  have HC2 := span_Check_ok w cap1 (rdC HD.out HR1.out) hy1
  clear hy1
  replace HC2 := Lib.hid HC2
  go_wp2_with fail
  refine HC2.out.mono ?_; rintro e W4 ⟨rfl, hd⟩
  replace HOA := Lib.hid (HOA.out.below hd)
  replace HD := Lib.hid (HD.out.trans (hd.mono HD.out.size))
  clear hd
  by_cases hz5 : y3 = 0
  · subst hz5
    try simp only [errV_zero]
    replace HM := Lib.hid (ifF (by decide) HM.out)
    have hd : Below W4.heap.size W4 (World.alloc W4 (.cells #[Value.int .i64 (v2), Value.int .i64 (v3)] 3)) := (Below.refl _ _).alloc (Nat.le_refl _) _
    have ho : (owI (.slice (some ⟨W4.heap.size, 0, none⟩) 2 2) [v2, v3]).ok (World.alloc W4 (.cells #[Value.int .i64 (v2), Value.int .i64 (v3)] 3)) W4.heap.size := litI_ok W4 [v2, v3] (by unfold maxLen; simp)
    replace HOA := Lib.hid (HOA.out.call hd HD.out.size ho); clear ho
    replace HD := Lib.hid (HD.out.trans (hd.mono HD.out.size))
    clear hd
    obtain ⟨y11, hy9, hm⟩ := obind HM.out
    replace HM := Lib.hid hm; clear hm
    have HC10 := core_All_ok (World.alloc W4 (.cells #[Value.int .i64 (v2), Value.int .i64 (v3)] 3)) 2 (HP.rd_I HOA.out (List.Mem.head _)) hy9
    clear hy9
    try rw [← HP.len_I HOA.out (List.Mem.head _)] at HC10
    replace HC10 := Lib.hid HC10
    go_wp2_with fail
    refine HC10.out.mono ?_; rintro e w' ⟨rfl, rfl⟩
    generalize hW : World.alloc W4 _ = W7 at *
    clear hW
    cases y11
    · replace HM := Lib.hid (ifF Bool.false_ne_true HM.out)
      obtain rfl := Option.some.inj HM.out
      go_wp2_with fail
      go_ret2
      exact ⟨rfl, HD.out⟩
    · replace HM := Lib.hid (ifT rfl HM.out)
      go_wp2_with fail
      obtain ⟨o12, ho, hm⟩ := obind HM.out
      replace HM := Lib.hid hm; have HL1 := Lib.hid ho; clear hm ho
      replace HOA := Lib.hid (HOA.out.sub (.cons _ .slnil))
      go_loopg [29] F (fun gg uj wr => ∃ (j13 : Int), uj = .int .i64 j13 ∧ Hid (Below w.heap.size w wr) ∧ Hid (HP wr w.heap.size []) ∧ Hid (span_Neck_L1 F (v0) (v1) (v2) (v3) gg j13 = some o12))
      case atStart => exact ⟨0, rfl, HD, HOA, HL1⟩
      case round =>
        obtain ⟨j13, rfl, HD, HOA, HL1⟩ := hrel
        rename World => W14
        cases gk with
        | zero => exact absurd ((span_Neck_L1_0 ..).symm.trans HL1.out) (by intro h; cases h)
        | succ g1 =>
          replace HL1 := Lib.hid ((span_Neck_L1_s ..).symm.trans HL1.out)
          by_cases hc15 : j13 < 21
          · replace HL1 := Lib.hid (ifT hc15 HL1.out)
            have HK16 := Lib.hid hc15
            replace HOA := Lib.hid (show HP _ _ (.fl (owL (.slice none 0 0) ([])) :: _) from HOA.out.pushNil _ _)
            go_wp2_with fail
            try clear hc15
            obtain ⟨o18, ho, hm⟩ := obind HL1.out
            replace HL1 := Lib.hid hm; have HL2 := Lib.hid ho; clear hm ho
            go_loopg [34, 12] F (fun gg uj ux20 wr => ∃ (j22 : Int) (x19 : List (Int × Int)) (V21 : Value), uj = .int .i64 j22 ∧ V21 = ux20 ∧ Hid (Below w.heap.size w wr) ∧ Hid (HP wr w.heap.size [.fl (owL V21 (x19))]) ∧ Hid (span_Neck_L2 F (v1) (j13) gg j22 x19 = some o18))
            case atStart => exact ⟨0, [], (.slice none 0 0), rfl, rfl, HD, HOA, HL2⟩
            case round =>
              obtain ⟨j22, x19, V21, rfl, rfl, HD, HOA, HL2⟩ := hrel
              rename World => W23
              cases gk with
              | zero => exact absurd ((span_Neck_L2_0 ..).symm.trans HL2.out) (by intro h; cases h)
              | succ g2 =>
                replace HL2 := Lib.hid ((span_Neck_L2_s ..).symm.trans HL2.out)
                by_cases hc24 : j22 < ((v1).length : Int)
                · replace HL2 := Lib.hid (ifT hc24 HL2.out)
                  have HK25 := Lib.hid hc24
                  obtain ⟨y26, hy27, hm⟩ := obind HL2.out
                  replace HL2 := Lib.hid hm; clear hm
                  obtain ⟨b28, o29, ea30, _, f31, f32, f33, f34, f35⟩ := ReadsC.ix (rdC HD.out HR1.out) hy27
                  cases ea30
                  try simp only [Nat.zero_add, Nat.add_zero, Int.toNat_natCast, Int.toNat_zero, Int.toNat_one] at f33 f34 f35
                  have HY36 := Lib.hid hy27; clear hy27
                  go_upto_region 13 with (fail)
                  have hd : Below W23.heap.size W23 (W23.alloc (.cells #[Value.int .i64 y26.1, Value.int .i64 y26.2.1, Value.int .i64 y26.2.2] 37)) := (Below.refl _ _).alloc (Nat.le_refl _) _
                  have ho := boxRC W23 y26
                  generalize hW : World.alloc W23 _ = W37 at *
                  clear hW
                  try clear hc24 f31 f32 f33 f34 f35
                  replace HOA := Lib.hid (HOA.out.call hd HD.out.size ho); clear ho
                  replace HD := Lib.hid (HD.out.trans (hd.mono HD.out.size))
                  clear hd
                  obtain ⟨f40, f41, f42⟩ := boxC (HP.rd_C HOA.out (List.Mem.head _))
                  by_cases hc43 : y26.2.2 ≤ j13
                  · replace HL2 := Lib.hid (ifT hc43 HL2.out)
                    have HK44 := Lib.hid hc43
                    obtain ⟨y45, hy46, hm⟩ := obind HL2.out
                    replace HL2 := Lib.hid hm; clear hm
                    obtain ⟨f47, hy46⟩ := app_some hy46; subst hy46
                    have HF50 := Lib.hid f47; clear f47
                    go_wp2_with (at_builtin; refine hp_appL _ (.tmp 42) (.tmp 48) 30 Try.underlying30 rfl rfl (L1 := [_]) HOA.out rfl rfl HF50.out HD.out.size ?_; intro V48 W49 hoa hd)
                    try clear f40 f41 f42 hc43
                    replace HOA := Lib.hid (show HP W49 w.heap.size [.fl (owC (.slice (some ⟨W23.heap.size, 0, none⟩) 1 1) ([y26])), .fl (owL V48 ((x19 ++ [(y26.1, y26.2.1)])))] from hoa); clear hoa
                    replace HD := Lib.hid (HD.out.trans hd); clear hd
                    go_wp2_with fail
                    replace HOA := Lib.hid (HOA.out.sub (.cons _ (.cons₂ _ .slnil)))
                    go_roundg g2
                    case measure => omega
                    case rel => exact ⟨(wrap64 (j22 + 1)), (x19 ++ [(y26.1, y26.2.1)]), V48, rfl, rfl, HD, HOA, HL2⟩
                  · replace HL2 := Lib.hid (ifF hc43 HL2.out)
                    have hc43d := decide_eq_false hc43
                    have HK44 := Lib.hid hc43
                    go_wp2_with fail
                    try clear f40 f41 f42 hc43 hc43d
                    replace HOA := Lib.hid (HOA.out.sub (.cons _ (.cons₂ _ .slnil)))
                    go_roundg g2
                    case measure => omega
                    case rel => exact ⟨(wrap64 (j22 + 1)), x19, V21, rfl, rfl, HD, HOA, HL2⟩
                · replace HL2 := Lib.hid (ifF hc24 HL2.out)
                  have hc24d := decide_eq_false hc24
                  have HK25 := Lib.hid hc24
                  obtain rfl := Option.some.inj HL2.out
                  have hm := HL1.out; try dsimp only at hm
                  replace HL1 := Lib.hid hm; clear hm
                  obtain ⟨y53, hy51, hm⟩ := obind HL1.out
                  replace HL1 := Lib.hid hm; clear hm
                  obtain ⟨A54, cap55, he, _⟩ := HP.open_L HOA.out (List.Mem.head _)
                  subst he
                  have HC52 := mBeside_ok W23 cap55 (HP.rd_L HOA.out (List.Mem.head _)) hy51
                  clear hy51
                  replace HC52 := Lib.hid HC52
                  go_wp2_with fail
                  refine HC52.out.mono ?_; rintro e W56 ⟨V57, rfl, ho, hd⟩
                  try clear hc24 hc24d
                  replace HOA := Lib.hid (HOA.out.call hd HD.out.size ho); clear ho
                  replace HD := Lib.hid (HD.out.trans (hd.mono HD.out.size))
                  clear hd
                  obtain ⟨y61, hy59, hm⟩ := obind HL1.out
                  replace HL1 := Lib.hid hm; clear hm
                  have HC60 := sBelow_ok W56  hy59
                  clear hy59
                  replace HC60 := Lib.hid HC60
                  obtain ⟨y64, hy62, hm⟩ := obind HL1.out
                  replace HL1 := Lib.hid hm; clear hm
                  obtain ⟨A65, cap66, he, _⟩ := HP.open_M HOA.out (List.Mem.head _)
                  subst he
                  have HC63 := core_Reach_ok W56 cap66 (HP.rd_M HOA.out (List.Mem.head _)) hy62
                  clear hy62
                  replace HC63 := Lib.hid HC63
                  go_wp2_with fail
                  refine HC60.out.mono ?_; rintro e w' ⟨rfl, rfl⟩
                  go_wp2_with fail
                  refine HC63.out.mono ?_; rintro e W67 ⟨rfl, hd⟩
                  replace HOA := Lib.hid (HOA.out.below hd)
                  replace HD := Lib.hid (HD.out.trans (hd.mono HD.out.size))
                  clear hd
                  obtain ⟨y70, hy68, hm⟩ := obind HL1.out
                  replace HL1 := Lib.hid hm; clear hm
                  have HC69 := sHas_ok W67  hy68
                  clear hy68
                  replace HC69 := Lib.hid HC69
                  cases y70
                  · replace HL1 := Lib.hid (ifF Bool.false_ne_true HL1.out)
                    go_wp2_with fail
                    refine HC69.out.mono ?_; rintro e w' ⟨rfl, rfl⟩
                    go_wp2_with fail
                    replace HOA := Lib.hid (HOA.out.sub (.cons _ (.cons _ .slnil)))
                    go_roundg g1
                    case measure => omega
                    case rel => exact ⟨(wrap64 (j13 + 1)), rfl, HD, HOA, HL1⟩
                  · replace HL1 := Lib.hid (ifT rfl HL1.out)
                    obtain rfl := Option.some.inj HL1.out
                    have hm := HM.out; try dsimp only at hm
                    replace HM := Lib.hid hm; clear hm
                    obtain rfl := Option.some.inj HM.out
                    go_wp2_with fail
                    refine HC69.out.mono ?_; rintro e w' ⟨rfl, rfl⟩
                    go_wp2_with fail
                    go_ret2
                    exact ⟨rfl, HD.out⟩
          · replace HL1 := Lib.hid (ifF hc15 HL1.out)
            have hc15d := decide_eq_false hc15
            have HK16 := Lib.hid hc15
            obtain rfl := Option.some.inj HL1.out
            have hm := HM.out; try dsimp only at hm
            replace HM := Lib.hid hm; clear hm
            obtain rfl := Option.some.inj HM.out
            go_wp2_with fail
            try clear hc15 hc15d
            go_ret2
            exact ⟨rfl, HD.out⟩
  · try rw [errV_pos _ hz5]
    have HZ6 := Lib.hid hz5; clear hz5
    replace HM := Lib.hid (ifT (bne_iff_ne.2 HZ6.out) HM.out)
    obtain rfl := Option.some.inj HM.out
    go_wp2_with fail
    go_ret2
    exact ⟨(by first | (rw [errV_pos _ HZ6.out]; rfl) | rw [errV_pos _ HZ6.out]), HD.out⟩
end Go.Proofs.Ytccdnokddkpmgaa
