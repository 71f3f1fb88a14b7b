import Derived.Test.YtoiidngnlhhanaaDoorCost
import Derived.Test.YtoiidngnlhhanaaDoorGR
import Derived.Test.YtoiidngnlhhanaaDoorF1
set_option linter.all false
set_option maxRecDepth 100000
namespace Go.Proofs.YtoiidngnlhhanaaDoor
open Go.RowKit
def span_Check_L1 (F : Nat) (v0 : Int) (v1 : List (Int × Int × Int)) : Nat → (Int) → Option ((Unit) ⊕ (Int))
  | 0, _ => none
  | g+1, j => if j < ((v1).length : Int) then (ix v1 j).bind fun y => (((core_All F ([y.1, y.2.1]) (0) ((wrap64 (v0 - 1)))).bind fun y3 => if y3 = true then (core_Within F (y.2.2) (0) (20)).bind fun y4 => if y4 = true then some false else some true else some true).bind fun b2 => if b2 = true then some (.inr (1)) else (if (y.1 == y.2.1) = true then some (.inr (3)) else span_Check_L1 F v0 v1 g (wrap64 (j + 1)))) else some (.inl ())
theorem span_Check_L1_0 (F : Nat) (v0 : Int) (v1 : List (Int × Int × Int)) (j : Int) : span_Check_L1 F v0 v1 0 j = none := by rw [span_Check_L1]
theorem span_Check_L1_s (F g : Nat) (v0 : Int) (v1 : List (Int × Int × Int)) (j : Int) : span_Check_L1 F v0 v1 (g+1) j = (if j < ((v1).length : Int) then (ix v1 j).bind fun y => (((core_All F ([y.1, y.2.1]) (0) ((wrap64 (v0 - 1)))).bind fun y3 => if y3 = true then (core_Within F (y.2.2) (0) (20)).bind fun y4 => if y4 = true then some false else some true else some true).bind fun b2 => if b2 = true then some (.inr (1)) else (if (y.1 == y.2.1) = true then some (.inr (3)) else span_Check_L1 F v0 v1 g (wrap64 (j + 1)))) else some (.inl ())) := by rw [span_Check_L1]
def span_Check (F : Nat) (v0 : Int) (v1 : List (Int × Int × Int)) : Option (Int) := ((core_Within F (v0) (1) (8)).bind fun y1 => if y1 = true then (if 24 < ((v1).length : Int) then some (4) else (span_Check_L1 F (v0) (v1) F (0)).bind fun o5 => match o5 with | .inr r => some (r) | .inl o5 => some (0)) else some (1))
set_option maxRecDepth 100000 in
set_option maxHeartbeats 1000000 in
theorem span_Check_ok {F : Nat} {v0 : Int} {v1 : List (Int × Int × Int)} {A1 : Option Addr} {r : Int} (w : World) (cap1 : Nat) (hr1 : ReadsC w w.heap.size A1 v1) (h : span_Check F v0 v1 = some r) :
    Calls Tryd.prog 26 #[.int .i64 v0, .slice A1 v1.length cap1] w fun e w' => e = .returned (errV 55 r) ∧ Below w.heap.size w w' := by
  have HR1 := Lib.hid hr1; clear hr1
  have HD := Lib.hid (Below.refl w.heap.size w)
  have HOA := Lib.hid (HP.nil (W := w) (B := w.heap.size))
  unfold span_Check at h
  have HM := Lib.hid h; clear h
  go_enter Tryd.func26, Tryd.ntmps26
  obtain ⟨y3, hy1, hm⟩ := obind HM.out
  replace HM := Lib.hid hm; clear hm
  have HC2 := core_Within_ok w  hy1
  clear hy1
  replace HC2 := Lib.hid HC2
  cases y3
  · replace HM := Lib.hid (ifF Bool.false_ne_true HM.out)
    obtain rfl := Option.some.inj HM.out
    go_wp2_with fail
    refine HC2.out.mono ?_; rintro e w' ⟨rfl, rfl⟩
    go_wp2_with fail
    go_ret
    exact ⟨rfl, HD.out⟩
  · replace HM := Lib.hid (ifT rfl HM.out)
    by_cases hc4 : 24 < ((v1).length : Int)
    · replace HM := Lib.hid (ifT hc4 HM.out)
      have HK5 := Lib.hid hc4
      have hc4n := hc4; try norm_cast at hc4n
      obtain rfl := Option.some.inj HM.out
      go_wp2_with fail
      refine HC2.out.mono ?_; rintro e w' ⟨rfl, rfl⟩
      go_wp2_with fail
      try clear hc4 hc4n
      go_ret
      exact ⟨rfl, HD.out⟩
    · replace HM := Lib.hid (ifF hc4 HM.out)
      have hc4d := decide_eq_false hc4
      have HK5 := Lib.hid hc4
      have hc4n := hc4; try norm_cast at hc4n
      go_wp2_with fail
      refine HC2.out.mono ?_; rintro e w' ⟨rfl, rfl⟩
      go_wp2_with fail
      try clear hc4 hc4n hc4d
      obtain ⟨o6, ho, hm⟩ := obind HM.out
      replace HM := Lib.hid hm; have HL1 := Lib.hid ho; clear hm ho
      go_loopg [17] F (fun gg uj wr => ∃ (j7 : Int), uj = .int .i64 j7 ∧ Hid (Below w.heap.size w wr) ∧ Hid (span_Check_L1 F (v0) (v1) gg j7 = some o6))
      case atStart => exact ⟨0, rfl, (Lib.hid (Below.refl _ _)), HL1⟩
      case round =>
        obtain ⟨j7, rfl, HW1, HL1⟩ := hrel
        rename World => W8
        have hd := HW1.out
        replace HOA := Lib.hid (HOA.out.below hd)
        replace HD := Lib.hid (HD.out.trans (hd.mono HD.out.size))
        clear hd
        cases gk with
        | zero => exact absurd ((span_Check_L1_0 ..).symm.trans HL1.out) (by intro h; cases h)
        | succ g1 =>
          replace HL1 := Lib.hid ((span_Check_L1_s ..).symm.trans HL1.out)
          by_cases hc9 : j7 < ((v1).length : Int)
          · replace HL1 := Lib.hid (ifT hc9 HL1.out)
            have HK10 := Lib.hid hc9
            obtain ⟨y11, hy12, hm⟩ := obind HL1.out
            replace HL1 := Lib.hid hm; clear hm
            obtain ⟨b13, o14, ea15, _, f16, f17, f18, f19, f20⟩ := ReadsC.ix (rdC HD.out HR1.out) hy12
            cases ea15
            try simp only [Nat.zero_add, Nat.add_zero, Int.toNat_natCast, Int.toNat_zero, Int.toNat_one] at f18 f19 f20
            have HY21 := Lib.hid hy12; clear hy12
            go_upto_region 8 with (fail)
            have hd : Below W8.heap.size W8 (W8.alloc (.cells #[Value.int .i64 y11.1, Value.int .i64 y11.2.1, Value.int .i64 y11.2.2] 36)) := (Below.refl _ _).alloc (Nat.le_refl _) _
            have ho := boxRC W8 y11
            generalize hW : World.alloc W8 _ = W22 at *
            clear hW
            try clear hc9 f16 f17 f18 f19 f20
            replace HOA := Lib.hid (HOA.out.call hd HD.out.size ho); clear ho
            replace HD := Lib.hid (HD.out.trans (hd.mono HD.out.size))
            replace HW1 := Lib.hid (HW1.out.trans (hd.mono HW1.out.size))
            clear hd
            obtain ⟨b25, hb, hm⟩ := obind HL1.out
            replace HL1 := Lib.hid hm; have HB26 := Lib.hid hb; clear hm hb
            obtain ⟨f27, f28, f29⟩ := boxC (HP.rd_C HOA.out (List.Mem.head _))
            have hd : Below W22.heap.size W22 (World.alloc W22 (.cells #[Value.int .i64 (y11.1), Value.int .i64 (y11.2.1)] 3)) := (Below.refl _ _).alloc (Nat.le_refl _) _
            have ho : (owI (.slice (some ⟨W22.heap.size, 0, none⟩) 2 2) [y11.1, y11.2.1]).ok (World.alloc W22 (.cells #[Value.int .i64 (y11.1), Value.int .i64 (y11.2.1)] 3)) W22.heap.size := litI_ok W22 [y11.1, y11.2.1] (by unfold maxLen; simp)
            replace HOA := Lib.hid (HOA.out.call hd HD.out.size ho); clear ho
            replace HD := Lib.hid (HD.out.trans (hd.mono HD.out.size))
            replace HW1 := Lib.hid (HW1.out.trans (hd.mono HW1.out.size))
            clear hd
            obtain ⟨y34, hy32, hm⟩ := obind HB26.out
            replace HB26 := Lib.hid hm; clear hm
            have HC33 := core_All_ok (World.alloc W22 (.cells #[Value.int .i64 (y11.1), Value.int .i64 (y11.2.1)] 3)) 2 (HP.rd_I HOA.out (List.Mem.head _)) hy32
            clear hy32
            replace HC33 := Lib.hid HC33
            go_wp2_with fail
            refine HC33.out.mono ?_; rintro e w' ⟨rfl, rfl⟩
            generalize hW : World.alloc W22 _ = W30 at *
            clear hW
            try clear f27 f28 f29
            cases y34
            · replace HB26 := Lib.hid (ifF Bool.false_ne_true HB26.out)
              obtain rfl := Option.some.inj HB26.out
              replace HL1 := Lib.hid (ifT (by first | rfl | trivial) HL1.out)
              obtain rfl := Option.some.inj HL1.out
              have hm := HM.out; try dsimp only at hm
              replace HM := Lib.hid hm; clear hm
              obtain rfl := Option.some.inj HM.out
              go_wp2_with fail
              go_ret
              exact ⟨rfl, HD.out⟩
            · replace HB26 := Lib.hid (ifT rfl HB26.out)
              obtain ⟨f35, f36, f37⟩ := boxC (HP.rd_C HOA.out (List.Mem.tail _ (List.Mem.head _)))
              obtain ⟨y40, hy38, hm⟩ := obind HB26.out
              replace HB26 := Lib.hid hm; clear hm
              have HC39 := core_Within_ok W30  hy38
              clear hy38
              replace HC39 := Lib.hid HC39
              cases y40
              · replace HB26 := Lib.hid (ifF Bool.false_ne_true HB26.out)
                obtain rfl := Option.some.inj HB26.out
                replace HL1 := Lib.hid (ifT (by first | rfl | trivial) HL1.out)
                obtain rfl := Option.some.inj HL1.out
                have hm := HM.out; try dsimp only at hm
                replace HM := Lib.hid hm; clear hm
                obtain rfl := Option.some.inj HM.out
                go_wp2_with fail
                refine HC39.out.mono ?_; rintro e w' ⟨rfl, rfl⟩
                go_wp2_with fail
                try clear f35 f36 f37
                go_ret
                exact ⟨rfl, HD.out⟩
              · replace HB26 := Lib.hid (ifT rfl HB26.out)
                obtain rfl := Option.some.inj HB26.out
                replace HL1 := Lib.hid (ifF (by first | exact Bool.false_ne_true | exact not_false) HL1.out)
                rcases Bool.eq_false_or_eq_true (y11.1 == y11.2.1) with hc41 | hc41
                · replace HL1 := Lib.hid (ifT hc41 HL1.out)
                  have HK42 := Lib.hid hc41
                  obtain rfl := Option.some.inj HL1.out
                  have hm := HM.out; try dsimp only at hm
                  replace HM := Lib.hid hm; clear hm
                  obtain rfl := Option.some.inj HM.out
                  go_wp2_with fail
                  refine HC39.out.mono ?_; rintro e w' ⟨rfl, rfl⟩
                  go_wp2_with fail
                  try clear f35 f36 f37 hc41
                  go_ret
                  exact ⟨rfl, HD.out⟩
                · replace HL1 := Lib.hid (ifF (bF hc41) HL1.out)
                  have HK42 := Lib.hid hc41
                  go_wp2_with fail
                  refine HC39.out.mono ?_; rintro e w' ⟨rfl, rfl⟩
                  go_wp2_with fail
                  try clear f35 f36 f37 hc41
                  go_roundg g1
                  case measure => omega
                  case rel => exact ⟨(wrap64 (j7 + 1)), rfl, HW1, HL1⟩
          · replace HL1 := Lib.hid (ifF hc9 HL1.out)
            have hc9d := decide_eq_false hc9
            have HK10 := Lib.hid hc9
            obtain rfl := Option.some.inj HL1.out
            have hm := HM.out; try dsimp only at hm
            replace HM := Lib.hid hm; clear hm
            obtain rfl := Option.some.inj HM.out
            go_wp2_with fail
            try clear hc9 hc9d
            go_ret
            exact ⟨rfl, HD.out⟩
def mean_Least_L2 (F : Nat) (v0 : Int) (v6 : List (List Int)) (v7 : Int) : Nat → (Int) → (Int) → (Int) → Option (Int × Int)
  | 0, _, _, _ => none
  | g+1, j, v8, v9 => if j < v0 then ((ix v6 j).bind fun y5 => (ix y5 v7).bind fun y6 => if (y6 == 1073741824) = true then mean_Least_L2 F v0 v6 v7 g (wrap64 (j + 1)) (v8) (v9) else (ix v6 v0).bind fun y7 => (ix y7 v7).bind fun y8 => (ix v6 j).bind fun y9 => (ix y9 v7).bind fun y10 => (((if v8 < 0 then if (v9 == 1) = true then some true else some false else some false).bind fun b12 => if b12 = true then some true else if (wrap64 (v8 * (wrap64 (v0 - j)))) < (wrap64 ((wrap64 (y8 - y10)) * v9)) then some true else some false).bind fun b11 => if b11 = true then mean_Least_L2 F v0 v6 v7 g (wrap64 (j + 1)) ((wrap64 (y8 - y10))) ((wrap64 (v0 - j))) else mean_Least_L2 F v0 v6 v7 g (wrap64 (j + 1)) (v8) (v9))) else some (v8, v9)
theorem mean_Least_L2_0 (F : Nat) (v0 : Int) (v6 : List (List Int)) (v7 : Int) (v8 : Int) (v9 : Int) (j : Int) : mean_Least_L2 F v0 v6 v7 0 j v8 v9 = none := by rw [mean_Least_L2]
theorem mean_Least_L2_s (F g : Nat) (v0 : Int) (v6 : List (List Int)) (v7 : Int) (v8 : Int) (v9 : Int) (j : Int) : mean_Least_L2 F v0 v6 v7 (g+1) j v8 v9 = (if j < v0 then ((ix v6 j).bind fun y5 => (ix y5 v7).bind fun y6 => if (y6 == 1073741824) = true then mean_Least_L2 F v0 v6 v7 g (wrap64 (j + 1)) (v8) (v9) else (ix v6 v0).bind fun y7 => (ix y7 v7).bind fun y8 => (ix v6 j).bind fun y9 => (ix y9 v7).bind fun y10 => (((if v8 < 0 then if (v9 == 1) = true then some true else some false else some false).bind fun b12 => if b12 = true then some true else if (wrap64 (v8 * (wrap64 (v0 - j)))) < (wrap64 ((wrap64 (y8 - y10)) * v9)) then some true else some false).bind fun b11 => if b11 = true then mean_Least_L2 F v0 v6 v7 g (wrap64 (j + 1)) ((wrap64 (y8 - y10))) ((wrap64 (v0 - j))) else mean_Least_L2 F v0 v6 v7 g (wrap64 (j + 1)) (v8) (v9))) else some (v8, v9)) := by rw [mean_Least_L2]
def mean_Least_L1 (F : Nat) (v0 : Int) (v6 : List (List Int)) : Nat → (Int) → (Int) → (Int) → Option (Int × Int)
  | 0, _, _, _ => none
  | g+1, j, v2, v3 => if j < v0 then ((ix v6 v0).bind fun y3 => (ix y3 j).bind fun y4 => if (y4 == 1073741824) = true then mean_Least_L1 F v0 v6 g (wrap64 (j + 1)) (v2) (v3) else (mean_Least_L2 F (v0) (v6) (j) F (0) ((-1)) (1)).bind fun o13 => ((if (v3 == 0) = true then some true else if (wrap64 (o13.1 * v3)) < (wrap64 (v2 * o13.2)) then some true else some false).bind fun b14 => if b14 = true then mean_Least_L1 F v0 v6 g (wrap64 (j + 1)) (o13.1) (o13.2) else mean_Least_L1 F v0 v6 g (wrap64 (j + 1)) (v2) (v3))) else some (v2, v3)
theorem mean_Least_L1_0 (F : Nat) (v0 : Int) (v6 : List (List Int)) (v2 : Int) (v3 : Int) (j : Int) : mean_Least_L1 F v0 v6 0 j v2 v3 = none := by rw [mean_Least_L1]
theorem mean_Least_L1_s (F g : Nat) (v0 : Int) (v6 : List (List Int)) (v2 : Int) (v3 : Int) (j : Int) : mean_Least_L1 F v0 v6 (g+1) j v2 v3 = (if j < v0 then ((ix v6 v0).bind fun y3 => (ix y3 j).bind fun y4 => if (y4 == 1073741824) = true then mean_Least_L1 F v0 v6 g (wrap64 (j + 1)) (v2) (v3) else (mean_Least_L2 F (v0) (v6) (j) F (0) ((-1)) (1)).bind fun o13 => ((if (v3 == 0) = true then some true else if (wrap64 (o13.1 * v3)) < (wrap64 (v2 * o13.2)) then some true else some false).bind fun b14 => if b14 = true then mean_Least_L1 F v0 v6 g (wrap64 (j + 1)) (o13.1) (o13.2) else mean_Least_L1 F v0 v6 g (wrap64 (j + 1)) (v2) (v3))) else some (v2, v3)) := by rw [mean_Least_L1]
def mean_Least (F : Nat) (v0 : Int) (v1 : List (Int × Int × Int)) : Option (Int × Int × Int) := (span_Check F (v0) (v1)).bind fun y1 => (if (y1 != 0) = true then some ((0, 0, y1)) else (mean_walks F (v0) (v1)).bind fun y2 => (mean_Least_L1 F (v0) (y2) F (0) (0) (0)).bind fun o15 => (if (o15.2 == 0) = true then some ((0, 0, 5)) else (mean_gcd F (o15.2) (o15.1)).bind fun y16 => (dv o15.1 y16).bind fun y17 => (dv o15.2 y16).bind fun y18 => some ((y17, y18, 0))))
set_option maxRecDepth 100000 in
set_option maxHeartbeats 1000000 in
theorem mean_Least_ok {F : Nat} {v0 : Int} {v1 : List (Int × Int × Int)} {A1 : Option Addr} {r : Int × Int × Int} (w : World) (cap1 : Nat) (hr1 : ReadsC w w.heap.size A1 v1) (h : mean_Least F v0 v1 = some r) :
    Calls Tryd.prog 9 #[.int .i64 v0, .slice A1 v1.length cap1] w fun e w' => e = .returned (.tuple #[(.int .i64 r.1), (.int .i64 r.2.1), (errV 55 r.2.2)]) ∧ Below w.heap.size w w' := by
  have HR1 := Lib.hid hr1; clear hr1
  have HD := Lib.hid (Below.refl w.heap.size w)
  have HOA := Lib.hid (HP.nil (W := w) (B := w.heap.size))
  unfold mean_Least at h
  have HM := Lib.hid h; clear h
  go_enter Tryd.func9, Tryd.ntmps9
  obtain ⟨y3, hy1, hm⟩ := obind HM.out
  replace HM := Lib.hid hm; clear hm
  have HC2 := span_Check_ok w cap1 (rdC HD.out HR1.out) hy1
  clear hy1
  by_cases hz4 : y3 = 0
  · subst hz4
    rw [errV_zero] at HC2; replace HC2 := Lib.hid HC2
    go_wp2_with fail
    refine HC2.out.mono ?_; rintro e W5 ⟨rfl, hd⟩
    replace HOA := Lib.hid (HOA.out.below hd)
    replace HD := Lib.hid (HD.out.trans (hd.mono HD.out.size))
    clear hd
    replace HM := Lib.hid (ifF (by decide) HM.out)
    obtain ⟨y10, hy8, hm⟩ := obind HM.out
    replace HM := Lib.hid hm; clear hm
    have HC9 := mean_walks_ok W5 cap1 (rdC HD.out HR1.out) hy8
    clear hy8
    replace HC9 := Lib.hid HC9
    go_wp2_with fail
    refine HC9.out.mono ?_; rintro e W11 ⟨V12, rfl, ho, hd⟩
    replace HOA := Lib.hid (HOA.out.callR hd HD.out.size ho); clear ho
    replace HD := Lib.hid (HD.out.trans (hd.mono HD.out.size))
    clear hd
    go_wp2_with fail
    obtain ⟨o14, ho, hm⟩ := obind HM.out
    replace HM := Lib.hid hm; have HL1 := Lib.hid ho; clear hm ho
    go_loopg [26, 4, 5] F (fun gg uj ux17 ux18 wr => ∃ (j19 : Int) (x15 : Int) (x16 : Int), uj = .int .i64 j19 ∧ ux17 = .int .i64 x15 ∧ ux18 = .int .i64 x16 ∧ Hid (Below W11.heap.size W11 wr) ∧ Hid (mean_Least_L1 F (v0) (y10) gg j19 x15 x16 = some o14))
    case atStart => exact ⟨0, 0, 0, rfl, rfl, rfl, (Lib.hid (Below.refl _ _)), HL1⟩
    case round =>
      obtain ⟨j19, x15, x16, rfl, rfl, rfl, HW1, HL1⟩ := hrel
      rename World => W20
      have hd := HW1.out
      replace HOA := Lib.hid (HOA.out.below hd)
      replace HD := Lib.hid (HD.out.trans (hd.mono HD.out.size))
      clear hd
      cases gk with
      | zero => exact absurd ((mean_Least_L1_0 ..).symm.trans HL1.out) (by intro h; cases h)
      | succ g1 =>
        replace HL1 := Lib.hid ((mean_Least_L1_s ..).symm.trans HL1.out)
        by_cases hc21 : j19 < v0
        · replace HL1 := Lib.hid (ifT hc21 HL1.out)
          have HK22 := Lib.hid hc21
          obtain ⟨A25, cap26, he, _⟩ := HP.open_R HOA.out (List.Mem.head _)
          subst he
          obtain ⟨y23, hy24, hm⟩ := obind HL1.out
          replace HL1 := Lib.hid hm; clear hm
          obtain ⟨b27, o28, A34, cap35, ea29, _, f30, f31, f32, hrr⟩ := ReadsR.ix (HP.rd_R HOA.out (List.Mem.head _)) hy24
          cases ea29
          try simp only [Nat.zero_add, Nat.add_zero, Int.toNat_natCast, Int.toNat_zero, Int.toNat_one] at f32
          have HR36 := Lib.hid hrr; clear hrr
          try rw [← HP.len_R HOA.out (List.Mem.head _)] at f31
          have HY37 := Lib.hid hy24; clear hy24
          obtain ⟨y38, hy39, hm⟩ := obind HL1.out
          replace HL1 := Lib.hid hm; clear hm
          obtain ⟨b40, o41, ea42, _, f43, f44, f45⟩ := ReadsI.ix HR36.out hy39
          cases ea42
          try simp only [Nat.zero_add, Nat.add_zero, Int.toNat_natCast, Int.toNat_zero, Int.toNat_one] at f45
          have HY47 := Lib.hid hy39; clear hy39
          rcases Bool.eq_false_or_eq_true (y38 == 1073741824) with hc48 | hc48
          · replace HL1 := Lib.hid (ifT hc48 HL1.out)
            have HK49 := Lib.hid hc48
            go_wp2_with fail
            try clear hc21 f30 f31 f32 f43 f44 f45 hc48
            go_roundg g1
            case measure => omega
            case rel => exact ⟨(wrap64 (j19 + 1)), x15, x16, rfl, rfl, rfl, HW1, HL1⟩
          · replace HL1 := Lib.hid (ifF (bF hc48) HL1.out)
            have HK49 := Lib.hid hc48
            go_wp2_with fail
            try clear hc21 f30 f31 f32 f43 f44 f45 hc48
            obtain ⟨o50, ho, hm⟩ := obind HL1.out
            replace HL1 := Lib.hid hm; have HL2 := Lib.hid ho; clear hm ho
            go_loopg [38, 10, 11] F (fun gg uj ux53 ux54 wr => ∃ (j55 : Int) (x51 : Int) (x52 : Int), uj = .int .i64 j55 ∧ ux53 = .int .i64 x51 ∧ ux54 = .int .i64 x52 ∧ Hid (Below W20.heap.size W20 wr) ∧ Hid (mean_Least_L2 F (v0) (y10) (j19) gg j55 x51 x52 = some o50))
            case atStart => exact ⟨0, (-1), 1, rfl, rfl, rfl, (Lib.hid (Below.refl _ _)), HL2⟩
            case round =>
              obtain ⟨j55, x51, x52, rfl, rfl, rfl, HW2, HL2⟩ := hrel
              rename World => W56
              have hd := HW2.out
              replace HOA := Lib.hid (HOA.out.below hd)
              replace HR36 := Lib.hid (rdI hd HR36.out)
              replace HD := Lib.hid (HD.out.trans (hd.mono HD.out.size))
              replace HW1 := Lib.hid (HW1.out.trans (hd.mono HW1.out.size))
              clear hd
              cases gk with
              | zero => exact absurd ((mean_Least_L2_0 ..).symm.trans HL2.out) (by intro h; cases h)
              | succ g2 =>
                replace HL2 := Lib.hid ((mean_Least_L2_s ..).symm.trans HL2.out)
                by_cases hc57 : j55 < v0
                · replace HL2 := Lib.hid (ifT hc57 HL2.out)
                  have HK58 := Lib.hid hc57
                  obtain ⟨y59, hy60, hm⟩ := obind HL2.out
                  replace HL2 := Lib.hid hm; clear hm
                  obtain ⟨b61, o62, A68, cap69, ea63, _, f64, f65, f66, hrr⟩ := ReadsR.ix (HP.rd_R HOA.out (List.Mem.head _)) hy60
                  cases ea63
                  try simp only [Nat.zero_add, Nat.add_zero, Int.toNat_natCast, Int.toNat_zero, Int.toNat_one] at f66
                  have HR70 := Lib.hid hrr; clear hrr
                  try rw [← HP.len_R HOA.out (List.Mem.head _)] at f65
                  have HY71 := Lib.hid hy60; clear hy60
                  obtain ⟨y72, hy73, hm⟩ := obind HL2.out
                  replace HL2 := Lib.hid hm; clear hm
                  obtain ⟨b74, o75, ea76, _, f77, f78, f79⟩ := ReadsI.ix HR70.out hy73
                  cases ea76
                  try simp only [Nat.zero_add, Nat.add_zero, Int.toNat_natCast, Int.toNat_zero, Int.toNat_one] at f79
                  have HY81 := Lib.hid hy73; clear hy73
                  rcases Bool.eq_false_or_eq_true (y72 == 1073741824) with hc82 | hc82
                  · replace HL2 := Lib.hid (ifT hc82 HL2.out)
                    have HK83 := Lib.hid hc82
                    go_wp2_with fail
                    try clear hc57 f64 f65 f66 f77 f78 f79 hc82
                    go_roundg g2
                    case measure => omega
                    case rel => exact ⟨(wrap64 (j55 + 1)), x51, x52, rfl, rfl, rfl, HW2, HL2⟩
                  · replace HL2 := Lib.hid (ifF (bF hc82) HL2.out)
                    have HK83 := Lib.hid hc82
                    try go_wp2_with fail
                    try clear hc57 f64 f65 f66 f77 f78 f79 hc82
                    obtain ⟨y84, hy85, hm⟩ := obind HL2.out
                    replace HL2 := Lib.hid hm; clear hm
                    obtain ⟨b86, o87, A93, cap94, ea88, _, f89, f90, f91, hrr⟩ := ReadsR.ix (HP.rd_R HOA.out (List.Mem.head _)) hy85
                    cases ea88
                    try simp only [Nat.zero_add, Nat.add_zero, Int.toNat_natCast, Int.toNat_zero, Int.toNat_one] at f91
                    have HR95 := Lib.hid hrr; clear hrr
                    try rw [← HP.len_R HOA.out (List.Mem.head _)] at f90
                    have HY96 := Lib.hid hy85; clear hy85
                    obtain ⟨y97, hy98, hm⟩ := obind HL2.out
                    replace HL2 := Lib.hid hm; clear hm
                    obtain ⟨b99, o100, ea101, _, f102, f103, f104⟩ := ReadsI.ix HR95.out hy98
                    cases ea101
                    try simp only [Nat.zero_add, Nat.add_zero, Int.toNat_natCast, Int.toNat_zero, Int.toNat_one] at f104
                    have HY106 := Lib.hid hy98; clear hy98
                    obtain ⟨y107, hy108, hm⟩ := obind HL2.out
                    replace HL2 := Lib.hid hm; clear hm
                    obtain ⟨b109, o110, A116, cap117, ea111, _, f112, f113, f114, hrr⟩ := ReadsR.ix (HP.rd_R HOA.out (List.Mem.head _)) hy108
                    cases ea111
                    try simp only [Nat.zero_add, Nat.add_zero, Int.toNat_natCast, Int.toNat_zero, Int.toNat_one] at f114
                    have HR118 := Lib.hid hrr; clear hrr
                    try rw [← HP.len_R HOA.out (List.Mem.head _)] at f113
                    have HY119 := Lib.hid hy108; clear hy108
                    obtain ⟨y120, hy121, hm⟩ := obind HL2.out
                    replace HL2 := Lib.hid hm; clear hm
                    obtain ⟨b122, o123, ea124, _, f125, f126, f127⟩ := ReadsI.ix HR118.out hy121
                    cases ea124
                    try simp only [Nat.zero_add, Nat.add_zero, Int.toNat_natCast, Int.toNat_zero, Int.toNat_one] at f127
                    have HY129 := Lib.hid hy121; clear hy121
                    go_quiet (fail)
                    generalize hW : World.drewN W56 _ = W130
                    have hd : Dr W56 W130 := ⟨_, hW.symm⟩
                    clear hW
                    try clear f89 f90 f91 f102 f103 f104 f112 f113 f114 f125 f126 f127
                    replace HOA := Lib.hid (HOA.out.below (hd.below _))
                    replace HR36 := Lib.hid (rdI (hd.below _) HR36.out)
                    replace HR70 := Lib.hid (rdI (hd.below _) HR70.out)
                    replace HR95 := Lib.hid (rdI (hd.below _) HR95.out)
                    replace HR118 := Lib.hid (rdI (hd.below _) HR118.out)
                    replace HD := Lib.hid (HD.out.trans ((hd.below _).mono HD.out.size))
                    replace HW1 := Lib.hid (HW1.out.trans ((hd.below _).mono HW1.out.size))
                    replace HW2 := Lib.hid (HW2.out.trans ((hd.below _).mono HW2.out.size))
                    clear hd
                    obtain ⟨b131, hb, hm⟩ := obind HL2.out
                    replace HL2 := Lib.hid hm; have HB132 := Lib.hid hb; clear hm hb
                    obtain ⟨b133, hb, hm⟩ := obind HB132.out
                    replace HB132 := Lib.hid hm; have HB134 := Lib.hid hb; clear hm hb
                    by_cases hc135 : x51 < 0
                    · replace HB134 := Lib.hid (ifT hc135 HB134.out)
                      have HK136 := Lib.hid hc135
                      rcases Bool.eq_false_or_eq_true (x52 == 1) with hc137 | hc137
                      · replace HB134 := Lib.hid (ifT hc137 HB134.out)
                        have HK138 := Lib.hid hc137
                        obtain rfl := Option.some.inj HB134.out
                        replace HB132 := Lib.hid (ifT (by first | rfl | trivial) HB132.out)
                        obtain rfl := Option.some.inj HB132.out
                        replace HL2 := Lib.hid (ifT (by first | rfl | trivial) HL2.out)
                        go_wp2_with fail
                        try clear hc135 hc137
                        go_roundg g2
                        case measure => omega
                        case rel => exact ⟨(wrap64 (j55 + 1)), (wrap64 (y97 - y120)), (wrap64 (v0 - j55)), rfl, rfl, rfl, HW2, HL2⟩
                      · replace HB134 := Lib.hid (ifF (bF hc137) HB134.out)
                        have HK138 := Lib.hid hc137
                        obtain rfl := Option.some.inj HB134.out
                        replace HB132 := Lib.hid (ifF (by first | exact Bool.false_ne_true | exact not_false) HB132.out)
                        by_cases hc139 : (wrap64 (x51 * (wrap64 (v0 - j55)))) < (wrap64 ((wrap64 (y97 - y120)) * x52))
                        · replace HB132 := Lib.hid (ifT hc139 HB132.out)
                          have HK140 := Lib.hid hc139
                          obtain rfl := Option.some.inj HB132.out
                          replace HL2 := Lib.hid (ifT (by first | rfl | trivial) HL2.out)
                          go_wp2_with fail
                          try clear hc135 hc137 hc139
                          go_roundg g2
                          case measure => omega
                          case rel => exact ⟨(wrap64 (j55 + 1)), (wrap64 (y97 - y120)), (wrap64 (v0 - j55)), rfl, rfl, rfl, HW2, HL2⟩
                        · replace HB132 := Lib.hid (ifF hc139 HB132.out)
                          have hc139d := decide_eq_false hc139
                          have HK140 := Lib.hid hc139
                          obtain rfl := Option.some.inj HB132.out
                          replace HL2 := Lib.hid (ifF (by first | exact Bool.false_ne_true | exact not_false) HL2.out)
                          go_wp2_with fail
                          try clear hc135 hc137 hc139 hc139d
                          go_roundg g2
                          case measure => omega
                          case rel => exact ⟨(wrap64 (j55 + 1)), x51, x52, rfl, rfl, rfl, HW2, HL2⟩
                    · replace HB134 := Lib.hid (ifF hc135 HB134.out)
                      have hc135d := decide_eq_false hc135
                      have HK136 := Lib.hid hc135
                      obtain rfl := Option.some.inj HB134.out
                      replace HB132 := Lib.hid (ifF (by first | exact Bool.false_ne_true | exact not_false) HB132.out)
                      by_cases hc141 : (wrap64 (x51 * (wrap64 (v0 - j55)))) < (wrap64 ((wrap64 (y97 - y120)) * x52))
                      · replace HB132 := Lib.hid (ifT hc141 HB132.out)
                        have HK142 := Lib.hid hc141
                        obtain rfl := Option.some.inj HB132.out
                        replace HL2 := Lib.hid (ifT (by first | rfl | trivial) HL2.out)
                        go_wp2_with fail
                        try clear hc135 hc135d hc141
                        go_roundg g2
                        case measure => omega
                        case rel => exact ⟨(wrap64 (j55 + 1)), (wrap64 (y97 - y120)), (wrap64 (v0 - j55)), rfl, rfl, rfl, HW2, HL2⟩
                      · replace HB132 := Lib.hid (ifF hc141 HB132.out)
                        have hc141d := decide_eq_false hc141
                        have HK142 := Lib.hid hc141
                        obtain rfl := Option.some.inj HB132.out
                        replace HL2 := Lib.hid (ifF (by first | exact Bool.false_ne_true | exact not_false) HL2.out)
                        go_wp2_with fail
                        try clear hc135 hc135d hc141 hc141d
                        go_roundg g2
                        case measure => omega
                        case rel => exact ⟨(wrap64 (j55 + 1)), x51, x52, rfl, rfl, rfl, HW2, HL2⟩
                · replace HL2 := Lib.hid (ifF hc57 HL2.out)
                  have hc57d := decide_eq_false hc57
                  have HK58 := Lib.hid hc57
                  obtain rfl := Option.some.inj HL2.out
                  have hm := HL1.out; try dsimp only at hm
                  replace HL1 := Lib.hid hm; clear hm
                  obtain ⟨b143, hb, hm⟩ := obind HL1.out
                  replace HL1 := Lib.hid hm; have HB144 := Lib.hid hb; clear hm hb
                  rcases Bool.eq_false_or_eq_true (x16 == 0) with hc145 | hc145
                  · replace HB144 := Lib.hid (ifT hc145 HB144.out)
                    have HK146 := Lib.hid hc145
                    obtain rfl := Option.some.inj HB144.out
                    replace HL1 := Lib.hid (ifT (by first | rfl | trivial) HL1.out)
                    go_wp2_with fail
                    try clear hc57 hc57d hc145
                    go_roundg g1
                    case measure => omega
                    case rel => exact ⟨(wrap64 (j19 + 1)), x51, x52, rfl, rfl, rfl, HW1, HL1⟩
                  · replace HB144 := Lib.hid (ifF (bF hc145) HB144.out)
                    have HK146 := Lib.hid hc145
                    by_cases hc147 : (wrap64 (x51 * x16)) < (wrap64 (x15 * x52))
                    · replace HB144 := Lib.hid (ifT hc147 HB144.out)
                      have HK148 := Lib.hid hc147
                      obtain rfl := Option.some.inj HB144.out
                      replace HL1 := Lib.hid (ifT (by first | rfl | trivial) HL1.out)
                      go_wp2_with fail
                      try clear hc57 hc57d hc145 hc147
                      go_roundg g1
                      case measure => omega
                      case rel => exact ⟨(wrap64 (j19 + 1)), x51, x52, rfl, rfl, rfl, HW1, HL1⟩
                    · replace HB144 := Lib.hid (ifF hc147 HB144.out)
                      have hc147d := decide_eq_false hc147
                      have HK148 := Lib.hid hc147
                      obtain rfl := Option.some.inj HB144.out
                      replace HL1 := Lib.hid (ifF (by first | exact Bool.false_ne_true | exact not_false) HL1.out)
                      go_wp2_with fail
                      try clear hc57 hc57d hc145 hc147 hc147d
                      go_roundg g1
                      case measure => omega
                      case rel => exact ⟨(wrap64 (j19 + 1)), x15, x16, rfl, rfl, rfl, HW1, HL1⟩
        · replace HL1 := Lib.hid (ifF hc21 HL1.out)
          have hc21d := decide_eq_false hc21
          have HK22 := Lib.hid hc21
          obtain rfl := Option.some.inj HL1.out
          have hm := HM.out; try dsimp only at hm
          replace HM := Lib.hid hm; clear hm
          rcases Bool.eq_false_or_eq_true (x16 == 0) with hc149 | hc149
          · replace HM := Lib.hid (ifT hc149 HM.out)
            have HK150 := Lib.hid hc149
            obtain rfl := Option.some.inj HM.out
            go_wp2_with fail
            try clear hc21 hc21d hc149
            go_ret3
            exact ⟨rfl, HD.out⟩
          · replace HM := Lib.hid (ifF (bF hc149) HM.out)
            have HK150 := Lib.hid hc149
            obtain ⟨y153, hy151, hm⟩ := obind HM.out
            replace HM := Lib.hid hm; clear hm
            have HC152 := mean_gcd_ok W20  hy151
            clear hy151
            replace HC152 := Lib.hid HC152
            go_wp2_with fail
            refine HC152.out.mono ?_; rintro e W154 ⟨rfl, hd⟩
            try clear hc21 hc21d hc149
            replace HOA := Lib.hid (HOA.out.below (hd.below _))
            replace HD := Lib.hid (HD.out.trans ((hd.below _).mono HD.out.size))
            clear hd
            try go_wp2_with fail
            obtain ⟨y155, hy156, hm⟩ := obind HM.out
            replace HM := Lib.hid hm; clear hm
            obtain ⟨f157, hy156⟩ := dv_some hy156; subst hy156
            obtain ⟨y158, hy159, hm⟩ := obind HM.out
            replace HM := Lib.hid hm; clear hm
            obtain ⟨f160, hy159⟩ := dv_some hy159; subst hy159
            go_quiet (fail)
            generalize hW : World.drewN W154 _ = W161
            have hd : Dr W154 W161 := ⟨_, hW.symm⟩
            clear hW
            try clear f157 f160
            replace HOA := Lib.hid (HOA.out.below (hd.below _))
            replace HD := Lib.hid (HD.out.trans ((hd.below _).mono HD.out.size))
            clear hd
            obtain rfl := Option.some.inj HM.out
            go_wp2_with fail
            go_ret3
            exact ⟨rfl, HD.out⟩
  · rw [errV_pos _ hz4] at HC2; replace HC2 := Lib.hid HC2
    go_wp2_with fail
    refine HC2.out.mono ?_; rintro e W6 ⟨rfl, hd⟩
    replace HOA := Lib.hid (HOA.out.below hd)
    replace HD := Lib.hid (HD.out.trans (hd.mono HD.out.size))
    clear hd
    have HZ7 := Lib.hid hz4; clear hz4
    replace HM := Lib.hid (ifT (bne_iff_ne.2 HZ7.out) HM.out)
    obtain rfl := Option.some.inj HM.out
    go_wp2_with fail
    go_ret3
    exact ⟨(by first | (rw [errV_pos _ HZ7.out]; rfl) | rw [errV_pos _ HZ7.out]), HD.out⟩
end Go.Proofs.YtoiidngnlhhanaaDoor
