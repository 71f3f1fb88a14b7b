import Derived.Test.YtpbkepajgdmbpaaDoorF1
import Derived.Test.YtpbkepajgdmbpaaDoorF2
import Derived.Test.YtpbkepajgdmbpaaDoorGF
import Derived.Test.YtpbkepajgdmbpaaDoorAst
set_option linter.all false
set_option maxRecDepth 100000
namespace Go.Proofs.YtpbkepajgdmbpaaDoor
open Go.RowKit
def R3_Prufer_L4 (F : Nat) (v1 : List (Int × Int)) (v8 : Int) : Nat → (Int) → (Int) → Option (Int × Int)
  | 0, _, _ => none
  | g+1, v9, v10 => if v10 < ((v1).length : Int) then (((ix v1 v10).bind fun y4 => if (y4.1 == v8) = true then some true else (ix v1 v10).bind fun y5 => if (y5.2 == v8) = true then some true else some false).bind fun b3 => if b3 = true then R3_Prufer_L4 F v1 v8 g ((wrap64 (v9 + 1))) ((wrap64 (v10 + 1))) else R3_Prufer_L4 F v1 v8 g (v9) ((wrap64 (v10 + 1)))) else some (v9, v10)
theorem R3_Prufer_L4_0 (F : Nat) (v1 : List (Int × Int)) (v8 : Int) (v9 : Int) (v10 : Int) : R3_Prufer_L4 F v1 v8 0 v9 v10 = none := by rw [R3_Prufer_L4]
theorem R3_Prufer_L4_s (F g : Nat) (v1 : List (Int × Int)) (v8 : Int) (v9 : Int) (v10 : Int) : R3_Prufer_L4 F v1 v8 (g+1) v9 v10 = (if v10 < ((v1).length : Int) then (((ix v1 v10).bind fun y4 => if (y4.1 == v8) = true then some true else (ix v1 v10).bind fun y5 => if (y5.2 == v8) = true then some true else some false).bind fun b3 => if b3 = true then R3_Prufer_L4 F v1 v8 g ((wrap64 (v9 + 1))) ((wrap64 (v10 + 1))) else R3_Prufer_L4 F v1 v8 g (v9) ((wrap64 (v10 + 1)))) else some (v9, v10)) := by rw [R3_Prufer_L4]
def R3_Prufer_L3 (F : Nat) (v1 : List (Int × Int)) (v6 : Int) : Nat → (Int) → (Int) → (Int) → Option (Int × Int × Int)
  | 0, _, _, _ => none
  | g+1, v4, v5, v7 => if v7 < 2 then (ix v1 v6).bind fun y1 => (if (v7 == 1) = true then (ix v1 v6).bind fun y2 => (R3_Prufer_L4 F (v1) (y2.2) F (0) (0)).bind fun o6 => ((if (o6.1 == 1) = true then if y2.2 < v4 then some true else some false else some false).bind fun b7 => if b7 = true then R3_Prufer_L3 F v1 v6 g (y2.2) (v6) ((wrap64 (v7 + 1))) else R3_Prufer_L3 F v1 v6 g (v4) (v5) ((wrap64 (v7 + 1)))) else (R3_Prufer_L4 F (v1) (y1.1) F (0) (0)).bind fun o8 => ((if (o8.1 == 1) = true then if y1.1 < v4 then some true else some false else some false).bind fun b9 => if b9 = true then R3_Prufer_L3 F v1 v6 g (y1.1) (v6) ((wrap64 (v7 + 1))) else R3_Prufer_L3 F v1 v6 g (v4) (v5) ((wrap64 (v7 + 1))))) else some (v4, v5, v7)
theorem R3_Prufer_L3_0 (F : Nat) (v1 : List (Int × Int)) (v6 : Int) (v4 : Int) (v5 : Int) (v7 : Int) : R3_Prufer_L3 F v1 v6 0 v4 v5 v7 = none := by rw [R3_Prufer_L3]
theorem R3_Prufer_L3_s (F g : Nat) (v1 : List (Int × Int)) (v6 : Int) (v4 : Int) (v5 : Int) (v7 : Int) : R3_Prufer_L3 F v1 v6 (g+1) v4 v5 v7 = (if v7 < 2 then (ix v1 v6).bind fun y1 => (if (v7 == 1) = true then (ix v1 v6).bind fun y2 => (R3_Prufer_L4 F (v1) (y2.2) F (0) (0)).bind fun o6 => ((if (o6.1 == 1) = true then if y2.2 < v4 then some true else some false else some false).bind fun b7 => if b7 = true then R3_Prufer_L3 F v1 v6 g (y2.2) (v6) ((wrap64 (v7 + 1))) else R3_Prufer_L3 F v1 v6 g (v4) (v5) ((wrap64 (v7 + 1)))) else (R3_Prufer_L4 F (v1) (y1.1) F (0) (0)).bind fun o8 => ((if (o8.1 == 1) = true then if y1.1 < v4 then some true else some false else some false).bind fun b9 => if b9 = true then R3_Prufer_L3 F v1 v6 g (y1.1) (v6) ((wrap64 (v7 + 1))) else R3_Prufer_L3 F v1 v6 g (v4) (v5) ((wrap64 (v7 + 1))))) else some (v4, v5, v7)) := by rw [R3_Prufer_L3]
def R3_Prufer_L2 (F : Nat) (v1 : List (Int × Int)) : Nat → (Int) → (Int) → (Int) → Option (Int × Int × Int)
  | 0, _, _, _ => none
  | g+1, v4, v5, v6 => if v6 < ((v1).length : Int) then (R3_Prufer_L3 F (v1) (v6) F (v4) (v5) (0)).bind fun o10 => R3_Prufer_L2 F v1 g (o10.1) (o10.2.1) ((wrap64 (v6 + 1))) else some (v4, v5, v6)
theorem R3_Prufer_L2_0 (F : Nat) (v1 : List (Int × Int)) (v4 : Int) (v5 : Int) (v6 : Int) : R3_Prufer_L2 F v1 0 v4 v5 v6 = none := by rw [R3_Prufer_L2]
theorem R3_Prufer_L2_s (F g : Nat) (v1 : List (Int × Int)) (v4 : Int) (v5 : Int) (v6 : Int) : R3_Prufer_L2 F v1 (g+1) v4 v5 v6 = (if v6 < ((v1).length : Int) then (R3_Prufer_L3 F (v1) (v6) F (v4) (v5) (0)).bind fun o10 => R3_Prufer_L2 F v1 g (o10.1) (o10.2.1) ((wrap64 (v6 + 1))) else some (v4, v5, v6)) := by rw [R3_Prufer_L2]
def R3_Prufer_L1 (F : Nat) (v0 : Int) : Nat → (List (Int × Int)) → (List Int) → Option (List (Int × Int) × List Int)
  | 0, _, _ => none
  | g+1, v1, v3 => if ((v3).length : Int) < (wrap64 (v0 - 2)) then (R3_Prufer_L2 F (v1) F (v0) ((-1)) (0)).bind fun o11 => (ix v1 o11.2.1).bind fun y13 => (ix v1 o11.2.1).bind fun y14 => (app v3 (wrap64 ((wrap64 (y13.1 + y14.2)) - o11.1))).bind fun y12 => (R1_But F (v1) (o11.2.1)).bind fun y15 => R3_Prufer_L1 F v0 g (y15) (y12) else some (v1, v3)
theorem R3_Prufer_L1_0 (F : Nat) (v0 : Int) (v1 : List (Int × Int)) (v3 : List Int) : R3_Prufer_L1 F v0 0 v1 v3 = none := by rw [R3_Prufer_L1]
theorem R3_Prufer_L1_s (F g : Nat) (v0 : Int) (v1 : List (Int × Int)) (v3 : List Int) : R3_Prufer_L1 F v0 (g+1) v1 v3 = (if ((v3).length : Int) < (wrap64 (v0 - 2)) then (R3_Prufer_L2 F (v1) F (v0) ((-1)) (0)).bind fun o11 => (ix v1 o11.2.1).bind fun y13 => (ix v1 o11.2.1).bind fun y14 => (app v3 (wrap64 ((wrap64 (y13.1 + y14.2)) - o11.1))).bind fun y12 => (R1_But F (v1) (o11.2.1)).bind fun y15 => R3_Prufer_L1 F v0 g (y15) (y12) else some (v1, v3)) := by rw [R3_Prufer_L1]
def R3_Prufer (F : Nat) (v0 : Int) (v1 : List (Int × Int)) : Option (List Int) := (R3_Prufer_L1 F (v0) F (v1) ([])).bind fun o16 => some (o16.2)
set_option maxRecDepth 100000 in
set_option maxHeartbeats 4000000 in
theorem R3_Prufer_ok {F : Nat} {v0 : Int} {v1 : List (Int × Int)} {A1 : Option Addr} {r : List Int} (w : World) (cap1 : Nat) (hr1 : ReadsL w w.heap.size A1 v1) (h : R3_Prufer F v0 v1 = some r) :
    Calls Tryd.prog 5 #[.int .i64 v0, .slice A1 v1.length cap1] w (PostG (fun v => v) (fun v => owI v r) w.heap.size w) := by
  have HR1 := Lib.hid hr1; clear hr1
  have HD := Lib.hid (Below.refl w.heap.size w)
  have HOA := Lib.hid (HP.nil (W := w) (B := w.heap.size))
  unfold R3_Prufer at h
  have HM := Lib.hid h; clear h
  go_enter Tryd.func5, Tryd.ntmps5
  replace HOA := Lib.hid (show HP _ _ (.fl (owI (.slice none 0 0) ([])) :: _) from HOA.out.pushNil _ _)
  go_wp2_with fail
  obtain ⟨o2, ho, hm⟩ := obind HM.out
  replace HM := Lib.hid hm; have HL1 := Lib.hid ho; clear hm ho
  go_loopg [1, 5] F (fun gg ux5 ux6 wr => ∃ (x3 : List (Int × Int)) (x4 : List Int) (V7 : Value) (V8 : Value), V7 = ux5 ∧ V8 = ux6 ∧ Hid (Below w.heap.size w wr) ∧ Hid ((v1 = x3 ∧ (.slice A1 v1.length cap1) = V7 ∧ HP wr w.heap.size [.fl (owI V8 (x4))]) ∨ HP wr w.heap.size [.fl (owL V7 (x3)), .fl (owI V8 (x4))]) ∧ Hid (R3_Prufer_L1 F (v0) gg x3 x4 = some o2))
  case atStart => exact ⟨v1, [], (.slice A1 v1.length cap1), (.slice none 0 0), rfl, rfl, HD, Lib.hid (Or.inl ⟨rfl, rfl, HOA.out⟩), HL1⟩
  case round =>
    obtain ⟨x3, x4, V7, V8, rfl, rfl, HD, HMX, HL1⟩ := hrel
    rename World => W10
    rcases HMX.out with ⟨rfl, rfl, hoa⟩ | hoa
    · have HOA := Lib.hid hoa; clear hoa HMX
      cases gk with
      | zero => exact absurd ((R3_Prufer_L1_0 ..).symm.trans HL1.out) (by intro h; cases h)
      | succ g1 =>
        replace HL1 := Lib.hid ((R3_Prufer_L1_s ..).symm.trans HL1.out)
        obtain ⟨A11, cap12, he, _⟩ := HP.open_I HOA.out (List.Mem.head _)
        subst he
        by_cases hc13 : ((x4).length : Int) < (wrap64 (v0 - 2))
        · replace HL1 := Lib.hid (ifT hc13 HL1.out)
          have HK14 := Lib.hid hc13
          go_wp2_with fail
          try clear hc13
          obtain ⟨o15, ho, hm⟩ := obind HL1.out
          replace HL1 := Lib.hid hm; have HL2 := Lib.hid ho; clear hm ho
          go_loopg [6, 7, 8] F (fun gg ux19 ux20 ux21 wr => ∃ (x16 : Int) (x17 : Int) (x18 : Int), ux19 = .int .i64 x16 ∧ ux20 = .int .i64 x17 ∧ ux21 = .int .i64 x18 ∧ Hid (Below W10.heap.size W10 wr) ∧ Hid (R3_Prufer_L2 F (v1) gg x16 x17 x18 = some o15))
          case atStart => exact ⟨v0, (-1), 0, rfl, rfl, rfl, (Lib.hid (Below.refl _ _)), HL2⟩
          case round =>
            obtain ⟨x16, x17, x18, rfl, rfl, rfl, HW2, HL2⟩ := hrel
            rename World => W22
            have hd := HW2.out
            replace HOA := Lib.hid (HOA.out.below hd)
            replace HD := Lib.hid (HD.out.trans (hd.mono HD.out.size))
            clear hd
            cases gk with
            | zero => exact absurd ((R3_Prufer_L2_0 ..).symm.trans HL2.out) (by intro h; cases h)
            | succ g2 =>
              replace HL2 := Lib.hid ((R3_Prufer_L2_s ..).symm.trans HL2.out)
              by_cases hc23 : x18 < ((v1).length : Int)
              · replace HL2 := Lib.hid (ifT hc23 HL2.out)
                have HK24 := Lib.hid hc23
                go_wp2_with fail
                try clear hc23
                obtain ⟨o25, ho, hm⟩ := obind HL2.out
                replace HL2 := Lib.hid hm; have HL3 := Lib.hid ho; clear hm ho
                go_loopg [6, 7, 9] F (fun gg ux29 ux30 ux31 wr => ∃ (x26 : Int) (x27 : Int) (x28 : Int), ux29 = .int .i64 x26 ∧ ux30 = .int .i64 x27 ∧ ux31 = .int .i64 x28 ∧ Hid (Below W22.heap.size W22 wr) ∧ Hid (R3_Prufer_L3 F (v1) (x18) gg x26 x27 x28 = some o25))
                case atStart => exact ⟨x16, x17, 0, rfl, rfl, rfl, (Lib.hid (Below.refl _ _)), HL3⟩
                case round =>
                  obtain ⟨x26, x27, x28, rfl, rfl, rfl, HW3, HL3⟩ := hrel
                  rename World => W32
                  have hd := HW3.out
                  replace HOA := Lib.hid (HOA.out.below hd)
                  replace HD := Lib.hid (HD.out.trans (hd.mono HD.out.size))
                  replace HW2 := Lib.hid (HW2.out.trans (hd.mono HW2.out.size))
                  clear hd
                  cases gk with
                  | zero => exact absurd ((R3_Prufer_L3_0 ..).symm.trans HL3.out) (by intro h; cases h)
                  | succ g3 =>
                    replace HL3 := Lib.hid ((R3_Prufer_L3_s ..).symm.trans HL3.out)
                    by_cases hc33 : x28 < 2
                    · replace HL3 := Lib.hid (ifT hc33 HL3.out)
                      have HK34 := Lib.hid hc33
                      obtain ⟨y35, hy36, hm⟩ := obind HL3.out
                      replace HL3 := Lib.hid hm; clear hm
                      obtain ⟨b37, o38, ea39, _, f40, f41, f42, f43⟩ := ReadsL.ix (rdL HD.out HR1.out) hy36
                      cases ea39
                      try simp only [Nat.zero_add, Nat.add_zero, Int.toNat_natCast, Int.toNat_zero, Int.toNat_one] at f42 f43
                      have HY44 := Lib.hid hy36; clear hy36
                      rcases Bool.eq_false_or_eq_true (x28 == 1) with hc45 | hc45
                      · replace HL3 := Lib.hid (ifT hc45 HL3.out)
                        have HK46 := Lib.hid hc45
                        obtain ⟨y47, hy48, hm⟩ := obind HL3.out
                        replace HL3 := Lib.hid hm; clear hm
                        obtain rfl := Option.some.inj (HY44.out.symm.trans hy48)
                        clear hy48
                        go_wp2_with fail
                        try clear hc33 f40 f41 f42 f43 hc45
                        obtain ⟨o49, ho, hm⟩ := obind HL3.out
                        replace HL3 := Lib.hid hm; have HL4 := Lib.hid ho; clear hm ho
                        go_loopg [11, 12] F (fun gg ux52 ux53 wr => ∃ (x50 : Int) (x51 : Int), ux52 = .int .i64 x50 ∧ ux53 = .int .i64 x51 ∧ Hid (Below W32.heap.size W32 wr) ∧ Hid (R3_Prufer_L4 F (v1) (y35.2) gg x50 x51 = some o49))
                        case atStart => exact ⟨0, 0, rfl, rfl, (Lib.hid (Below.refl _ _)), HL4⟩
                        case round =>
                          obtain ⟨x50, x51, rfl, rfl, HW4, HL4⟩ := hrel
                          rename World => W54
                          have hd := HW4.out
                          replace HOA := Lib.hid (HOA.out.below hd)
                          replace HD := Lib.hid (HD.out.trans (hd.mono HD.out.size))
                          replace HW2 := Lib.hid (HW2.out.trans (hd.mono HW2.out.size))
                          replace HW3 := Lib.hid (HW3.out.trans (hd.mono HW3.out.size))
                          clear hd
                          cases gk with
                          | zero => exact absurd ((R3_Prufer_L4_0 ..).symm.trans HL4.out) (by intro h; cases h)
                          | succ g4 =>
                            replace HL4 := Lib.hid ((R3_Prufer_L4_s ..).symm.trans HL4.out)
                            by_cases hc55 : x51 < ((v1).length : Int)
                            · replace HL4 := Lib.hid (ifT hc55 HL4.out)
                              have HK56 := Lib.hid hc55
                              obtain ⟨b57, hb, hm⟩ := obind HL4.out
                              replace HL4 := Lib.hid hm; have HB58 := Lib.hid hb; clear hm hb
                              obtain ⟨y59, hy60, hm⟩ := obind HB58.out
                              replace HB58 := Lib.hid hm; clear hm
                              obtain ⟨b61, o62, ea63, _, f64, f65, f66, f67⟩ := ReadsL.ix (rdL HD.out HR1.out) hy60
                              cases ea63
                              try simp only [Nat.zero_add, Nat.add_zero, Int.toNat_natCast, Int.toNat_zero, Int.toNat_one] at f66 f67
                              have HY68 := Lib.hid hy60; clear hy60
                              rcases Bool.eq_false_or_eq_true (y59.1 == y35.2) with hc69 | hc69
                              · replace HB58 := Lib.hid (ifT hc69 HB58.out)
                                have HK70 := Lib.hid hc69
                                obtain rfl := Option.some.inj HB58.out
                                replace HL4 := Lib.hid (ifT (by first | rfl | trivial) HL4.out)
                                go_wp2_with fail
                                try clear hc55 f64 f65 f66 f67 hc69
                                go_roundg g4
                                case measure => omega
                                case rel => exact ⟨(wrap64 (x50 + 1)), (wrap64 (x51 + 1)), rfl, rfl, HW4, HL4⟩
                              · replace HB58 := Lib.hid (ifF (bF hc69) HB58.out)
                                have HK70 := Lib.hid hc69
                                obtain ⟨y71, hy72, hm⟩ := obind HB58.out
                                replace HB58 := Lib.hid hm; clear hm
                                obtain rfl := Option.some.inj (HY68.out.symm.trans hy72)
                                clear hy72
                                rcases Bool.eq_false_or_eq_true (y59.2 == y35.2) with hc73 | hc73
                                · replace HB58 := Lib.hid (ifT hc73 HB58.out)
                                  have HK74 := Lib.hid hc73
                                  obtain rfl := Option.some.inj HB58.out
                                  replace HL4 := Lib.hid (ifT (by first | rfl | trivial) HL4.out)
                                  go_wp2_with fail
                                  try clear hc55 f64 f65 f66 f67 hc69 hc73
                                  go_roundg g4
                                  case measure => omega
                                  case rel => exact ⟨(wrap64 (x50 + 1)), (wrap64 (x51 + 1)), rfl, rfl, HW4, HL4⟩
                                · replace HB58 := Lib.hid (ifF (bF hc73) HB58.out)
                                  have HK74 := Lib.hid hc73
                                  obtain rfl := Option.some.inj HB58.out
                                  replace HL4 := Lib.hid (ifF (by first | exact Bool.false_ne_true | exact not_false) HL4.out)
                                  go_wp2_with fail
                                  try clear hc55 f64 f65 f66 f67 hc69 hc73
                                  go_roundg g4
                                  case measure => omega
                                  case rel => exact ⟨x50, (wrap64 (x51 + 1)), rfl, rfl, HW4, HL4⟩
                            · replace HL4 := Lib.hid (ifF hc55 HL4.out)
                              have hc55d := decide_eq_false hc55
                              have HK56 := Lib.hid hc55
                              obtain rfl := Option.some.inj HL4.out
                              have hm := HL3.out; try dsimp only at hm
                              replace HL3 := Lib.hid hm; clear hm
                              obtain ⟨b75, hb, hm⟩ := obind HL3.out
                              replace HL3 := Lib.hid hm; have HB76 := Lib.hid hb; clear hm hb
                              rcases Bool.eq_false_or_eq_true (x50 == 1) with hc77 | hc77
                              · replace HB76 := Lib.hid (ifT hc77 HB76.out)
                                have HK78 := Lib.hid hc77
                                by_cases hc79 : y35.2 < x26
                                · replace HB76 := Lib.hid (ifT hc79 HB76.out)
                                  have HK80 := Lib.hid hc79
                                  obtain rfl := Option.some.inj HB76.out
                                  replace HL3 := Lib.hid (ifT (by first | rfl | trivial) HL3.out)
                                  go_wp2_with fail
                                  try clear hc55 hc55d hc77 hc79
                                  go_roundg g3
                                  case measure => omega
                                  case rel => exact ⟨y35.2, x18, (wrap64 (x28 + 1)), rfl, rfl, rfl, HW3, HL3⟩
                                · replace HB76 := Lib.hid (ifF hc79 HB76.out)
                                  have hc79d := decide_eq_false hc79
                                  have HK80 := Lib.hid hc79
                                  obtain rfl := Option.some.inj HB76.out
                                  replace HL3 := Lib.hid (ifF (by first | exact Bool.false_ne_true | exact not_false) HL3.out)
                                  go_wp2_with fail
                                  try clear hc55 hc55d hc77 hc79 hc79d
                                  go_roundg g3
                                  case measure => omega
                                  case rel => exact ⟨x26, x27, (wrap64 (x28 + 1)), rfl, rfl, rfl, HW3, HL3⟩
                              · replace HB76 := Lib.hid (ifF (bF hc77) HB76.out)
                                have HK78 := Lib.hid hc77
                                obtain rfl := Option.some.inj HB76.out
                                replace HL3 := Lib.hid (ifF (by first | exact Bool.false_ne_true | exact not_false) HL3.out)
                                go_wp2_with fail
                                try clear hc55 hc55d hc77
                                go_roundg g3
                                case measure => omega
                                case rel => exact ⟨x26, x27, (wrap64 (x28 + 1)), rfl, rfl, rfl, HW3, HL3⟩
                      · replace HL3 := Lib.hid (ifF (bF hc45) HL3.out)
                        have HK46 := Lib.hid hc45
                        go_wp2_with fail
                        try clear hc33 f40 f41 f42 f43 hc45
                        obtain ⟨o81, ho, hm⟩ := obind HL3.out
                        replace HL3 := Lib.hid hm; have HL4 := Lib.hid ho; clear hm ho
                        go_loopg [11, 12] F (fun gg ux84 ux85 wr => ∃ (x82 : Int) (x83 : Int), ux84 = .int .i64 x82 ∧ ux85 = .int .i64 x83 ∧ Hid (Below W32.heap.size W32 wr) ∧ Hid (R3_Prufer_L4 F (v1) (y35.1) gg x82 x83 = some o81))
                        case atStart => exact ⟨0, 0, rfl, rfl, (Lib.hid (Below.refl _ _)), HL4⟩
                        case round =>
                          obtain ⟨x82, x83, rfl, rfl, HW4, HL4⟩ := hrel
                          rename World => W86
                          have hd := HW4.out
                          replace HOA := Lib.hid (HOA.out.below hd)
                          replace HD := Lib.hid (HD.out.trans (hd.mono HD.out.size))
                          replace HW2 := Lib.hid (HW2.out.trans (hd.mono HW2.out.size))
                          replace HW3 := Lib.hid (HW3.out.trans (hd.mono HW3.out.size))
                          clear hd
                          cases gk with
                          | zero => exact absurd ((R3_Prufer_L4_0 ..).symm.trans HL4.out) (by intro h; cases h)
                          | succ g4 =>
                            replace HL4 := Lib.hid ((R3_Prufer_L4_s ..).symm.trans HL4.out)
                            by_cases hc87 : x83 < ((v1).length : Int)
                            · replace HL4 := Lib.hid (ifT hc87 HL4.out)
                              have HK88 := Lib.hid hc87
                              obtain ⟨b89, hb, hm⟩ := obind HL4.out
                              replace HL4 := Lib.hid hm; have HB90 := Lib.hid hb; clear hm hb
                              obtain ⟨y91, hy92, hm⟩ := obind HB90.out
                              replace HB90 := Lib.hid hm; clear hm
                              obtain ⟨b93, o94, ea95, _, f96, f97, f98, f99⟩ := ReadsL.ix (rdL HD.out HR1.out) hy92
                              cases ea95
                              try simp only [Nat.zero_add, Nat.add_zero, Int.toNat_natCast, Int.toNat_zero, Int.toNat_one] at f98 f99
                              have HY100 := Lib.hid hy92; clear hy92
                              rcases Bool.eq_false_or_eq_true (y91.1 == y35.1) with hc101 | hc101
                              · replace HB90 := Lib.hid (ifT hc101 HB90.out)
                                have HK102 := Lib.hid hc101
                                obtain rfl := Option.some.inj HB90.out
                                replace HL4 := Lib.hid (ifT (by first | rfl | trivial) HL4.out)
                                go_wp2_with fail
                                try clear hc87 f96 f97 f98 f99 hc101
                                go_roundg g4
                                case measure => omega
                                case rel => exact ⟨(wrap64 (x82 + 1)), (wrap64 (x83 + 1)), rfl, rfl, HW4, HL4⟩
                              · replace HB90 := Lib.hid (ifF (bF hc101) HB90.out)
                                have HK102 := Lib.hid hc101
                                obtain ⟨y103, hy104, hm⟩ := obind HB90.out
                                replace HB90 := Lib.hid hm; clear hm
                                obtain rfl := Option.some.inj (HY100.out.symm.trans hy104)
                                clear hy104
                                rcases Bool.eq_false_or_eq_true (y91.2 == y35.1) with hc105 | hc105
                                · replace HB90 := Lib.hid (ifT hc105 HB90.out)
                                  have HK106 := Lib.hid hc105
                                  obtain rfl := Option.some.inj HB90.out
                                  replace HL4 := Lib.hid (ifT (by first | rfl | trivial) HL4.out)
                                  go_wp2_with fail
                                  try clear hc87 f96 f97 f98 f99 hc101 hc105
                                  go_roundg g4
                                  case measure => omega
                                  case rel => exact ⟨(wrap64 (x82 + 1)), (wrap64 (x83 + 1)), rfl, rfl, HW4, HL4⟩
                                · replace HB90 := Lib.hid (ifF (bF hc105) HB90.out)
                                  have HK106 := Lib.hid hc105
                                  obtain rfl := Option.some.inj HB90.out
                                  replace HL4 := Lib.hid (ifF (by first | exact Bool.false_ne_true | exact not_false) HL4.out)
                                  go_wp2_with fail
                                  try clear hc87 f96 f97 f98 f99 hc101 hc105
                                  go_roundg g4
                                  case measure => omega
                                  case rel => exact ⟨x82, (wrap64 (x83 + 1)), rfl, rfl, HW4, HL4⟩
                            · replace HL4 := Lib.hid (ifF hc87 HL4.out)
                              have hc87d := decide_eq_false hc87
                              have HK88 := Lib.hid hc87
                              obtain rfl := Option.some.inj HL4.out
                              have hm := HL3.out; try dsimp only at hm
                              replace HL3 := Lib.hid hm; clear hm
                              obtain ⟨b107, hb, hm⟩ := obind HL3.out
                              replace HL3 := Lib.hid hm; have HB108 := Lib.hid hb; clear hm hb
                              rcases Bool.eq_false_or_eq_true (x82 == 1) with hc109 | hc109
                              · replace HB108 := Lib.hid (ifT hc109 HB108.out)
                                have HK110 := Lib.hid hc109
                                by_cases hc111 : y35.1 < x26
                                · replace HB108 := Lib.hid (ifT hc111 HB108.out)
                                  have HK112 := Lib.hid hc111
                                  obtain rfl := Option.some.inj HB108.out
                                  replace HL3 := Lib.hid (ifT (by first | rfl | trivial) HL3.out)
                                  go_wp2_with fail
                                  try clear hc87 hc87d hc109 hc111
                                  go_roundg g3
                                  case measure => omega
                                  case rel => exact ⟨y35.1, x18, (wrap64 (x28 + 1)), rfl, rfl, rfl, HW3, HL3⟩
                                · replace HB108 := Lib.hid (ifF hc111 HB108.out)
                                  have hc111d := decide_eq_false hc111
                                  have HK112 := Lib.hid hc111
                                  obtain rfl := Option.some.inj HB108.out
                                  replace HL3 := Lib.hid (ifF (by first | exact Bool.false_ne_true | exact not_false) HL3.out)
                                  go_wp2_with fail
                                  try clear hc87 hc87d hc109 hc111 hc111d
                                  go_roundg g3
                                  case measure => omega
                                  case rel => exact ⟨x26, x27, (wrap64 (x28 + 1)), rfl, rfl, rfl, HW3, HL3⟩
                              · replace HB108 := Lib.hid (ifF (bF hc109) HB108.out)
                                have HK110 := Lib.hid hc109
                                obtain rfl := Option.some.inj HB108.out
                                replace HL3 := Lib.hid (ifF (by first | exact Bool.false_ne_true | exact not_false) HL3.out)
                                go_wp2_with fail
                                try clear hc87 hc87d hc109
                                go_roundg g3
                                case measure => omega
                                case rel => exact ⟨x26, x27, (wrap64 (x28 + 1)), rfl, rfl, rfl, HW3, HL3⟩
                    · replace HL3 := Lib.hid (ifF hc33 HL3.out)
                      have hc33d := decide_eq_false hc33
                      have HK34 := Lib.hid hc33
                      obtain rfl := Option.some.inj HL3.out
                      have hm := HL2.out; try dsimp only at hm
                      replace HL2 := Lib.hid hm; clear hm
                      go_wp2_with fail
                      try clear hc33 hc33d
                      go_roundg g2
                      case measure => omega
                      case rel => exact ⟨x26, x27, (wrap64 (x18 + 1)), rfl, rfl, rfl, HW2, HL2⟩
              · replace HL2 := Lib.hid (ifF hc23 HL2.out)
                have hc23d := decide_eq_false hc23
                have HK24 := Lib.hid hc23
                obtain rfl := Option.some.inj HL2.out
                have hm := HL1.out; try dsimp only at hm
                replace HL1 := Lib.hid hm; clear hm
                try go_wp2_with fail
                try clear hc23 hc23d
                obtain ⟨y113, hy114, hm⟩ := obind HL1.out
                replace HL1 := Lib.hid hm; clear hm
                obtain ⟨b115, o116, ea117, _, f118, f119, f120, f121⟩ := ReadsL.ix (rdL HD.out HR1.out) hy114
                cases ea117
                try simp only [Nat.zero_add, Nat.add_zero, Int.toNat_natCast, Int.toNat_zero, Int.toNat_one] at f120 f121
                have HY122 := Lib.hid hy114; clear hy114
                obtain ⟨y123, hy124, hm⟩ := obind HL1.out
                replace HL1 := Lib.hid hm; clear hm
                obtain rfl := Option.some.inj (HY122.out.symm.trans hy124)
                clear hy124
                obtain ⟨y125, hy126, hm⟩ := obind HL1.out
                replace HL1 := Lib.hid hm; clear hm
                obtain ⟨f127, hy126⟩ := app_some hy126; subst hy126
                have HF130 := Lib.hid f127; clear f127
                have hd1 := Dr.one W22
                replace HOA := Lib.hid (HOA.out.dr hd1)
                replace HD := Lib.hid (HD.out.trans (hd1.below _))
                clear hd1
                go_region_law (first | (refine hp_appI_st (World.drew W22) (.tmp 74) (.tmp 88) 23 Tryd.underlying23 rfl rfl (L1 := []) HOA.out (by simp [Act.eval, Act.put]) (by simp [Act.eval, Act.put]) HF130.out HD.out.size ?_; intro g131 cap132 W129 hoa hd; have HOA2 := Lib.hid hoa; have HD2 := Lib.hid hd; clear hoa hd))
                all_goals
                  try clear f118 f119 f120 f121
                  replace HOA := Lib.hid (show HP W129 w.heap.size [.fl (owI (.slice (some ⟨g131, 0, none⟩) ((x4).length + 1) cap132) ((x4 ++ [(wrap64 ((wrap64 (y113.1 + y113.2)) - x16))])))] from by have q := HOA2.out; (try simp only [i64w] at q); exact q); clear HOA2
                  replace HD := Lib.hid (HD.out.trans HD2.out); clear HD2
                  obtain ⟨y135, hy133, hm⟩ := obind HL1.out
                  replace HL1 := Lib.hid hm; clear hm
                  have HC134 := R1_But_ok W129 cap1 (rdL HD.out HR1.out) hy133
                  clear hy133
                  replace HC134 := Lib.hid HC134
                  go_wp2_with fail
                  refine HC134.out.mono ?_; rintro e W136 ⟨V137, rfl, ho, hd⟩
                  replace HOA := Lib.hid (HOA.out.call hd HD.out.size ho); clear ho
                  replace HD := Lib.hid (HD.out.trans (hd.mono HD.out.size))
                  clear hd
                  go_wp2_with fail
                  go_roundg g1
                  case measure => omega
                  case rel => exact ⟨y135, (x4 ++ [(wrap64 ((wrap64 (y113.1 + y113.2)) - x16))]), V137, (.slice (some ⟨g131, 0, none⟩) ((x4).length + 1) cap132), rfl, rfl, HD, Lib.hid (Or.inr HOA.out), HL1⟩
        · replace HL1 := Lib.hid (ifF hc13 HL1.out)
          have hc13d := decide_eq_false hc13
          have HK14 := Lib.hid hc13
          obtain rfl := Option.some.inj HL1.out
          have hm := HM.out; try dsimp only at hm
          replace HM := Lib.hid hm; clear hm
          obtain rfl := Option.some.inj HM.out
          go_wp2_with fail
          try clear hc13 hc13d
          go_ret
          exact ⟨_, rfl, HOA.out.get (List.Mem.head _), HD.out⟩
    · have HOA := Lib.hid hoa; clear hoa HMX
      cases gk with
      | zero => exact absurd ((R3_Prufer_L1_0 ..).symm.trans HL1.out) (by intro h; cases h)
      | succ g1 =>
        replace HL1 := Lib.hid ((R3_Prufer_L1_s ..).symm.trans HL1.out)
        obtain ⟨A139, cap140, he, _⟩ := HP.open_I HOA.out (List.Mem.tail _ (List.Mem.head _))
        subst he
        by_cases hc141 : ((x4).length : Int) < (wrap64 (v0 - 2))
        · replace HL1 := Lib.hid (ifT hc141 HL1.out)
          have HK142 := Lib.hid hc141
          go_wp2_with fail
          try clear hc141
          obtain ⟨o143, ho, hm⟩ := obind HL1.out
          replace HL1 := Lib.hid hm; have HL2 := Lib.hid ho; clear hm ho
          go_loopg [6, 7, 8] F (fun gg ux147 ux148 ux149 wr => ∃ (x144 : Int) (x145 : Int) (x146 : Int), ux147 = .int .i64 x144 ∧ ux148 = .int .i64 x145 ∧ ux149 = .int .i64 x146 ∧ Hid (Below W10.heap.size W10 wr) ∧ Hid (R3_Prufer_L2 F (x3) gg x144 x145 x146 = some o143))
          case atStart => exact ⟨v0, (-1), 0, rfl, rfl, rfl, (Lib.hid (Below.refl _ _)), HL2⟩
          case round =>
            obtain ⟨x144, x145, x146, rfl, rfl, rfl, HW2, HL2⟩ := hrel
            rename World => W150
            have hd := HW2.out
            replace HOA := Lib.hid (HOA.out.below hd)
            replace HD := Lib.hid (HD.out.trans (hd.mono HD.out.size))
            clear hd
            cases gk with
            | zero => exact absurd ((R3_Prufer_L2_0 ..).symm.trans HL2.out) (by intro h; cases h)
            | succ g2 =>
              replace HL2 := Lib.hid ((R3_Prufer_L2_s ..).symm.trans HL2.out)
              obtain ⟨A151, cap152, he, _⟩ := HP.open_L HOA.out (List.Mem.head _)
              subst he
              by_cases hc153 : x146 < ((x3).length : Int)
              · replace HL2 := Lib.hid (ifT hc153 HL2.out)
                have HK154 := Lib.hid hc153
                go_wp2_with fail
                try clear hc153
                obtain ⟨o155, ho, hm⟩ := obind HL2.out
                replace HL2 := Lib.hid hm; have HL3 := Lib.hid ho; clear hm ho
                go_loopg [6, 7, 9] F (fun gg ux159 ux160 ux161 wr => ∃ (x156 : Int) (x157 : Int) (x158 : Int), ux159 = .int .i64 x156 ∧ ux160 = .int .i64 x157 ∧ ux161 = .int .i64 x158 ∧ Hid (Below W150.heap.size W150 wr) ∧ Hid (R3_Prufer_L3 F (x3) (x146) gg x156 x157 x158 = some o155))
                case atStart => exact ⟨x144, x145, 0, rfl, rfl, rfl, (Lib.hid (Below.refl _ _)), HL3⟩
                case round =>
                  obtain ⟨x156, x157, x158, rfl, rfl, rfl, HW3, HL3⟩ := hrel
                  rename World => W162
                  have hd := HW3.out
                  replace HOA := Lib.hid (HOA.out.below hd)
                  replace HD := Lib.hid (HD.out.trans (hd.mono HD.out.size))
                  replace HW2 := Lib.hid (HW2.out.trans (hd.mono HW2.out.size))
                  clear hd
                  cases gk with
                  | zero => exact absurd ((R3_Prufer_L3_0 ..).symm.trans HL3.out) (by intro h; cases h)
                  | succ g3 =>
                    replace HL3 := Lib.hid ((R3_Prufer_L3_s ..).symm.trans HL3.out)
                    by_cases hc163 : x158 < 2
                    · replace HL3 := Lib.hid (ifT hc163 HL3.out)
                      have HK164 := Lib.hid hc163
                      obtain ⟨y165, hy166, hm⟩ := obind HL3.out
                      replace HL3 := Lib.hid hm; clear hm
                      obtain ⟨b167, o168, ea169, _, f170, f171, f172, f173⟩ := ReadsL.ix (HP.rd_L HOA.out (List.Mem.head _)) hy166
                      cases ea169
                      try simp only [Nat.zero_add, Nat.add_zero, Int.toNat_natCast, Int.toNat_zero, Int.toNat_one] at f172 f173
                      try rw [← HP.len_L HOA.out (List.Mem.head _)] at f171
                      have HY174 := Lib.hid hy166; clear hy166
                      rcases Bool.eq_false_or_eq_true (x158 == 1) with hc175 | hc175
                      · replace HL3 := Lib.hid (ifT hc175 HL3.out)
                        have HK176 := Lib.hid hc175
                        obtain ⟨y177, hy178, hm⟩ := obind HL3.out
                        replace HL3 := Lib.hid hm; clear hm
                        obtain rfl := Option.some.inj (HY174.out.symm.trans hy178)
                        clear hy178
                        go_wp2_with fail
                        try clear hc163 f170 f171 f172 f173 hc175
                        obtain ⟨o179, ho, hm⟩ := obind HL3.out
                        replace HL3 := Lib.hid hm; have HL4 := Lib.hid ho; clear hm ho
                        go_loopg [11, 12] F (fun gg ux182 ux183 wr => ∃ (x180 : Int) (x181 : Int), ux182 = .int .i64 x180 ∧ ux183 = .int .i64 x181 ∧ Hid (Below W162.heap.size W162 wr) ∧ Hid (R3_Prufer_L4 F (x3) (y165.2) gg x180 x181 = some o179))
                        case atStart => exact ⟨0, 0, rfl, rfl, (Lib.hid (Below.refl _ _)), HL4⟩
                        case round =>
                          obtain ⟨x180, x181, rfl, rfl, HW4, HL4⟩ := hrel
                          rename World => W184
                          have hd := HW4.out
                          replace HOA := Lib.hid (HOA.out.below hd)
                          replace HD := Lib.hid (HD.out.trans (hd.mono HD.out.size))
                          replace HW2 := Lib.hid (HW2.out.trans (hd.mono HW2.out.size))
                          replace HW3 := Lib.hid (HW3.out.trans (hd.mono HW3.out.size))
                          clear hd
                          cases gk with
                          | zero => exact absurd ((R3_Prufer_L4_0 ..).symm.trans HL4.out) (by intro h; cases h)
                          | succ g4 =>
                            replace HL4 := Lib.hid ((R3_Prufer_L4_s ..).symm.trans HL4.out)
                            by_cases hc185 : x181 < ((x3).length : Int)
                            · replace HL4 := Lib.hid (ifT hc185 HL4.out)
                              have HK186 := Lib.hid hc185
                              obtain ⟨b187, hb, hm⟩ := obind HL4.out
                              replace HL4 := Lib.hid hm; have HB188 := Lib.hid hb; clear hm hb
                              obtain ⟨y189, hy190, hm⟩ := obind HB188.out
                              replace HB188 := Lib.hid hm; clear hm
                              obtain ⟨b191, o192, ea193, _, f194, f195, f196, f197⟩ := ReadsL.ix (HP.rd_L HOA.out (List.Mem.head _)) hy190
                              cases ea193
                              try simp only [Nat.zero_add, Nat.add_zero, Int.toNat_natCast, Int.toNat_zero, Int.toNat_one] at f196 f197
                              try rw [← HP.len_L HOA.out (List.Mem.head _)] at f195
                              have HY198 := Lib.hid hy190; clear hy190
                              rcases Bool.eq_false_or_eq_true (y189.1 == y165.2) with hc199 | hc199
                              · replace HB188 := Lib.hid (ifT hc199 HB188.out)
                                have HK200 := Lib.hid hc199
                                obtain rfl := Option.some.inj HB188.out
                                replace HL4 := Lib.hid (ifT (by first | rfl | trivial) HL4.out)
                                go_wp2_with fail
                                try clear hc185 f194 f195 f196 f197 hc199
                                go_roundg g4
                                case measure => omega
                                case rel => exact ⟨(wrap64 (x180 + 1)), (wrap64 (x181 + 1)), rfl, rfl, HW4, HL4⟩
                              · replace HB188 := Lib.hid (ifF (bF hc199) HB188.out)
                                have HK200 := Lib.hid hc199
                                obtain ⟨y201, hy202, hm⟩ := obind HB188.out
                                replace HB188 := Lib.hid hm; clear hm
                                obtain rfl := Option.some.inj (HY198.out.symm.trans hy202)
                                clear hy202
                                rcases Bool.eq_false_or_eq_true (y189.2 == y165.2) with hc203 | hc203
                                · replace HB188 := Lib.hid (ifT hc203 HB188.out)
                                  have HK204 := Lib.hid hc203
                                  obtain rfl := Option.some.inj HB188.out
                                  replace HL4 := Lib.hid (ifT (by first | rfl | trivial) HL4.out)
                                  go_wp2_with fail
                                  try clear hc185 f194 f195 f196 f197 hc199 hc203
                                  go_roundg g4
                                  case measure => omega
                                  case rel => exact ⟨(wrap64 (x180 + 1)), (wrap64 (x181 + 1)), rfl, rfl, HW4, HL4⟩
                                · replace HB188 := Lib.hid (ifF (bF hc203) HB188.out)
                                  have HK204 := Lib.hid hc203
                                  obtain rfl := Option.some.inj HB188.out
                                  replace HL4 := Lib.hid (ifF (by first | exact Bool.false_ne_true | exact not_false) HL4.out)
                                  go_wp2_with fail
                                  try clear hc185 f194 f195 f196 f197 hc199 hc203
                                  go_roundg g4
                                  case measure => omega
                                  case rel => exact ⟨x180, (wrap64 (x181 + 1)), rfl, rfl, HW4, HL4⟩
                            · replace HL4 := Lib.hid (ifF hc185 HL4.out)
                              have hc185d := decide_eq_false hc185
                              have HK186 := Lib.hid hc185
                              obtain rfl := Option.some.inj HL4.out
                              have hm := HL3.out; try dsimp only at hm
                              replace HL3 := Lib.hid hm; clear hm
                              obtain ⟨b205, hb, hm⟩ := obind HL3.out
                              replace HL3 := Lib.hid hm; have HB206 := Lib.hid hb; clear hm hb
                              rcases Bool.eq_false_or_eq_true (x180 == 1) with hc207 | hc207
                              · replace HB206 := Lib.hid (ifT hc207 HB206.out)
                                have HK208 := Lib.hid hc207
                                by_cases hc209 : y165.2 < x156
                                · replace HB206 := Lib.hid (ifT hc209 HB206.out)
                                  have HK210 := Lib.hid hc209
                                  obtain rfl := Option.some.inj HB206.out
                                  replace HL3 := Lib.hid (ifT (by first | rfl | trivial) HL3.out)
                                  go_wp2_with fail
                                  try clear hc185 hc185d hc207 hc209
                                  go_roundg g3
                                  case measure => omega
                                  case rel => exact ⟨y165.2, x146, (wrap64 (x158 + 1)), rfl, rfl, rfl, HW3, HL3⟩
                                · replace HB206 := Lib.hid (ifF hc209 HB206.out)
                                  have hc209d := decide_eq_false hc209
                                  have HK210 := Lib.hid hc209
                                  obtain rfl := Option.some.inj HB206.out
                                  replace HL3 := Lib.hid (ifF (by first | exact Bool.false_ne_true | exact not_false) HL3.out)
                                  go_wp2_with fail
                                  try clear hc185 hc185d hc207 hc209 hc209d
                                  go_roundg g3
                                  case measure => omega
                                  case rel => exact ⟨x156, x157, (wrap64 (x158 + 1)), rfl, rfl, rfl, HW3, HL3⟩
                              · replace HB206 := Lib.hid (ifF (bF hc207) HB206.out)
                                have HK208 := Lib.hid hc207
                                obtain rfl := Option.some.inj HB206.out
                                replace HL3 := Lib.hid (ifF (by first | exact Bool.false_ne_true | exact not_false) HL3.out)
                                go_wp2_with fail
                                try clear hc185 hc185d hc207
                                go_roundg g3
                                case measure => omega
                                case rel => exact ⟨x156, x157, (wrap64 (x158 + 1)), rfl, rfl, rfl, HW3, HL3⟩
                      · replace HL3 := Lib.hid (ifF (bF hc175) HL3.out)
                        have HK176 := Lib.hid hc175
                        go_wp2_with fail
                        try clear hc163 f170 f171 f172 f173 hc175
                        obtain ⟨o211, ho, hm⟩ := obind HL3.out
                        replace HL3 := Lib.hid hm; have HL4 := Lib.hid ho; clear hm ho
                        go_loopg [11, 12] F (fun gg ux214 ux215 wr => ∃ (x212 : Int) (x213 : Int), ux214 = .int .i64 x212 ∧ ux215 = .int .i64 x213 ∧ Hid (Below W162.heap.size W162 wr) ∧ Hid (R3_Prufer_L4 F (x3) (y165.1) gg x212 x213 = some o211))
                        case atStart => exact ⟨0, 0, rfl, rfl, (Lib.hid (Below.refl _ _)), HL4⟩
                        case round =>
                          obtain ⟨x212, x213, rfl, rfl, HW4, HL4⟩ := hrel
                          rename World => W216
                          have hd := HW4.out
                          replace HOA := Lib.hid (HOA.out.below hd)
                          replace HD := Lib.hid (HD.out.trans (hd.mono HD.out.size))
                          replace HW2 := Lib.hid (HW2.out.trans (hd.mono HW2.out.size))
                          replace HW3 := Lib.hid (HW3.out.trans (hd.mono HW3.out.size))
                          clear hd
                          cases gk with
                          | zero => exact absurd ((R3_Prufer_L4_0 ..).symm.trans HL4.out) (by intro h; cases h)
                          | succ g4 =>
                            replace HL4 := Lib.hid ((R3_Prufer_L4_s ..).symm.trans HL4.out)
                            by_cases hc217 : x213 < ((x3).length : Int)
                            · replace HL4 := Lib.hid (ifT hc217 HL4.out)
                              have HK218 := Lib.hid hc217
                              obtain ⟨b219, hb, hm⟩ := obind HL4.out
                              replace HL4 := Lib.hid hm; have HB220 := Lib.hid hb; clear hm hb
                              obtain ⟨y221, hy222, hm⟩ := obind HB220.out
                              replace HB220 := Lib.hid hm; clear hm
                              obtain ⟨b223, o224, ea225, _, f226, f227, f228, f229⟩ := ReadsL.ix (HP.rd_L HOA.out (List.Mem.head _)) hy222
                              cases ea225
                              try simp only [Nat.zero_add, Nat.add_zero, Int.toNat_natCast, Int.toNat_zero, Int.toNat_one] at f228 f229
                              try rw [← HP.len_L HOA.out (List.Mem.head _)] at f227
                              have HY230 := Lib.hid hy222; clear hy222
                              rcases Bool.eq_false_or_eq_true (y221.1 == y165.1) with hc231 | hc231
                              · replace HB220 := Lib.hid (ifT hc231 HB220.out)
                                have HK232 := Lib.hid hc231
                                obtain rfl := Option.some.inj HB220.out
                                replace HL4 := Lib.hid (ifT (by first | rfl | trivial) HL4.out)
                                go_wp2_with fail
                                try clear hc217 f226 f227 f228 f229 hc231
                                go_roundg g4
                                case measure => omega
                                case rel => exact ⟨(wrap64 (x212 + 1)), (wrap64 (x213 + 1)), rfl, rfl, HW4, HL4⟩
                              · replace HB220 := Lib.hid (ifF (bF hc231) HB220.out)
                                have HK232 := Lib.hid hc231
                                obtain ⟨y233, hy234, hm⟩ := obind HB220.out
                                replace HB220 := Lib.hid hm; clear hm
                                obtain rfl := Option.some.inj (HY230.out.symm.trans hy234)
                                clear hy234
                                rcases Bool.eq_false_or_eq_true (y221.2 == y165.1) with hc235 | hc235
                                · replace HB220 := Lib.hid (ifT hc235 HB220.out)
                                  have HK236 := Lib.hid hc235
                                  obtain rfl := Option.some.inj HB220.out
                                  replace HL4 := Lib.hid (ifT (by first | rfl | trivial) HL4.out)
                                  go_wp2_with fail
                                  try clear hc217 f226 f227 f228 f229 hc231 hc235
                                  go_roundg g4
                                  case measure => omega
                                  case rel => exact ⟨(wrap64 (x212 + 1)), (wrap64 (x213 + 1)), rfl, rfl, HW4, HL4⟩
                                · replace HB220 := Lib.hid (ifF (bF hc235) HB220.out)
                                  have HK236 := Lib.hid hc235
                                  obtain rfl := Option.some.inj HB220.out
                                  replace HL4 := Lib.hid (ifF (by first | exact Bool.false_ne_true | exact not_false) HL4.out)
                                  go_wp2_with fail
                                  try clear hc217 f226 f227 f228 f229 hc231 hc235
                                  go_roundg g4
                                  case measure => omega
                                  case rel => exact ⟨x212, (wrap64 (x213 + 1)), rfl, rfl, HW4, HL4⟩
                            · replace HL4 := Lib.hid (ifF hc217 HL4.out)
                              have hc217d := decide_eq_false hc217
                              have HK218 := Lib.hid hc217
                              obtain rfl := Option.some.inj HL4.out
                              have hm := HL3.out; try dsimp only at hm
                              replace HL3 := Lib.hid hm; clear hm
                              obtain ⟨b237, hb, hm⟩ := obind HL3.out
                              replace HL3 := Lib.hid hm; have HB238 := Lib.hid hb; clear hm hb
                              rcases Bool.eq_false_or_eq_true (x212 == 1) with hc239 | hc239
                              · replace HB238 := Lib.hid (ifT hc239 HB238.out)
                                have HK240 := Lib.hid hc239
                                by_cases hc241 : y165.1 < x156
                                · replace HB238 := Lib.hid (ifT hc241 HB238.out)
                                  have HK242 := Lib.hid hc241
                                  obtain rfl := Option.some.inj HB238.out
                                  replace HL3 := Lib.hid (ifT (by first | rfl | trivial) HL3.out)
                                  go_wp2_with fail
                                  try clear hc217 hc217d hc239 hc241
                                  go_roundg g3
                                  case measure => omega
                                  case rel => exact ⟨y165.1, x146, (wrap64 (x158 + 1)), rfl, rfl, rfl, HW3, HL3⟩
                                · replace HB238 := Lib.hid (ifF hc241 HB238.out)
                                  have hc241d := decide_eq_false hc241
                                  have HK242 := Lib.hid hc241
                                  obtain rfl := Option.some.inj HB238.out
                                  replace HL3 := Lib.hid (ifF (by first | exact Bool.false_ne_true | exact not_false) HL3.out)
                                  go_wp2_with fail
                                  try clear hc217 hc217d hc239 hc241 hc241d
                                  go_roundg g3
                                  case measure => omega
                                  case rel => exact ⟨x156, x157, (wrap64 (x158 + 1)), rfl, rfl, rfl, HW3, HL3⟩
                              · replace HB238 := Lib.hid (ifF (bF hc239) HB238.out)
                                have HK240 := Lib.hid hc239
                                obtain rfl := Option.some.inj HB238.out
                                replace HL3 := Lib.hid (ifF (by first | exact Bool.false_ne_true | exact not_false) HL3.out)
                                go_wp2_with fail
                                try clear hc217 hc217d hc239
                                go_roundg g3
                                case measure => omega
                                case rel => exact ⟨x156, x157, (wrap64 (x158 + 1)), rfl, rfl, rfl, HW3, HL3⟩
                    · replace HL3 := Lib.hid (ifF hc163 HL3.out)
                      have hc163d := decide_eq_false hc163
                      have HK164 := Lib.hid hc163
                      obtain rfl := Option.some.inj HL3.out
                      have hm := HL2.out; try dsimp only at hm
                      replace HL2 := Lib.hid hm; clear hm
                      go_wp2_with fail
                      try clear hc163 hc163d
                      go_roundg g2
                      case measure => omega
                      case rel => exact ⟨x156, x157, (wrap64 (x146 + 1)), rfl, rfl, rfl, HW2, HL2⟩
              · replace HL2 := Lib.hid (ifF hc153 HL2.out)
                have hc153d := decide_eq_false hc153
                have HK154 := Lib.hid hc153
                obtain rfl := Option.some.inj HL2.out
                have hm := HL1.out; try dsimp only at hm
                replace HL1 := Lib.hid hm; clear hm
                try go_wp2_with fail
                try clear hc153 hc153d
                obtain ⟨y243, hy244, hm⟩ := obind HL1.out
                replace HL1 := Lib.hid hm; clear hm
                obtain ⟨b245, o246, ea247, _, f248, f249, f250, f251⟩ := ReadsL.ix (HP.rd_L HOA.out (List.Mem.head _)) hy244
                cases ea247
                try simp only [Nat.zero_add, Nat.add_zero, Int.toNat_natCast, Int.toNat_zero, Int.toNat_one] at f250 f251
                try rw [← HP.len_L HOA.out (List.Mem.head _)] at f249
                have HY252 := Lib.hid hy244; clear hy244
                obtain ⟨y253, hy254, hm⟩ := obind HL1.out
                replace HL1 := Lib.hid hm; clear hm
                obtain rfl := Option.some.inj (HY252.out.symm.trans hy254)
                clear hy254
                obtain ⟨y255, hy256, hm⟩ := obind HL1.out
                replace HL1 := Lib.hid hm; clear hm
                obtain ⟨f257, hy256⟩ := app_some hy256; subst hy256
                have HF260 := Lib.hid f257; clear f257
                have hd1 := Dr.one W150
                replace HOA := Lib.hid (HOA.out.dr hd1)
                replace HD := Lib.hid (HD.out.trans (hd1.below _))
                clear hd1
                go_region_law (first | (refine hp_appI_st (World.drew W150) (.tmp 74) (.tmp 88) 23 Tryd.underlying23 rfl rfl (L1 := [_]) HOA.out (by simp [Act.eval, Act.put]) (by simp [Act.eval, Act.put]) HF260.out HD.out.size ?_; intro g261 cap262 W259 hoa hd; have HOA2 := Lib.hid hoa; have HD2 := Lib.hid hd; clear hoa hd))
                all_goals
                  try clear f248 f249 f250 f251
                  replace HOA := Lib.hid (show HP W259 w.heap.size [.fl (owL (.slice (some ⟨b245, o246, none⟩) (x3).length cap152) (x3)), .fl (owI (.slice (some ⟨g261, 0, none⟩) ((x4).length + 1) cap262) ((x4 ++ [(wrap64 ((wrap64 (y243.1 + y243.2)) - x144))])))] from by have q := HOA2.out; (try simp only [i64w] at q); exact q); clear HOA2
                  replace HD := Lib.hid (HD.out.trans HD2.out); clear HD2
                  obtain ⟨y265, hy263, hm⟩ := obind HL1.out
                  replace HL1 := Lib.hid hm; clear hm
                  have HC264 := R1_But_ok W259 cap152 (HP.rd_L HOA.out (List.Mem.head _)) hy263
                  clear hy263
                  replace HC264 := Lib.hid HC264
                  go_wp2_with fail
                  refine HC264.out.mono ?_; rintro e W266 ⟨V267, rfl, ho, hd⟩
                  replace HOA := Lib.hid (HOA.out.call hd HD.out.size ho); clear ho
                  replace HD := Lib.hid (HD.out.trans (hd.mono HD.out.size))
                  clear hd
                  go_wp2_with fail
                  replace HOA := Lib.hid (HOA.out.sub (.cons₂ _ (.cons _ (.cons₂ _ .slnil))))
                  go_roundg g1
                  case measure => omega
                  case rel => exact ⟨y265, (x4 ++ [(wrap64 ((wrap64 (y243.1 + y243.2)) - x144))]), V267, (.slice (some ⟨g261, 0, none⟩) ((x4).length + 1) cap262), rfl, rfl, HD, Lib.hid (Or.inr HOA.out), HL1⟩
        · replace HL1 := Lib.hid (ifF hc141 HL1.out)
          have hc141d := decide_eq_false hc141
          have HK142 := Lib.hid hc141
          obtain rfl := Option.some.inj HL1.out
          have hm := HM.out; try dsimp only at hm
          replace HM := Lib.hid hm; clear hm
          obtain rfl := Option.some.inj HM.out
          go_wp2_with fail
          try clear hc141 hc141d
          go_ret
          exact ⟨_, rfl, HOA.out.get (List.Mem.tail _ (List.Mem.head _)), HD.out⟩
end Go.Proofs.YtpbkepajgdmbpaaDoor
