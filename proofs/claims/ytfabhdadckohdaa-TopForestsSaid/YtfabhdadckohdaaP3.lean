import Derived.Test.YtfabhdadckohdaaGR
import Derived.Test.YtfabhdadckohdaaCost
import Derived.Test.YtfabhdadckohdaaStb2
import Derived.Test.YtfabhdadckohdaaBxR
import Derived.Test.YtfabhdadckohdaaBox
import Derived.Test.YtfabhdadckohdaaQB
import Derived.Test.YtfabhdadckohdaaMSt
import Derived.Test.YtfabhdadckohdaaBSt
import Derived.Test.YtfabhdadckohdaaClo
import Derived.Test.YtfabhdadckohdaaCmp
import Derived.Test.YtfabhdadckohdaaFrom
import Derived.Test.YtfabhdadckohdaaL2
import Derived.Test.YtfabhdadckohdaaAst
import Derived.Test.YtfabhdadckohdaaGB
set_option linter.all false
set_option maxRecDepth 100000
namespace Go.Proofs.Ytfabhdadckohdaa
open Go.RowKit
def span_Check_L1 (F : Nat) (v0 : Int) (v1 : List (Int × Int × Int)) : Nat → (Int) → Option ((Unit) ⊕ (Int))
  | 0, _ => none
  | g+1, j => if j < ((v1).length : Int) then (ix v1 j).bind fun y => (((core_All F ([y.1, y.2.1]) (0) ((wrap64 (v0 - 1)))).bind fun y3 => if y3 = true then (core_Within F (y.2.2) (0) (20)).bind fun y4 => if y4 = true then some false else some true else some true).bind fun b2 => if b2 = true then some (.inr (1)) else (if (y.1 == y.2.1) = true then some (.inr (3)) else span_Check_L1 F v0 v1 g (wrap64 (j + 1)))) else some (.inl ())
theorem span_Check_L1_0 (F : Nat) (v0 : Int) (v1 : List (Int × Int × Int)) (j : Int) : span_Check_L1 F v0 v1 0 j = none := by rw [span_Check_L1]
theorem span_Check_L1_s (F g : Nat) (v0 : Int) (v1 : List (Int × Int × Int)) (j : Int) : span_Check_L1 F v0 v1 (g+1) j = (if j < ((v1).length : Int) then (ix v1 j).bind fun y => (((core_All F ([y.1, y.2.1]) (0) ((wrap64 (v0 - 1)))).bind fun y3 => if y3 = true then (core_Within F (y.2.2) (0) (20)).bind fun y4 => if y4 = true then some false else some true else some true).bind fun b2 => if b2 = true then some (.inr (1)) else (if (y.1 == y.2.1) = true then some (.inr (3)) else span_Check_L1 F v0 v1 g (wrap64 (j + 1)))) else some (.inl ())) := by rw [span_Check_L1]
def span_Check (F : Nat) (v0 : Int) (v1 : List (Int × Int × Int)) : Option (Int) := ((core_Within F (v0) (1) (8)).bind fun y1 => if y1 = true then (if 24 < ((v1).length : Int) then some (4) else (span_Check_L1 F (v0) (v1) F (0)).bind fun o5 => match o5 with | .inr r => some (r) | .inl o5 => some (0)) else some (1))
set_option maxRecDepth 100000 in
set_option maxHeartbeats 4000000 in
theorem span_Check_ok {F : Nat} {v0 : Int} {v1 : List (Int × Int × Int)} {A1 : Option Addr} {r : Int} (w : World) (cap1 : Nat) (hr1 : ReadsC w w.heap.size A1 v1) (h : span_Check F v0 v1 = some r) :
    Calls Try.prog 49 #[.int .i64 v0, .slice A1 v1.length cap1] w fun e w' => e = .returned (errV 66 r) ∧ Below w.heap.size w w' := by
  have HR1 := Lib.hid hr1; clear hr1
  have HD := Lib.hid (Below.refl w.heap.size w)
  have HOA := Lib.hid (HP.nil (W := w) (B := w.heap.size))
  unfold span_Check at h
  have HM := Lib.hid h; clear h
  go_enter Try.func49, Try.ntmps49
  obtain ⟨y3, hy1, hm⟩ := obind HM.out
  replace HM := Lib.hid hm; clear hm
  have HC2 := core_Within_ok w  hy1
  clear hy1
  replace HC2 := Lib.hid HC2
  cases y3
  · replace HM := Lib.hid (ifF Bool.false_ne_true HM.out)
    obtain rfl := Option.some.inj HM.out
    go_wp2_with fail
    refine HC2.out.mono ?_; rintro e w' ⟨rfl, rfl⟩
    go_wp2_with fail
    go_ret
    exact ⟨rfl, HD.out⟩
  · replace HM := Lib.hid (ifT rfl HM.out)
    by_cases hc4 : 24 < ((v1).length : Int)
    · replace HM := Lib.hid (ifT hc4 HM.out)
      have HK5 := Lib.hid hc4
      have hc4n := hc4; try norm_cast at hc4n
      obtain rfl := Option.some.inj HM.out
      go_wp2_with fail
      refine HC2.out.mono ?_; rintro e w' ⟨rfl, rfl⟩
      go_wp2_with fail
      try clear hc4 hc4n
      go_ret
      exact ⟨rfl, HD.out⟩
    · replace HM := Lib.hid (ifF hc4 HM.out)
      have hc4d := decide_eq_false hc4
      have HK5 := Lib.hid hc4
      have hc4n := hc4; try norm_cast at hc4n
      go_wp2_with fail
      refine HC2.out.mono ?_; rintro e w' ⟨rfl, rfl⟩
      go_wp2_with fail
      try clear hc4 hc4n hc4d
      obtain ⟨o6, ho, hm⟩ := obind HM.out
      replace HM := Lib.hid hm; have HL1 := Lib.hid ho; clear hm ho
      go_loopg [17] F (fun gg uj wr => ∃ (j7 : Int), uj = .int .i64 j7 ∧ Hid (Below w.heap.size w wr) ∧ Hid (span_Check_L1 F (v0) (v1) gg j7 = some o6))
      case atStart => exact ⟨0, rfl, (Lib.hid (Below.refl _ _)), HL1⟩
      case round =>
        obtain ⟨j7, rfl, HW1, HL1⟩ := hrel
        rename World => W8
        have hd := HW1.out
        replace HOA := Lib.hid (HOA.out.below hd)
        replace HD := Lib.hid (HD.out.trans (hd.mono HD.out.size))
        clear hd
        cases gk with
        | zero => exact absurd ((span_Check_L1_0 ..).symm.trans HL1.out) (by intro h; cases h)
        | succ g1 =>
          replace HL1 := Lib.hid ((span_Check_L1_s ..).symm.trans HL1.out)
          by_cases hc9 : j7 < ((v1).length : Int)
          · replace HL1 := Lib.hid (ifT hc9 HL1.out)
            have HK10 := Lib.hid hc9
            obtain ⟨y11, hy12, hm⟩ := obind HL1.out
            replace HL1 := Lib.hid hm; clear hm
            obtain ⟨b13, o14, ea15, _, f16, f17, f18, f19, f20⟩ := ReadsC.ix (rdC HD.out HR1.out) hy12
            cases ea15
            try simp only [Nat.zero_add, Nat.add_zero, Int.toNat_natCast, Int.toNat_zero, Int.toNat_one] at f18 f19 f20
            have HY21 := Lib.hid hy12; clear hy12
            go_upto_region 8 with (fail)
            have hd : Below W8.heap.size W8 (W8.alloc (.cells #[Value.int .i64 y11.1, Value.int .i64 y11.2.1, Value.int .i64 y11.2.2] 52)) := (Below.refl _ _).alloc (Nat.le_refl _) _
            have ho := boxRC W8 y11
            generalize hW : World.alloc W8 _ = W22 at *
            clear hW
            try clear hc9 f16 f17 f18 f19 f20
            replace HOA := Lib.hid (HOA.out.call hd HD.out.size ho); clear ho
            replace HD := Lib.hid (HD.out.trans (hd.mono HD.out.size))
            replace HW1 := Lib.hid (HW1.out.trans (hd.mono HW1.out.size))
            clear hd
            obtain ⟨b25, hb, hm⟩ := obind HL1.out
            replace HL1 := Lib.hid hm; have HB26 := Lib.hid hb; clear hm hb
            obtain ⟨f27, f28, f29⟩ := boxC (HP.rd_C HOA.out (List.Mem.head _))
            have hd : Below W22.heap.size W22 (World.alloc W22 (.cells #[Value.int .i64 (y11.1), Value.int .i64 (y11.2.1)] 3)) := (Below.refl _ _).alloc (Nat.le_refl _) _
            have ho : (owI (.slice (some ⟨W22.heap.size, 0, none⟩) 2 2) [y11.1, y11.2.1]).ok (World.alloc W22 (.cells #[Value.int .i64 (y11.1), Value.int .i64 (y11.2.1)] 3)) W22.heap.size := litI_ok W22 [y11.1, y11.2.1] (by unfold maxLen; simp)
            replace HOA := Lib.hid (HOA.out.call hd HD.out.size ho); clear ho
            replace HD := Lib.hid (HD.out.trans (hd.mono HD.out.size))
            replace HW1 := Lib.hid (HW1.out.trans (hd.mono HW1.out.size))
            clear hd
            obtain ⟨y34, hy32, hm⟩ := obind HB26.out
            replace HB26 := Lib.hid hm; clear hm
            have HC33 := core_All_ok (World.alloc W22 (.cells #[Value.int .i64 (y11.1), Value.int .i64 (y11.2.1)] 3)) 2 (HP.rd_I HOA.out (List.Mem.head _)) hy32
            clear hy32
            try rw [← HP.len_I HOA.out (List.Mem.head _)] at HC33
            replace HC33 := Lib.hid HC33
            go_wp2_with fail
            refine HC33.out.mono ?_; rintro e w' ⟨rfl, rfl⟩
            generalize hW : World.alloc W22 _ = W30 at *
            clear hW
            try clear f27 f28 f29
            cases y34
            · replace HB26 := Lib.hid (ifF Bool.false_ne_true HB26.out)
              obtain rfl := Option.some.inj HB26.out
              replace HL1 := Lib.hid (ifT (by first | rfl | trivial) HL1.out)
              obtain rfl := Option.some.inj HL1.out
              have hm := HM.out; try dsimp only at hm
              replace HM := Lib.hid hm; clear hm
              obtain rfl := Option.some.inj HM.out
              go_wp2_with fail
              go_ret
              exact ⟨rfl, HD.out⟩
            · replace HB26 := Lib.hid (ifT rfl HB26.out)
              obtain ⟨f35, f36, f37⟩ := boxC (HP.rd_C HOA.out (List.Mem.tail _ (List.Mem.head _)))
              obtain ⟨y40, hy38, hm⟩ := obind HB26.out
              replace HB26 := Lib.hid hm; clear hm
              have HC39 := core_Within_ok W30  hy38
              clear hy38
              replace HC39 := Lib.hid HC39
              cases y40
              · replace HB26 := Lib.hid (ifF Bool.false_ne_true HB26.out)
                obtain rfl := Option.some.inj HB26.out
                replace HL1 := Lib.hid (ifT (by first | rfl | trivial) HL1.out)
                obtain rfl := Option.some.inj HL1.out
                have hm := HM.out; try dsimp only at hm
                replace HM := Lib.hid hm; clear hm
                obtain rfl := Option.some.inj HM.out
                go_wp2_with fail
                refine HC39.out.mono ?_; rintro e w' ⟨rfl, rfl⟩
                go_wp2_with fail
                try clear f35 f36 f37
                go_ret
                exact ⟨rfl, HD.out⟩
              · replace HB26 := Lib.hid (ifT rfl HB26.out)
                obtain rfl := Option.some.inj HB26.out
                replace HL1 := Lib.hid (ifF (by first | exact Bool.false_ne_true | exact not_false) HL1.out)
                rcases Bool.eq_false_or_eq_true (y11.1 == y11.2.1) with hc41 | hc41
                · replace HL1 := Lib.hid (ifT hc41 HL1.out)
                  have HK42 := Lib.hid hc41
                  obtain rfl := Option.some.inj HL1.out
                  have hm := HM.out; try dsimp only at hm
                  replace HM := Lib.hid hm; clear hm
                  obtain rfl := Option.some.inj HM.out
                  go_wp2_with fail
                  refine HC39.out.mono ?_; rintro e w' ⟨rfl, rfl⟩
                  go_wp2_with fail
                  try clear f35 f36 f37 hc41
                  go_ret
                  exact ⟨rfl, HD.out⟩
                · replace HL1 := Lib.hid (ifF (bF hc41) HL1.out)
                  have HK42 := Lib.hid hc41
                  go_wp2_with fail
                  refine HC39.out.mono ?_; rintro e w' ⟨rfl, rfl⟩
                  go_wp2_with fail
                  try clear f35 f36 f37 hc41
                  go_roundg g1
                  case measure => omega
                  case rel => exact ⟨(wrap64 (j7 + 1)), rfl, HW1, HL1⟩
          · replace HL1 := Lib.hid (ifF hc9 HL1.out)
            have hc9d := decide_eq_false hc9
            have HK10 := Lib.hid hc9
            obtain rfl := Option.some.inj HL1.out
            have hm := HM.out; try dsimp only at hm
            replace HM := Lib.hid hm; clear hm
            obtain rfl := Option.some.inj HM.out
            go_wp2_with fail
            try clear hc9 hc9d
            go_ret
            exact ⟨rfl, HD.out⟩
end Go.Proofs.Ytfabhdadckohdaa
set_option linter.all false
set_option maxRecDepth 100000
namespace Go.Proofs.Ytfabhdadckohdaa
open Go.RowKit
attribute [local go_sem] Oper.semAt_some
def brambleweir_span_Least_1 (F : Nat) (v1000 : List (Int × Int × Int)) (v0 : Int) (v1 : Int) : Option (Int) := (ix v1000 v0).bind fun y1 => (ix v1000 v1).bind fun y2 => (cmp_Compare_int F (y1.2.2) (y2.2.2)).bind fun y3 => some (y3)
set_option maxRecDepth 100000 in
set_option maxHeartbeats 4000000 in
theorem brambleweir_span_Least_1_ok {F : Nat} {v0 : Int} {v1 : Int} {v1000 : List (Int × Int × Int)} {g1000 : Nat} {A1000 : Option Addr} {r : Int} (w : World) (cap1000 : Nat) (hr1000 : ReadsC w w.heap.size A1000 v1000) (hx1000 : w.cell? ⟨g1000, 0, none⟩ = some (.slice A1000 v1000.length cap1000)) (h : brambleweir_span_Least_1 F v1000 v0 v1 = some r) :
    Calls Try.prog 50 #[.int .i64 v0, .int .i64 v1, .pointer (some ⟨g1000, 0, none⟩)] w fun e w' => e = .returned (.int .i64 r) ∧ Dr w w' := by
  have HR1000 := Lib.hid hr1000; clear hr1000
  have HX1000 := Lib.hid hx1000; clear hx1000
  have HD := Lib.hid (Dr.refl w)
  unfold brambleweir_span_Least_1 at h
  have HM := Lib.hid h; clear h
  go_enter Try.func50, Try.ntmps50
  try go_wp2_with fail
  have fb1 := ((HD.out.below _).cell (p := ⟨g1000, 0, none⟩) (World.block_lt_of_cell? _ _ HX1000.out)).trans HX1000.out
  obtain ⟨y2, hy3, hm⟩ := obind HM.out
  replace HM := Lib.hid hm; clear hm
  obtain ⟨b4, o5, ea6, _, f7, f8, f9, f10, f11⟩ := ReadsC.ix (rdC (HD.out.below _) HR1000.out) hy3
  cases ea6
  try simp only [Nat.zero_add, Nat.add_zero, Int.toNat_natCast, Int.toNat_zero, Int.toNat_one] at f9 f10 f11
  have HY12 := Lib.hid hy3; clear hy3
  obtain ⟨y13, hy14, hm⟩ := obind HM.out
  replace HM := Lib.hid hm; clear hm
  obtain ⟨b15, o16, ea17, _, f18, f19, f20, f21, f22⟩ := ReadsC.ix (rdC (HD.out.below _) HR1000.out) hy14
  cases ea17
  try simp only [Nat.zero_add, Nat.add_zero, Int.toNat_natCast, Int.toNat_zero, Int.toNat_one] at f20 f21 f22
  have HY23 := Lib.hid hy14; clear hy14
  obtain ⟨y26, hy24, hm⟩ := obind HM.out
  replace HM := Lib.hid hm; clear hm
  have HC25 := Lib.hid (fun m => cmp_Compare_int_ok (w.drewN m)  hy24)
  clear hy24
  go_quiet (first | (go_at_call 48; exact quiet_left (HC25.out _)))
  generalize hW : World.drewN w _ = W27
  have hd : Dr w W27 := ⟨_, hW.symm⟩
  clear hW
  try clear fb1 f7 f8 f9 f10 f11 f18 f19 f20 f21 f22
  replace HD := Lib.hid (HD.out.trans hd); clear hd
  obtain rfl := Option.some.inj HM.out
  go_wp2_with fail
  go_ret
  exact ⟨rfl, HD.out⟩
def span_Least_L1 (F : Nat) (nl : Int) : Nat → (Int) → (List Int) → Option (List Int)
  | 0, _, _ => none
  | g+1, j, v6 => if j < nl then (st v6 j j).bind fun y3 => span_Least_L1 F nl g (wrap64 (j + 1)) (y3) else some (v6)
theorem span_Least_L1_0 (F : Nat) (nl : Int) (v6 : List Int) (j : Int) : span_Least_L1 F nl 0 j v6 = none := by rw [span_Least_L1]
theorem span_Least_L1_s (F g : Nat) (nl : Int) (v6 : List Int) (j : Int) : span_Least_L1 F nl (g+1) j v6 = (if j < nl then (st v6 j j).bind fun y3 => span_Least_L1 F nl g (wrap64 (j + 1)) (y3) else some (v6)) := by rw [span_Least_L1]
def span_Least_L2 (F : Nat) (nl : Int) : Nat → (Int) → (List Nat) → Option (List Nat)
  | 0, _, _ => none
  | g+1, j, v8 => if j < nl then (sWith (0) (j)).bind fun y10 => (st v8 j y10).bind fun y9 => span_Least_L2 F nl g (wrap64 (j + 1)) (y9) else some (v8)
theorem span_Least_L2_0 (F : Nat) (nl : Int) (v8 : List Nat) (j : Int) : span_Least_L2 F nl 0 j v8 = none := by rw [span_Least_L2]
theorem span_Least_L2_s (F g : Nat) (nl : Int) (v8 : List Nat) (j : Int) : span_Least_L2 F nl (g+1) j v8 = (if j < nl then (sWith (0) (j)).bind fun y10 => (st v8 j y10).bind fun y9 => span_Least_L2 F nl g (wrap64 (j + 1)) (y9) else some (v8)) := by rw [span_Least_L2]
def span_Least_L4 (F : Nat) (v15 : Nat) : List Nat → (List Nat) → Option (List Nat)
  | [], v8 => some (v8)
  | x :: xs, v8 => (st v8 (x : Int) v15).bind fun y20 => span_Least_L4 F v15 xs (y20)
theorem span_Least_L4_n (F : Nat) (v15 : Nat) (v8 : List Nat) : span_Least_L4 F v15 [] v8 = some (v8) := by rw [span_Least_L4]
theorem span_Least_L4_c (F : Nat) (v15 : Nat) (v8 : List Nat) (x : Nat) (xs : List Nat) : span_Least_L4 F v15 (x :: xs) v8 = ((st v8 (x : Int) v15).bind fun y20 => span_Least_L4 F v15 xs (y20)) := by rw [span_Least_L4]
def span_Least_L3 (F : Nat) (v1 : List (Int × Int × Int)) (v6 : List Int) : Nat → (Int) → (List Nat) → (List Bool) → (Int) → Option (List Nat × List Bool × Int)
  | 0, _, _, _, _ => none
  | g+1, j, v8, v10, v11 => if j < ((v6).length : Int) then (ix v6 j).bind fun y => (ix v1 y).bind fun y13 => ((ix v8 y13.1).bind fun y14 => (sHas (y14) (y13.2.1)).bind fun y15 => if y15 = true then span_Least_L3 F v1 v6 g (wrap64 (j + 1)) (v8) (v10) (v11) else (st v10 y true).bind fun y16 => (ix v8 y13.1).bind fun y17 => (ix v8 y13.2.1).bind fun y18 => (sOr y17 y18).bind fun y19 => (sEach y19).bind fun y22 => (span_Least_L4 F (y19) y22 (v8)).bind fun o21 => span_Least_L3 F v1 v6 g (wrap64 (j + 1)) (o21) (y16) ((wrap64 (v11 + y13.2.2)))) else some (v8, v10, v11)
theorem span_Least_L3_0 (F : Nat) (v1 : List (Int × Int × Int)) (v6 : List Int) (v8 : List Nat) (v10 : List Bool) (v11 : Int) (j : Int) : span_Least_L3 F v1 v6 0 j v8 v10 v11 = none := by rw [span_Least_L3]
theorem span_Least_L3_s (F g : Nat) (v1 : List (Int × Int × Int)) (v6 : List Int) (v8 : List Nat) (v10 : List Bool) (v11 : Int) (j : Int) : span_Least_L3 F v1 v6 (g+1) j v8 v10 v11 = (if j < ((v6).length : Int) then (ix v6 j).bind fun y => (ix v1 y).bind fun y13 => ((ix v8 y13.1).bind fun y14 => (sHas (y14) (y13.2.1)).bind fun y15 => if y15 = true then span_Least_L3 F v1 v6 g (wrap64 (j + 1)) (v8) (v10) (v11) else (st v10 y true).bind fun y16 => (ix v8 y13.1).bind fun y17 => (ix v8 y13.2.1).bind fun y18 => (sOr y17 y18).bind fun y19 => (sEach y19).bind fun y22 => (span_Least_L4 F (y19) y22 (v8)).bind fun o21 => span_Least_L3 F v1 v6 g (wrap64 (j + 1)) (o21) (y16) ((wrap64 (v11 + y13.2.2)))) else some (v8, v10, v11)) := by rw [span_Least_L3]
def span_Least (F : Nat) (v0 : Int) (v1 : List (Int × Int × Int)) : Option (List Bool × Int × Int) := (span_Check F (v0) (v1)).bind fun y1 => (if (y1 != 0) = true then some (([], 0, y1)) else (mkI ((v1).length : Int)).bind fun y2 => (span_Least_L1 F (((y2).length : Int)) F (0) (y2)).bind fun o4 => (slStc (fun z6 z7 => brambleweir_span_Least_1 F (v1) z6 z7) o4).bind fun y5 => (mkM v0).bind fun y8 => (span_Least_L2 F (((y8).length : Int)) F (0) (y8)).bind fun o11 => (mkB ((v1).length : Int)).bind fun y12 => (span_Least_L3 F (v1) (y5) F (0) (o11) (y12) (0)).bind fun o23 => ((ix o23.1 0).bind fun y24 => (sBelow (v0)).bind fun y25 => if (y24 != y25) = true then some (([], 0, 5)) else some ((o23.2.1, o23.2.2, 0))))
set_option maxRecDepth 100000 in
set_option maxHeartbeats 4000000 in
theorem span_Least_ok {F : Nat} {v0 : Int} {v1 : List (Int × Int × Int)} {A1 : Option Addr} {r : List Bool × Int × Int} (w : World) (cap1 : Nat) (hr1 : ReadsC w w.heap.size A1 v1) (h : span_Least F v0 v1 = some r) :
    Calls Try.prog 21 #[.int .i64 v0, .slice A1 v1.length cap1] w (PostG (fun v => (.tuple #[v, (.int .i64 r.2.1), (errV 66 r.2.2)])) (fun v => owB v r.1) w.heap.size w) := by
  have HR1 := Lib.hid hr1; clear hr1
  have HD := Lib.hid (Below.refl w.heap.size w)
  have HOA := Lib.hid (HP.nil (W := w) (B := w.heap.size))
  unfold span_Least at h
  have HM := Lib.hid h; clear h
  have HMK := Lib.hid (Marks.nil w.heap.size w)
  refine (callsIn_wide (n := 5)).1 ?_
  refine callsIn_of_wp_marks Try.func21 rfl trivial ?_ rfl
  simp only [Try.ntmps21, List.size_toArray, List.length_cons, List.length_nil, Nat.reduceAdd, Nat.reduceSub, Array.replicate_succ, Array.replicate_zero, List.push_toArray, List.append_toArray, List.nil_append, List.cons_append]
  refine wpIn_wide.2 ?_
  go_upto_region 1 with (fail)
  have hd : Below w.heap.size w (w.alloc (.cells #[.slice A1 v1.length cap1] 48)) := (Below.refl _ _).alloc (Nat.le_refl _) _
  have ho := owX_ok w 48 (.slice A1 v1.length cap1)
  generalize hW : World.alloc w _ = W1 at *
  clear hW
  replace HOA := Lib.hid (HOA.out.call hd HD.out.size ho); clear ho
  replace HD := Lib.hid (HD.out.trans (hd.mono HD.out.size))
  replace HMK := Lib.hid (HMK.out.nc (NC.of_below hd))
  clear hd
  have fb3 := HP.bx HOA.out (List.Mem.head _)
  obtain ⟨y6, hy4, hm⟩ := obind HM.out
  replace HM := Lib.hid hm; clear hm
  have HC5 := span_Check_ok W1 cap1 (rdC HD.out HR1.out) hy4
  clear hy4
  replace HC5 := Lib.hid HC5
  go_wp2_with fail
  refine HC5.out.mono ?_; rintro e W7 ⟨rfl, hd⟩
  try clear fb3
  replace HOA := Lib.hid (HOA.out.below hd)
  replace HD := Lib.hid (HD.out.trans (hd.mono HD.out.size))
  replace HMK := Lib.hid (HMK.out.nc (NC.of_below hd))
  clear hd
  by_cases hz8 : y6 = 0
  · subst hz8
    try simp only [errV_zero]
    replace HM := Lib.hid (ifF (by decide) HM.out)
    have fb10 := HP.bx HOA.out (List.Mem.head _)
    obtain ⟨y11, hy12, hm⟩ := obind HM.out
    replace HM := Lib.hid hm; clear hm
    obtain ⟨f13, hy12⟩ := mkI_some hy12
    obtain ⟨N17, hN18⟩ : ∃ N, Int.toNat ((v1).length : Int) = N := ⟨_, rfl⟩
    rw [hN18] at hy12; subst hy12
    have hmk14 := run_makeI f13; simp only [hN18] at hmk14
    have hd : Below W7.heap.size W7 (W7.alloc (.cells (Array.replicate N17 (Value.int .i64 0)) 3)) := (Below.refl _ _).alloc (Nat.le_refl _) _
    have ho := mkI_ok W7 f13; rw [hN18] at ho; clear hN18
    go_upto_region 5 with (fail)
    generalize hW : World.alloc W7 _ = W15 at *
    clear hW hmk14 f13
    try clear fb10
    replace HOA := Lib.hid (HOA.out.call hd HD.out.size ho); clear ho
    replace HD := Lib.hid (HD.out.trans (hd.mono HD.out.size))
    replace HMK := Lib.hid (HMK.out.nc (NC.of_below hd))
    clear hd
    go_wp2_with fail
    obtain ⟨o19, ho, hm⟩ := obind HM.out
    try rw [List.length_replicate] at ho
    replace HM := Lib.hid hm; have HL1 := Lib.hid ho; clear hm ho
    go_loopg [30] F (fun gg uj wr => ∃ (j21 : Int) (x20 : List Int), uj = .int .i64 j21 ∧ Hid (Below w.heap.size w wr) ∧ Hid (HP wr w.heap.size [.fl (owI (.slice (some ⟨W7.heap.size, 0, none⟩) N17 N17) (x20)), .fl (owX 48 (some ⟨w.heap.size, 0, none⟩) (.slice A1 v1.length cap1))]) ∧ Hid (Marks w.heap.size [] wr) ∧ Hid (span_Least_L1 F (((N17 : Nat) : Int)) gg j21 x20 = some o19))
    case atStart => exact ⟨0, (List.replicate N17 0), rfl, HD, HOA, HMK, HL1⟩
    case round =>
      obtain ⟨j21, x20, rfl, HD, HOA, HMK, HL1⟩ := hrel
      rename World => W22
      cases gk with
      | zero => exact absurd ((span_Least_L1_0 ..).symm.trans HL1.out) (by intro h; cases h)
      | succ g1 =>
        replace HL1 := Lib.hid ((span_Least_L1_s ..).symm.trans HL1.out)
        by_cases hc23 : j21 < ((N17 : Nat) : Int)
        · replace HL1 := Lib.hid (ifT hc23 HL1.out)
          have HK24 := Lib.hid hc23
          obtain ⟨y27, hy26, hm⟩ := obind HL1.out
          replace HL1 := Lib.hid hm; clear hm
          obtain ⟨f28, hy26⟩ := st_some hy26; subst hy26
          obtain ⟨g34, ea, f31, ⟨ux33, f32⟩, hp, hb⟩ := HP.setI (x := j21) (its1 := []) HOA.out f28
          cases ea
          obtain ⟨q0, q1⟩ := f28
          try rw [← HP.len_I HOA.out (List.Mem.head _)] at q1
          have HP_ := Lib.hid hp; have HB_ := Lib.hid hb; clear hp hb
          replace HMK := Lib.hid (HMK.out.nc (ncOf HP_.out))
          go_wp2_with fail
          have hp := HP_.out; have hb := HB_.out; clear HP_ HB_
          generalize hW : World.setCell W22 _ _ = W25 at *
          clear hW
          try clear f31 f32 q0 q1 hc23
          replace HOA := Lib.hid (show HP W25 w.heap.size [.fl (owI (.slice (some ⟨W7.heap.size, 0, none⟩) N17 N17) ((List.set x20 (Int.toNat j21) j21))), .fl (owX 48 (some ⟨w.heap.size, 0, none⟩) (.slice A1 v1.length cap1))] from hp); clear hp
          replace HD := Lib.hid (HD.out.trans hb); clear hb
          go_wp2_with fail
          go_roundg g1
          case measure => omega
          case rel => exact ⟨(wrap64 (j21 + 1)), (List.set x20 (Int.toNat j21) j21), rfl, HD, HOA, HMK, HL1⟩
        · replace HL1 := Lib.hid (ifF hc23 HL1.out)
          have hc23d := decide_eq_false hc23
          have HK24 := Lib.hid hc23
          obtain rfl := Option.some.inj HL1.out
          have hm := HM.out; try dsimp only at hm
          replace HM := Lib.hid hm; clear hm
          go_wp2_with fail
          try clear hc23 hc23d
          obtain ⟨y38, hy39, hm⟩ := obind HM.out
          replace HM := Lib.hid hm; clear hm
          have hfr := HP.front (its1 := []) HOA.out
          have HC40 := Lib.hid (hp_stac 50 #[.pointer (some ⟨w.heap.size, 0, none⟩)] (enters_of Try.func50 (by kernel_rfl) rfl) HD.out hfr (fun W_ a_ b_ r_ hd_ hoa_ hq_ => (brambleweir_span_Least_1_ok W_ cap1 (rdC hd_ HR1.out) (HP.bx hoa_ (List.Mem.head _)) hq_).mono fun e_ w_ h_ => h_) hy39); clear hy39 hfr
          go_wp2_with fail
          refine HC40.out.mono ?_; rintro e W41 ⟨rfl, hp, hb, hn⟩
          replace HMK := Lib.hid (HMK.out.nc (hn))
          clear hn
          replace HOA := Lib.hid (show HP W41 w.heap.size [.fl (owI (.slice (some ⟨W7.heap.size, 0, none⟩) N17 N17) (y38)), .fl (owX 48 (some ⟨w.heap.size, 0, none⟩) (.slice A1 v1.length cap1))] from hp); clear hp
          replace HD := Lib.hid hb; clear hb
          obtain ⟨y42, hy43, hm⟩ := obind HM.out
          replace HM := Lib.hid hm; clear hm
          obtain ⟨f44, hy43⟩ := mkM_some hy43
          obtain ⟨N48, hN49⟩ : ∃ N, Int.toNat v0 = N := ⟨_, rfl⟩
          rw [hN49] at hy43; subst hy43
          have hmk45 := run_makeM f44; simp only [hN49] at hmk45
          have hd : Below W41.heap.size W41 (W41.alloc (.cells (Array.replicate N48 (Value.int .u64 0)) 60)) := (Below.refl _ _).alloc (Nat.le_refl _) _
          have ho := mkM_ok W41 f44; rw [hN49] at ho; clear hN49
          have ho2 := owX_ok (W41.alloc (.cells (Array.replicate N48 (Value.int .u64 0)) 60)) 57 (.slice (some ⟨W41.heap.size, 0, none⟩) N48 N48)
          have hd2 : Below (World.heap (W41.alloc (.cells (Array.replicate N48 (Value.int .u64 0)) 60))).size (W41.alloc (.cells (Array.replicate N48 (Value.int .u64 0)) 60)) (World.alloc (W41.alloc (.cells (Array.replicate N48 (Value.int .u64 0)) 60)) (.cells #[(.slice (some ⟨W41.heap.size, 0, none⟩) N48 N48)] 57)) := (Below.refl _ _).alloc (Nat.le_refl _) _
          have hoa := (HOA.out.call hd HD.out.size ho).call hd2 (Nat.le_trans HD.out.size hd.size) ho2
          replace hd := hd.trans (hd2.mono hd.size)
          simp only [World.size_alloc] at hoa
          clear ho ho2 hd2
          go_upto_region 12 with (fail)
          generalize hW : World.alloc (World.alloc W41 _) _ = W46 at *
          clear hW hmk45 f44
          replace HOA := Lib.hid hoa; clear hoa
          replace HD := Lib.hid (HD.out.trans (hd.mono HD.out.size))
          replace HMK := Lib.hid (HMK.out.nc (NC.of_below hd))
          clear hd
          have fb51 := HP.bx HOA.out (List.Mem.head _)
          go_wp2_with fail
          try clear fb51
          obtain ⟨o52, ho, hm⟩ := obind HM.out
          try rw [List.length_replicate] at ho
          replace HM := Lib.hid hm; have HL2 := Lib.hid ho; clear hm ho
          go_loopg [45] F (fun gg uj wr => ∃ (j54 : Int) (x53 : List Nat), uj = .int .i64 j54 ∧ Hid (Below w.heap.size w wr) ∧ Hid (HP wr w.heap.size [.fl (owX 57 (some ⟨(W41.heap.size + 1), 0, none⟩) ((.slice (some ⟨W41.heap.size, 0, none⟩) N48 N48))), .fl (owM (.slice (some ⟨W41.heap.size, 0, none⟩) N48 N48) (x53)), .fl (owI (.slice (some ⟨W7.heap.size, 0, none⟩) N17 N17) (y38)), .fl (owX 48 (some ⟨w.heap.size, 0, none⟩) (.slice A1 v1.length cap1))]) ∧ Hid (Marks w.heap.size [] wr) ∧ Hid (span_Least_L2 F (((N48 : Nat) : Int)) gg j54 x53 = some o52))
          case atStart => exact ⟨0, (List.replicate N48 0), rfl, HD, HOA, HMK, HL2⟩
          case round =>
            obtain ⟨j54, x53, rfl, HD, HOA, HMK, HL2⟩ := hrel
            rename World => W55
            cases gk with
            | zero => exact absurd ((span_Least_L2_0 ..).symm.trans HL2.out) (by intro h; cases h)
            | succ g2 =>
              replace HL2 := Lib.hid ((span_Least_L2_s ..).symm.trans HL2.out)
              by_cases hc56 : j54 < ((N48 : Nat) : Int)
              · replace HL2 := Lib.hid (ifT hc56 HL2.out)
                have HK57 := Lib.hid hc56
                try go_wp2_with fail
                try clear hc56
                obtain ⟨y60, hy58, hm⟩ := obind HL2.out
                replace HL2 := Lib.hid hm; clear hm
                have HC59 := Lib.hid (fun m => sWith_ok (W55.drewN m)  hy58)
                clear hy58
                have fb61 := HP.bx HOA.out (List.Mem.head _)
                obtain ⟨y64, hy63, hm⟩ := obind HL2.out
                replace HL2 := Lib.hid hm; clear hm
                obtain ⟨f65, hy63⟩ := st_some hy63; subst hy63
                obtain ⟨g71, ea, f68, ⟨ux70, f69⟩, hp, hb⟩ := HP.setM (x := y60) (its1 := [_]) HOA.out f65
                cases ea
                obtain ⟨q0, q1⟩ := f65
                try rw [← HP.len_M HOA.out (List.Mem.tail _ (List.Mem.head _))] at q1
                have HP_ := Lib.hid hp; have HB_ := Lib.hid hb; clear hp hb
                replace HMK := Lib.hid (HMK.out.nc ((ncOf HP_.out).trans (NC.drew _)))
                go_still_tail 5, (by kernel_rfl)
                still_call ((HC59.out 1).mono fun _ _ ⟨h1, h2⟩ => ⟨h1, h2.symm⟩)
                repeat still_step
                refine wpStill_nil ?_
                change wpList _ _ _ _ _ (World.drew W55)
                go_wp2_with fail
                have hp := HP_.out.dr (Dr.one _); have hb := HB_.out.trans ((Dr.one _).below _); clear HP_ HB_
                generalize hW : World.drew (World.setCell W55 _ _) = W62 at *
                clear hW
                try clear f68 f69 q0 q1 fb61
                replace HOA := Lib.hid (show HP W62 w.heap.size [.fl (owX 57 (some ⟨(W41.heap.size + 1), 0, none⟩) ((.slice (some ⟨W41.heap.size, 0, none⟩) N48 N48))), .fl (owM (.slice (some ⟨W41.heap.size, 0, none⟩) N48 N48) ((List.set x53 (Int.toNat j54) y60))), .fl (owI (.slice (some ⟨W7.heap.size, 0, none⟩) N17 N17) (y38)), .fl (owX 48 (some ⟨w.heap.size, 0, none⟩) (.slice A1 v1.length cap1))] from hp); clear hp
                replace HD := Lib.hid (HD.out.trans hb); clear hb
                go_wp2_with fail
                go_roundg g2
                case measure => omega
                case rel => exact ⟨(wrap64 (j54 + 1)), (List.set x53 (Int.toNat j54) y60), rfl, HD, HOA, HMK, HL2⟩
              · replace HL2 := Lib.hid (ifF hc56 HL2.out)
                have hc56d := decide_eq_false hc56
                have HK57 := Lib.hid hc56
                obtain rfl := Option.some.inj HL2.out
                have hm := HM.out; try dsimp only at hm
                replace HM := Lib.hid hm; clear hm
                have fb75 := HP.bx HOA.out (List.Mem.tail _ (List.Mem.tail _ (List.Mem.tail _ (List.Mem.head _))))
                obtain ⟨y76, hy77, hm⟩ := obind HM.out
                replace HM := Lib.hid hm; clear hm
                obtain ⟨f78, hy77⟩ := mkB_some hy77
                obtain ⟨N82, hN83⟩ : ∃ N, Int.toNat ((v1).length : Int) = N := ⟨_, rfl⟩
                rw [hN83] at hy77; subst hy77
                have hmk79 := run_makeB f78; simp only [hN83] at hmk79
                have hd : Below W55.heap.size W55 (W55.alloc (.cells (Array.replicate N82 (Value.bool false)) 4)) := (Below.refl _ _).alloc (Nat.le_refl _) _
                have ho := mkB_ok W55 f78; rw [hN83] at ho; clear hN83
                go_upto_region 18 with (refine upon_go ?_; go_simp)
                generalize hW : World.alloc W55 _ = W80 at *
                clear hW hmk79 f78
                try clear hc56 hc56d fb75
                replace HOA := Lib.hid (HOA.out.call hd HD.out.size ho); clear ho
                replace HD := Lib.hid (HD.out.trans (hd.mono HD.out.size))
                replace HMK := Lib.hid (HMK.out.nc (NC.of_below hd))
                clear hd
                go_wp2_with fail
                obtain ⟨o84, ho, hm⟩ := obind HM.out
                replace HM := Lib.hid hm; have HL3 := Lib.hid ho; clear hm ho
                refine wp_loop_marks _ [false, false, false, false, false, false, false, false, false, false, false, false, false, true, false, true, true, true, true, false, false, false, false, false, false, false, false, false, false, false, false, false, false, false, false, false, false, false, false, false, false, false, false, false, false, false, false, false, false, false, false, false, false, false, false, false, false, false, false, true, true, true, true, true, true, true, true, true, true, true, true, true, true, true, true, true, true, true, true, true, true, true, true, true, true, true, true, true, true, true, true, true, true, true, true, false, true, true, true, true, true, false, false, false, false, false, false, false, false, false] (fun gg fk3 dsk3 wr => ∃ (j88 : Int) (x85 : List Nat) (x86 : List Bool) (x87 : Int), (fk3 59) = .int .i64 j88 ∧ (fk3 13) = .int .i64 x87 ∧ Hid (Below w.heap.size w wr) ∧ Hid (HP wr w.heap.size [.fl (owB (.slice (some ⟨W55.heap.size, 0, none⟩) N82 N82) (x86)), .fl (owX 57 (some ⟨(W41.heap.size + 1), 0, none⟩) ((.slice (some ⟨W41.heap.size, 0, none⟩) N48 N48))), .fl (owM (.slice (some ⟨W41.heap.size, 0, none⟩) N48 N48) (x85)), .fl (owI (.slice (some ⟨W7.heap.size, 0, none⟩) N17 N17) (y38)), .fl (owX 48 (some ⟨w.heap.size, 0, none⟩) (.slice A1 v1.length cap1))]) ∧ Hid (Marks w.heap.size dsk3 wr) ∧ Hid (span_Least_L3 F (v1) (y38) gg j88 x85 x86 x87 = some o84)) F _ (by simp only [agreeB, and_self, true_and]) ⟨0, x53, (List.replicate N82 false), 0, rfl, rfl, HD, HOA, HMK, HL3⟩ ?round
                case round =>
                  intro gk fk3 dsk3 wr hrel _ _ hJ3 _
                  obtain ⟨j88, x85, x86, x87, hf89, hf90, HD, HOA, HMK, HL3⟩ := hrel
                  simp only [setB, Nat.reduceAdd, hf89, hf90]
                  clear hf89 hf90
                  rename World => W91
                  cases gk with
                  | zero => exact absurd ((span_Least_L3_0 ..).symm.trans HL3.out) (by intro h; cases h)
                  | succ g3 =>
                    replace HL3 := Lib.hid ((span_Least_L3_s ..).symm.trans HL3.out)
                    by_cases hc92 : j88 < ((y38).length : Int)
                    · replace HL3 := Lib.hid (ifT hc92 HL3.out)
                      have HK93 := Lib.hid hc92
                      try rw [← HP.len_I HOA.out (List.Mem.tail _ (List.Mem.tail _ (List.Mem.tail _ (List.Mem.head _))))] at hc92
                      obtain ⟨y94, hy95, hm⟩ := obind HL3.out
                      replace HL3 := Lib.hid hm; clear hm
                      obtain ⟨b96, o97, ea98, _, f99, f100, f101⟩ := ReadsI.ix (HP.rd_I HOA.out (List.Mem.tail _ (List.Mem.tail _ (List.Mem.tail _ (List.Mem.head _))))) hy95
                      cases ea98
                      try simp only [Nat.zero_add, Nat.add_zero, Int.toNat_natCast, Int.toNat_zero, Int.toNat_one] at f101
                      try rw [← HP.len_I HOA.out (List.Mem.tail _ (List.Mem.tail _ (List.Mem.tail _ (List.Mem.head _))))] at f100
                      have HY103 := Lib.hid hy95; clear hy95
                      have fb104 := HP.bx HOA.out (List.Mem.tail _ (List.Mem.tail _ (List.Mem.tail _ (List.Mem.tail _ (List.Mem.head _)))))
                      obtain ⟨y105, hy106, hm⟩ := obind HL3.out
                      replace HL3 := Lib.hid hm; clear hm
                      obtain ⟨b107, o108, ea109, _, f110, f111, f112, f113, f114⟩ := ReadsC.ix (rdC HD.out HR1.out) hy106
                      cases ea109
                      try simp only [Nat.zero_add, Nat.add_zero, Int.toNat_natCast, Int.toNat_zero, Int.toNat_one] at f112 f113 f114
                      have HY115 := Lib.hid hy106; clear hy106
                      go_upto_region 22 with (fail)
                      have hd : Below W91.heap.size W91 (W91.alloc (.cells #[Value.int .i64 y105.1, Value.int .i64 y105.2.1, Value.int .i64 y105.2.2] 52)) := (Below.refl _ _).alloc (Nat.le_refl _) _
                      have ho := boxRC W91 y105
                      generalize hW : World.alloc W91 _ = W116 at *
                      clear hW
                      try clear hc92 f99 f100 f101 fb104 f110 f111 f112 f113 f114
                      replace HOA := Lib.hid (HOA.out.call hd HD.out.size ho); clear ho
                      replace HD := Lib.hid (HD.out.trans (hd.mono HD.out.size))
                      replace HMK := Lib.hid (HMK.out.nc (NC.of_below hd))
                      clear hd
                      try go_wp2_with fail
                      obtain ⟨f119, f120, f121⟩ := boxC (HP.rd_C HOA.out (List.Mem.head _))
                      have fb122 := HP.bx HOA.out (List.Mem.tail _ (List.Mem.tail _ (List.Mem.head _)))
                      obtain ⟨y123, hy124, hm⟩ := obind HL3.out
                      replace HL3 := Lib.hid hm; clear hm
                      obtain ⟨b125, o126, ea127, _, f128, f129, f130⟩ := ReadsM.ix (HP.rd_M HOA.out (List.Mem.tail _ (List.Mem.tail _ (List.Mem.tail _ (List.Mem.head _))))) hy124
                      cases ea127
                      try simp only [Nat.zero_add, Nat.add_zero, Int.toNat_natCast, Int.toNat_zero, Int.toNat_one] at f130
                      try rw [← HP.len_M HOA.out (List.Mem.tail _ (List.Mem.tail _ (List.Mem.tail _ (List.Mem.head _))))] at f129
                      have HY132 := Lib.hid hy124; clear hy124
                      obtain ⟨y135, hy133, hm⟩ := obind HL3.out
                      replace HL3 := Lib.hid hm; clear hm
                      have HC134 := Lib.hid (fun m => sHas_ok (W116.drewN m)  hy133)
                      clear hy133
                      cases y135
                      · replace HL3 := Lib.hid (ifF Bool.false_ne_true HL3.out)
                        go_quiet (first | (go_at_call 35; exact quiet_left (HC134.out _)))
                        generalize hW : World.drewN W116 _ = W136
                        have hd : Dr W116 W136 := ⟨_, hW.symm⟩
                        clear hW
                        try clear f119 f120 f121 fb122 f128 f129 f130
                        replace HOA := Lib.hid (HOA.out.below (hd.below _))
                        replace HD := Lib.hid (HD.out.trans ((hd.below _).mono HD.out.size))
                        replace HMK := Lib.hid (HMK.out.nc (NC.of_below (hd.below _)))
                        clear hd
                        obtain ⟨y139, hy138, hm⟩ := obind HL3.out
                        replace HL3 := Lib.hid hm; clear hm
                        obtain ⟨f140, hy138⟩ := st_some hy138; subst hy138
                        obtain ⟨g146, ea, f143, ⟨ux145, f144⟩, hp, hb⟩ := HP.setB (x := true) (its1 := [_]) HOA.out f140
                        cases ea
                        obtain ⟨q0, q1⟩ := f140
                        try rw [← HP.len_B HOA.out (List.Mem.tail _ (List.Mem.head _))] at q1
                        have HP_ := Lib.hid hp; have HB_ := Lib.hid hb; clear hp hb
                        replace HMK := Lib.hid (HMK.out.nc (ncOf HP_.out))
                        go_upto_region 24 with (fail)
                        have hp := HP_.out; have hb := HB_.out; clear HP_ HB_
                        generalize hW : World.setCell W136 _ _ = W137 at *
                        clear hW
                        try clear f143 f144 q0 q1
                        replace HOA := Lib.hid (show HP W137 w.heap.size [.fl (owC (.slice (some ⟨W91.heap.size, 0, none⟩) 1 1) ([y105])), .fl (owB (.slice (some ⟨W55.heap.size, 0, none⟩) N82 N82) ((List.set x86 (Int.toNat y94) true))), .fl (owX 57 (some ⟨(W41.heap.size + 1), 0, none⟩) ((.slice (some ⟨W41.heap.size, 0, none⟩) N48 N48))), .fl (owM (.slice (some ⟨W41.heap.size, 0, none⟩) N48 N48) (x85)), .fl (owI (.slice (some ⟨W7.heap.size, 0, none⟩) N17 N17) (y38)), .fl (owX 48 (some ⟨w.heap.size, 0, none⟩) (.slice (some ⟨b107, o108, none⟩) v1.length cap1))] from hp); clear hp
                        replace HD := Lib.hid (HD.out.trans hb); clear hb
                        obtain ⟨f150, f151, f152⟩ := boxC (HP.rd_C HOA.out (List.Mem.head _))
                        try go_wp2_with fail
                        try clear f150 f151 f152
                        obtain ⟨f153, f154, f155⟩ := boxC (HP.rd_C HOA.out (List.Mem.head _))
                        have fb156 := HP.bx HOA.out (List.Mem.tail _ (List.Mem.tail _ (List.Mem.head _)))
                        obtain ⟨y157, hy158, hm⟩ := obind HL3.out
                        replace HL3 := Lib.hid hm; clear hm
                        obtain ⟨b159, o160, ea161, _, f162, f163, f164⟩ := ReadsM.ix (HP.rd_M HOA.out (List.Mem.tail _ (List.Mem.tail _ (List.Mem.tail _ (List.Mem.head _))))) hy158
                        cases ea161
                        try simp only [Nat.zero_add, Nat.add_zero, Int.toNat_natCast, Int.toNat_zero, Int.toNat_one] at f164
                        try rw [← HP.len_M HOA.out (List.Mem.tail _ (List.Mem.tail _ (List.Mem.tail _ (List.Mem.head _))))] at f163
                        have HY166 := Lib.hid hy158; clear hy158
                        obtain ⟨y167, hy168, hm⟩ := obind HL3.out
                        replace HL3 := Lib.hid hm; clear hm
                        obtain ⟨b169, o170, ea171, _, f172, f173, f174⟩ := ReadsM.ix (HP.rd_M HOA.out (List.Mem.tail _ (List.Mem.tail _ (List.Mem.tail _ (List.Mem.head _))))) hy168
                        cases ea171
                        try simp only [Nat.zero_add, Nat.add_zero, Int.toNat_natCast, Int.toNat_zero, Int.toNat_one] at f174
                        try rw [← HP.len_M HOA.out (List.Mem.tail _ (List.Mem.tail _ (List.Mem.tail _ (List.Mem.head _))))] at f173
                        have HY176 := Lib.hid hy168; clear hy168
                        obtain ⟨y177, hy178, hm⟩ := obind HL3.out
                        replace HL3 := Lib.hid hm; clear hm
                        obtain ⟨f179, hy178⟩ := sOr_some hy178; subst hy178
                        try have f153z := fun n_ os_ => cell_grown (World.block_lt_of_cell? _ _ f153) f153 n_ os_
                        try have f154z := fun n_ os_ => cell_grown (World.block_lt_of_cell? _ _ f154) f154 n_ os_
                        try have f155z := fun n_ os_ => cell_grown (World.block_lt_of_cell? _ _ f155) f155 n_ os_
                        try have fb156z := fun n_ os_ => cell_grown (World.block_lt_of_cell? _ _ fb156) fb156 n_ os_
                        try have f162z := fun n_ os_ => cell_grown (World.block_lt_of_cell? _ _ f162) f162 n_ os_
                        try have f163z := fun n_ os_ => cell_grown (World.block_lt_of_cell? _ _ f163) f163 n_ os_
                        try have f164z := fun n_ os_ => cell_grown (World.block_lt_of_cell? _ _ f164) f164 n_ os_
                        try have f172z := fun n_ os_ => cell_grown (World.block_lt_of_cell? _ _ f172) f172 n_ os_
                        try have f173z := fun n_ os_ => cell_grown (World.block_lt_of_cell? _ _ f173) f173 n_ os_
                        try have f174z := fun n_ os_ => cell_grown (World.block_lt_of_cell? _ _ f174) f174 n_ os_
                        try have f179z := fun n_ os_ => cell_grown (World.block_lt_of_cell? _ _ f179) f179 n_ os_
                        refine wp_region_boxed (da := 17) (ds := 92) (OK := fun x => ∃ m : Int, x = .int .u64 m) 11 rfl rfl (by kernel_rfl) (by kernel_rfl) rfl rfl rfl rfl rfl rfl (by kernel_rfl) set_alloc set_store (show (17 : Nat) < 110 from by decide) ?_
                        simp only [List.take_succ_cons, List.take_zero, List.cons_append, List.nil_append]
                        repeat (quiet_step (fail))
                        refine wpQuiet_nil ?_
                        refine boxed_end (OK := fun x => ∃ m : Int, x = .int .u64 m) (ds := 92) (T := 60) (x := .int .u64 (((y157 ||| y167) : Nat) : Int)) rfl ⟨_, rfl⟩ (fun nq => ?_)
                        have hd1 : Dr W137 (World.drewN W137 nq) := ⟨nq, rfl⟩
                        generalize hW : World.drewN W137 nq = W180 at hd1 ⊢
                        clear hW
                        have hsz_ : W137.heap.size = W180.heap.size := by obtain ⟨q_, rfl⟩ := hd1; rfl
                        rw [hsz_]
                        clear hsz_
                        replace HOA := Lib.hid (HOA.out.below (hd1.below _))
                        replace HD := Lib.hid (HD.out.trans ((hd1.below _).mono HD.out.size))
                        replace HMK := Lib.hid (HMK.out.nc (NC.of_below (hd1.below _)))
                        clear hd1
                        try clear f153z
                        try clear f154z
                        try clear f155z
                        try clear fb156z
                        try clear f162z
                        try clear f163z
                        try clear f164z
                        try clear f172z
                        try clear f173z
                        try clear f174z
                        try clear f179z
                        try clear f153
                        try clear f154
                        try clear f155
                        try clear fb156
                        try clear f162
                        try clear f163
                        try clear f164
                        try clear f172
                        try clear f173
                        try clear f174
                        try clear f179
                        go_upto_region 26 with (fail)
                        have hd : Below W180.heap.size W180 (W180.alloc (.cells #[.int .u64 ((((y157 ||| y167)) : Nat) : Int)] 60)) := (Below.refl _ _).alloc (Nat.le_refl _) _
                        have ho := owX_ok W180 60 (.int .u64 ((((y157 ||| y167)) : Nat) : Int))
                        generalize hW : World.alloc W180 _ = W181 at *
                        clear hW
                        replace HOA := Lib.hid (HOA.out.call hd HD.out.size ho); clear ho
                        replace HD := Lib.hid (HD.out.trans (hd.mono HD.out.size))
                        replace HMK := Lib.hid (HMK.out.nc (NC.of_below hd))
                        clear hd
                        have fb183 := HP.bx HOA.out (List.Mem.head _)
                        obtain ⟨y184, hy185, hm⟩ := obind HL3.out
                        replace HL3 := Lib.hid hm; clear hm
                        obtain ⟨hlt, hml⟩ := s_of hy185
                        have HLT187 := Lib.hid hlt; have HML188 := Lib.hid hml; clear hlt hml hy185
                        obtain ⟨o186, ho, hm⟩ := obind HL3.out
                        replace HL3 := Lib.hid hm; have HL4 := Lib.hid ho; clear hm ho
                        go_wp2_with fail
                        refine (each_any _ _).mono ?_; rintro e w' ⟨rfl, rfl⟩
                        go_wp2_with fail
                        try clear fb183
                        generalize ((y157 ||| y167)) = me189 at *
                        have hd : Below W181.heap.size W181 (W181.alloc (.cells #[.int .u64 (((me189) : Nat) : Int)] 60)) := (Below.refl _ _).alloc (Nat.le_refl _) _
                        have ho := owX_ok W181 60 (.int .u64 (((me189) : Nat) : Int))
                        generalize hW : World.alloc W181 _ = W190 at *
                        clear hW
                        replace HOA := Lib.hid (HOA.out.call hd HD.out.size ho); clear ho
                        replace HD := Lib.hid (HD.out.trans (hd.mono HD.out.size))
                        replace HMK := Lib.hid (HMK.out.nc (NC.of_below hd))
                        clear hd
                        have HDk193 := HD
                        refine (wpIn_wide (n := 5)).1 (wp_each2 (m := me189) (Bs := W181.heap.size) (by omega) HLT187.out rfl (HP.bx HOA.out (List.Mem.head _)) rfl (fun rest W => ∃ (x192 : List Nat), Hid (Below w.heap.size w W) ∧ Hid (NC W190 W) ∧ Hid (HP W w.heap.size [.fl (owX 60 (some ⟨W181.heap.size, 0, none⟩) (.int .u64 (((me189) : Nat) : Int))), .fl (owX 60 (some ⟨W180.heap.size, 0, none⟩) (.int .u64 (((me189) : Nat) : Int))), .fl (owC (.slice (some ⟨W91.heap.size, 0, none⟩) 1 1) ([y105])), .fl (owB (.slice (some ⟨W55.heap.size, 0, none⟩) N82 N82) ((List.set x86 (Int.toNat y94) true))), .fl (owX 57 (some ⟨(W41.heap.size + 1), 0, none⟩) ((.slice (some ⟨W41.heap.size, 0, none⟩) N48 N48))), .fl (owM (.slice (some ⟨W41.heap.size, 0, none⟩) N48 N48) (x192)), .fl (owI (.slice (some ⟨W7.heap.size, 0, none⟩) N17 N17) (y38)), .fl (owX 48 (some ⟨w.heap.size, 0, none⟩) (.slice (some ⟨b107, o108, none⟩) v1.length cap1))]) ∧ Hid (span_Least_L4 F (me189) rest x192 = some o186)) (fun _ _ => False) ?hI_q217 ?hIx_q217 ⟨x85, HD, Lib.hid (NC.refl _), HOA, by rw [HML188.out]; exact HL4⟩ ?a1_q217 ?assign_q217 ?body_q217 ?done_q217 ?stop_q217)
                        case hI_q217 =>
                          rintro rest W W' ⟨x192, hd, hn, hh, hl⟩ hk
                          exact ⟨x192, Lib.hid (hk.below hd.out HDk193.out.size (Nat.le_refl _)), Lib.hid (hn.out.keepC hk (Nat.le_refl _)), Lib.hid (hh.out.keepC hk), hl⟩
                        case hIx_q217 => exact fun _ _ _ h _ => h
                        case assign_q217 =>
                          intro l x W K hK
                          gi_wp2
                          exact hK
                        case body_q217 =>
                          rintro l194 xn195 rest W196 hx ⟨x192, HD, HN, HOA, HL4⟩ _ _ _ hJ198 hJx199 _ hQ197
                          replace HL4 := Lib.hid ((span_Least_L4_c ..).symm.trans HL4.out)
                          have HNB := Lib.hid (NC.refl W196)
                          have fb200 := HP.bx HOA.out (List.Mem.tail _ (List.Mem.head _))
                          have fb201 := HP.bx HOA.out (List.Mem.tail _ (List.Mem.tail _ (List.Mem.tail _ (List.Mem.tail _ (List.Mem.head _)))))
                          obtain ⟨y204, hy203, hm⟩ := obind HL4.out
                          replace HL4 := Lib.hid hm; clear hm
                          obtain ⟨f205, hy203⟩ := st_some hy203; subst hy203
                          obtain ⟨g211, ea, f208, ⟨ux210, f209⟩, hp, hb⟩ := HP.setM (x := me189) (its1 := [_, _, _, _, _]) HOA.out f205
                          cases ea
                          obtain ⟨q0, q1⟩ := f205
                          try rw [← HP.len_M HOA.out (List.Mem.tail _ (List.Mem.tail _ (List.Mem.tail _ (List.Mem.tail _ (List.Mem.tail _ (List.Mem.head _))))))] at q1
                          try simp only [Int.toNat_natCast] at f208 f209 hp hb
                          have HP_ := Lib.hid hp; have HB_ := Lib.hid hb; clear hp hb
                          replace HNB := Lib.hid (HNB.out.trans (ncOf HP_.out))
                          gi_wp2_with fail
                          have hp := HP_.out; have hb := HB_.out; clear HP_ HB_
                          generalize hW : World.setCell W196 _ _ = W202 at *
                          clear hW
                          try clear f208 f209 q0 q1 fb200 fb201
                          replace HOA := Lib.hid (show HP W202 w.heap.size [.fl (owX 60 (some ⟨W181.heap.size, 0, none⟩) (.int .u64 (((me189) : Nat) : Int))), .fl (owX 60 (some ⟨W180.heap.size, 0, none⟩) (.int .u64 (((me189) : Nat) : Int))), .fl (owC (.slice (some ⟨W91.heap.size, 0, none⟩) 1 1) ([y105])), .fl (owB (.slice (some ⟨W55.heap.size, 0, none⟩) N82 N82) ((List.set x86 (Int.toNat y94) true))), .fl (owX 57 (some ⟨(W41.heap.size + 1), 0, none⟩) ((.slice (some ⟨W41.heap.size, 0, none⟩) N48 N48))), .fl (owM (.slice (some ⟨W41.heap.size, 0, none⟩) N48 N48) ((List.set x192 (Int.toNat (xn195 : Int)) me189))), .fl (owI (.slice (some ⟨W7.heap.size, 0, none⟩) N17 N17) (y38)), .fl (owX 48 (some ⟨w.heap.size, 0, none⟩) (.slice (some ⟨b107, o108, none⟩) v1.length cap1))] from hp); clear hp
                          replace HD := Lib.hid (HD.out.trans hb); clear hb
                          gi_wp2_with fail
                          exact ⟨HNB.out, HP.bx HOA.out (List.Mem.head _), hJ198 _ ⟨(List.set x192 (Int.toNat (xn195 : Int)) me189), HD, Lib.hid (HN.out.trans HNB.out), HOA, HL4⟩⟩
                        case done_q217 =>
                          rintro D215 W216 hD ⟨x192, HD, HN, HOA, HL4⟩ hK
                          have hov := Option.some.inj ((span_Least_L4_n ..).symm.trans HL4.out)
                          replace HMK := Lib.hid (HMK.out.push HN.out hD HDk193.out.size hK); clear hK hD HN
                          subst hov
                          have hm := HL3.out; try dsimp only at hm
                          replace HL3 := Lib.hid hm; clear hm
                          go_wp2_with fail
                          replace HOA := Lib.hid (HOA.out.sub (.cons _ (.cons _ (.cons _ (.cons₂ _ (.cons₂ _ (.cons₂ _ (.cons₂ _ (.cons₂ _ .slnil)))))))))
                          refine Handed.intro g3 (by omega) ?_
                          refine hJ3 _ _ _ ⟨by simp only [agreeB, and_self, true_and], (wrap64 (j88 + 1)), x192, (List.set x86 (Int.toNat y94) true), (wrap64 (x87 + y105.2.2)), rfl, rfl, HD, HOA, HMK, HL3⟩
                        case stop_q217 => exact fun _ _ _ _ h _ => h.elim
                      · replace HL3 := Lib.hid (ifT rfl HL3.out)
                        go_quiet (first | (go_at_call 35; exact quiet_left (HC134.out _)))
                        generalize hW : World.drewN W116 _ = W218
                        have hd : Dr W116 W218 := ⟨_, hW.symm⟩
                        clear hW
                        try clear f119 f120 f121 fb122 f128 f129 f130
                        replace HOA := Lib.hid (HOA.out.below (hd.below _))
                        replace HD := Lib.hid (HD.out.trans ((hd.below _).mono HD.out.size))
                        replace HMK := Lib.hid (HMK.out.nc (NC.of_below (hd.below _)))
                        clear hd
                        go_wp2_with fail
                        replace HOA := Lib.hid (HOA.out.sub (.cons _ (.cons₂ _ (.cons₂ _ (.cons₂ _ (.cons₂ _ (.cons₂ _ .slnil)))))))
                        refine Handed.intro g3 (by omega) ?_
                        refine hJ3 _ _ _ ⟨by simp only [agreeB, and_self, true_and], (wrap64 (j88 + 1)), x85, x86, x87, rfl, rfl, HD, HOA, HMK, HL3⟩
                    · replace HL3 := Lib.hid (ifF hc92 HL3.out)
                      have hc92d := decide_eq_false hc92
                      have HK93 := Lib.hid hc92
                      try rw [← HP.len_I HOA.out (List.Mem.tail _ (List.Mem.tail _ (List.Mem.tail _ (List.Mem.head _))))] at hc92
                      obtain rfl := Option.some.inj HL3.out
                      have hm := HM.out; try dsimp only at hm
                      replace HM := Lib.hid hm; clear hm
                      try go_wp2_with fail
                      try clear hc92 hc92d
                      have fb219 := HP.bx HOA.out (List.Mem.tail _ (List.Mem.head _))
                      obtain ⟨y220, hy221, hm⟩ := obind HM.out
                      replace HM := Lib.hid hm; clear hm
                      obtain ⟨b222, o223, ea224, _, f225, f226, f227⟩ := ReadsM.ix (HP.rd_M HOA.out (List.Mem.tail _ (List.Mem.tail _ (List.Mem.head _)))) hy221
                      cases ea224
                      try simp only [Nat.zero_add, Nat.add_zero, Int.toNat_natCast, Int.toNat_zero, Int.toNat_one] at f227
                      try rw [← HP.len_M HOA.out (List.Mem.tail _ (List.Mem.tail _ (List.Mem.head _)))] at f226
                      have HY229 := Lib.hid hy221; clear hy221
                      obtain ⟨y232, hy230, hm⟩ := obind HM.out
                      replace HM := Lib.hid hm; clear hm
                      have HC231 := Lib.hid (fun m => sBelow_ok (W91.drewN m)  hy230)
                      clear hy230
                      rcases Bool.eq_false_or_eq_true (y220 != y232) with hc233 | hc233
                      · replace HM := Lib.hid (ifT hc233 HM.out)
                        have HK234 := Lib.hid hc233
                        have hc233z := (natBne y220 y232).trans hc233
                        go_quiet (first | (go_at_call 24; exact quiet_left (HC231.out _)))
                        generalize hW : World.drewN W91 _ = W235
                        have hd : Dr W91 W235 := ⟨_, hW.symm⟩
                        clear hW
                        try clear fb219 f225 f226 f227 hc233
                        replace HOA := Lib.hid (HOA.out.below (hd.below _))
                        replace HD := Lib.hid (HD.out.trans ((hd.below _).mono HD.out.size))
                        replace HMK := Lib.hid (HMK.out.nc (NC.of_below (hd.below _)))
                        clear hd
                        obtain rfl := Option.some.inj HM.out
                        go_wp2_with fail
                        refine leave_marks (B := w.heap.size) _ _ HMK.out (fun W' => results_tmp3 rfl _ _ _) (fun W' hk => ⟨_, rfl, World.ownsRow_nil _ _ _ _, hk.below HD.out (Nat.le_refl _) (Nat.le_refl _)⟩)
                      · replace HM := Lib.hid (ifF (bF hc233) HM.out)
                        have HK234 := Lib.hid hc233
                        have hc233z := (natBne y220 y232).trans hc233
                        go_quiet (first | (go_at_call 24; exact quiet_left (HC231.out _)))
                        generalize hW : World.drewN W91 _ = W236
                        have hd : Dr W91 W236 := ⟨_, hW.symm⟩
                        clear hW
                        try clear fb219 f225 f226 f227 hc233
                        replace HOA := Lib.hid (HOA.out.below (hd.below _))
                        replace HD := Lib.hid (HD.out.trans ((hd.below _).mono HD.out.size))
                        replace HMK := Lib.hid (HMK.out.nc (NC.of_below (hd.below _)))
                        clear hd
                        obtain rfl := Option.some.inj HM.out
                        go_wp2_with fail
                        refine leave_marks (B := w.heap.size) _ _ HMK.out (fun W' => results_tmp3 rfl _ _ _) (fun W' hk => ⟨_, rfl, (HOA.out.keepC hk).get (List.Mem.head _), hk.below HD.out (Nat.le_refl _) (Nat.le_refl _)⟩)
  · try rw [errV_pos _ hz8]
    have HZ9 := Lib.hid hz8; clear hz8
    replace HM := Lib.hid (ifT (bne_iff_ne.2 HZ9.out) HM.out)
    obtain rfl := Option.some.inj HM.out
    go_wp2_with fail
    refine leave_marks (B := w.heap.size) _ _ HMK.out (fun W' => results_tmp3 rfl _ _ _) (fun W' hk => ⟨_, (by first | (rw [errV_pos _ HZ9.out]; rfl) | rw [errV_pos _ HZ9.out]), World.ownsRow_nil _ _ _ _, hk.below HD.out (Nat.le_refl _) (Nat.le_refl _)⟩)
end Go.Proofs.Ytfabhdadckohdaa
set_option linter.all false
set_option maxRecDepth 100000
namespace Go.Proofs.Ytfabhdadckohdaa
open Go.RowKit
end Go.Proofs.Ytfabhdadckohdaa
set_option linter.all false
set_option maxRecDepth 100000
namespace Go.Proofs.Ytfabhdadckohdaa
open Go.RowKit
end Go.Proofs.Ytfabhdadckohdaa
