import Derived.Test.YtccdnokddkpmgaaGR
import Derived.Test.YtccdnokddkpmgaaCost
set_option linter.all false
set_option maxRecDepth 100000
namespace Go.Proofs.Ytccdnokddkpmgaa
open Go.RowKit
def span_Check_L1 (F : Nat) (v0 : Int) (v1 : List (Int × Int × Int)) : Nat → (Int) → Option ((Unit) ⊕ (Int))
  | 0, _ => none
  | g+1, j => if j < ((v1).length : Int) then (ix v1 j).bind fun y => (((core_All F ([y.1, y.2.1]) (0) ((wrap64 (v0 - 1)))).bind fun y3 => if y3 = true then (core_Within F (y.2.2) (0) (20)).bind fun y4 => if y4 = true then some false else some true else some true).bind fun b2 => if b2 = true then some (.inr (1)) else (if (y.1 == y.2.1) = true then some (.inr (3)) else span_Check_L1 F v0 v1 g (wrap64 (j + 1)))) else some (.inl ())
theorem span_Check_L1_0 (F : Nat) (v0 : Int) (v1 : List (Int × Int × Int)) (j : Int) : span_Check_L1 F v0 v1 0 j = none := by rw [span_Check_L1]
theorem span_Check_L1_s (F g : Nat) (v0 : Int) (v1 : List (Int × Int × Int)) (j : Int) : span_Check_L1 F v0 v1 (g+1) j = (if j < ((v1).length : Int) then (ix v1 j).bind fun y => (((core_All F ([y.1, y.2.1]) (0) ((wrap64 (v0 - 1)))).bind fun y3 => if y3 = true then (core_Within F (y.2.2) (0) (20)).bind fun y4 => if y4 = true then some false else some true else some true).bind fun b2 => if b2 = true then some (.inr (1)) else (if (y.1 == y.2.1) = true then some (.inr (3)) else span_Check_L1 F v0 v1 g (wrap64 (j + 1)))) else some (.inl ())) := by rw [span_Check_L1]
def span_Check (F : Nat) (v0 : Int) (v1 : List (Int × Int × Int)) : Option (Int) := ((core_Within F (v0) (1) (8)).bind fun y1 => if y1 = true then (if 24 < ((v1).length : Int) then some (4) else (span_Check_L1 F (v0) (v1) F (0)).bind fun o5 => match o5 with | .inr r => some (r) | .inl o5 => some (0)) else some (1))
set_option maxRecDepth 100000 in
set_option maxHeartbeats 4000000 in
theorem span_Check_ok {F : Nat} {v0 : Int} {v1 : List (Int × Int × Int)} {A1 : Option Addr} {r : Int} (w : World) (cap1 : Nat) (hr1 : ReadsC w w.heap.size A1 v1) (h : span_Check F v0 v1 = some r) :
    Calls Try.prog 17 #[.int .i64 v0, .slice A1 v1.length cap1] w fun e w' => e = .returned (errV 58 r) ∧ Below w.heap.size w w' := by
  have HR1 := Lib.hid hr1; clear hr1
  have HD := Lib.hid (Below.refl w.heap.size w)
  have HOA := Lib.hid (HP.nil (W := w) (B := w.heap.size))
  unfold span_Check at h
  have HM := Lib.hid h; clear h
  go_enter Try.func17, Try.ntmps17
  obtain ⟨y3, hy1, hm⟩ := obind HM.out
  replace HM := Lib.hid hm; clear hm
  have HC2 := core_Within_ok w  hy1
  clear hy1
  replace HC2 := Lib.hid HC2
  cases y3
  · replace HM := Lib.hid (ifF Bool.false_ne_true HM.out)
    obtain rfl := Option.some.inj HM.out
    go_wp2_with fail
    refine HC2.out.mono ?_; rintro e w' ⟨rfl, rfl⟩
    go_wp2_with fail
    go_ret
    exact ⟨rfl, HD.out⟩
  · replace HM := Lib.hid (ifT rfl HM.out)
    by_cases hc4 : 24 < ((v1).length : Int)
    · replace HM := Lib.hid (ifT hc4 HM.out)
      have HK5 := Lib.hid hc4
      have hc4n := hc4; try norm_cast at hc4n
      obtain rfl := Option.some.inj HM.out
      go_wp2_with fail
      refine HC2.out.mono ?_; rintro e w' ⟨rfl, rfl⟩
      go_wp2_with fail
      try clear hc4 hc4n
      go_ret
      exact ⟨rfl, HD.out⟩
    · replace HM := Lib.hid (ifF hc4 HM.out)
      have hc4d := decide_eq_false hc4
      have HK5 := Lib.hid hc4
      have hc4n := hc4; try norm_cast at hc4n
      go_wp2_with fail
      refine HC2.out.mono ?_; rintro e w' ⟨rfl, rfl⟩
      go_wp2_with fail
      try clear hc4 hc4n hc4d
      obtain ⟨o6, ho, hm⟩ := obind HM.out
      replace HM := Lib.hid hm; have HL1 := Lib.hid ho; clear hm ho
      go_loopg [17] F (fun gg uj wr => ∃ (j7 : Int), uj = .int .i64 j7 ∧ Hid (Below w.heap.size w wr) ∧ Hid (span_Check_L1 F (v0) (v1) gg j7 = some o6))
      case atStart => exact ⟨0, rfl, (Lib.hid (Below.refl _ _)), HL1⟩
      case round =>
        obtain ⟨j7, rfl, HW1, HL1⟩ := hrel
        rename World => W8
        have hd := HW1.out
        replace HOA := Lib.hid (HOA.out.below hd)
        replace HD := Lib.hid (HD.out.trans (hd.mono HD.out.size))
        clear hd
        cases gk with
        | zero => exact absurd ((span_Check_L1_0 ..).symm.trans HL1.out) (by intro h; cases h)
        | succ g1 =>
          replace HL1 := Lib.hid ((span_Check_L1_s ..).symm.trans HL1.out)
          by_cases hc9 : j7 < ((v1).length : Int)
          · replace HL1 := Lib.hid (ifT hc9 HL1.out)
            have HK10 := Lib.hid hc9
            obtain ⟨y11, hy12, hm⟩ := obind HL1.out
            replace HL1 := Lib.hid hm; clear hm
            obtain ⟨b13, o14, ea15, _, f16, f17, f18, f19, f20⟩ := ReadsC.ix (rdC HD.out HR1.out) hy12
            cases ea15
            try simp only [Nat.zero_add, Nat.add_zero, Int.toNat_natCast, Int.toNat_zero, Int.toNat_one] at f18 f19 f20
            have HY21 := Lib.hid hy12; clear hy12
            go_upto_region 8 with (fail)
            have hd : Below W8.heap.size W8 (W8.alloc (.cells #[Value.int .i64 y11.1, Value.int .i64 y11.2.1, Value.int .i64 y11.2.2] 37)) := (Below.refl _ _).alloc (Nat.le_refl _) _
            have ho := boxRC W8 y11
            generalize hW : World.alloc W8 _ = W22 at *
            clear hW
            try clear hc9 f16 f17 f18 f19 f20
            replace HOA := Lib.hid (HOA.out.call hd HD.out.size ho); clear ho
            replace HD := Lib.hid (HD.out.trans (hd.mono HD.out.size))
            replace HW1 := Lib.hid (HW1.out.trans (hd.mono HW1.out.size))
            clear hd
            obtain ⟨b25, hb, hm⟩ := obind HL1.out
            replace HL1 := Lib.hid hm; have HB26 := Lib.hid hb; clear hm hb
            obtain ⟨f27, f28, f29⟩ := boxC (HP.rd_C HOA.out (List.Mem.head _))
            have hd : Below W22.heap.size W22 (World.alloc W22 (.cells #[Value.int .i64 (y11.1), Value.int .i64 (y11.2.1)] 3)) := (Below.refl _ _).alloc (Nat.le_refl _) _
            have ho : (owI (.slice (some ⟨W22.heap.size, 0, none⟩) 2 2) [y11.1, y11.2.1]).ok (World.alloc W22 (.cells #[Value.int .i64 (y11.1), Value.int .i64 (y11.2.1)] 3)) W22.heap.size := litI_ok W22 [y11.1, y11.2.1] (by unfold maxLen; simp)
            replace HOA := Lib.hid (HOA.out.call hd HD.out.size ho); clear ho
            replace HD := Lib.hid (HD.out.trans (hd.mono HD.out.size))
            replace HW1 := Lib.hid (HW1.out.trans (hd.mono HW1.out.size))
            clear hd
            obtain ⟨y34, hy32, hm⟩ := obind HB26.out
            replace HB26 := Lib.hid hm; clear hm
            have HC33 := core_All_ok (World.alloc W22 (.cells #[Value.int .i64 (y11.1), Value.int .i64 (y11.2.1)] 3)) 2 (HP.rd_I HOA.out (List.Mem.head _)) hy32
            clear hy32
            try rw [← HP.len_I HOA.out (List.Mem.head _)] at HC33
            replace HC33 := Lib.hid HC33
            go_wp2_with fail
            refine HC33.out.mono ?_; rintro e w' ⟨rfl, rfl⟩
            generalize hW : World.alloc W22 _ = W30 at *
            clear hW
            try clear f27 f28 f29
            cases y34
            · replace HB26 := Lib.hid (ifF Bool.false_ne_true HB26.out)
              obtain rfl := Option.some.inj HB26.out
              replace HL1 := Lib.hid (ifT (by first | rfl | trivial) HL1.out)
              obtain rfl := Option.some.inj HL1.out
              have hm := HM.out; try dsimp only at hm
              replace HM := Lib.hid hm; clear hm
              obtain rfl := Option.some.inj HM.out
              go_wp2_with fail
              go_ret
              exact ⟨rfl, HD.out⟩
            · replace HB26 := Lib.hid (ifT rfl HB26.out)
              obtain ⟨f35, f36, f37⟩ := boxC (HP.rd_C HOA.out (List.Mem.tail _ (List.Mem.head _)))
              obtain ⟨y40, hy38, hm⟩ := obind HB26.out
              replace HB26 := Lib.hid hm; clear hm
              have HC39 := core_Within_ok W30  hy38
              clear hy38
              replace HC39 := Lib.hid HC39
              cases y40
              · replace HB26 := Lib.hid (ifF Bool.false_ne_true HB26.out)
                obtain rfl := Option.some.inj HB26.out
                replace HL1 := Lib.hid (ifT (by first | rfl | trivial) HL1.out)
                obtain rfl := Option.some.inj HL1.out
                have hm := HM.out; try dsimp only at hm
                replace HM := Lib.hid hm; clear hm
                obtain rfl := Option.some.inj HM.out
                go_wp2_with fail
                refine HC39.out.mono ?_; rintro e w' ⟨rfl, rfl⟩
                go_wp2_with fail
                try clear f35 f36 f37
                go_ret
                exact ⟨rfl, HD.out⟩
              · replace HB26 := Lib.hid (ifT rfl HB26.out)
                obtain rfl := Option.some.inj HB26.out
                replace HL1 := Lib.hid (ifF (by first | exact Bool.false_ne_true | exact not_false) HL1.out)
                rcases Bool.eq_false_or_eq_true (y11.1 == y11.2.1) with hc41 | hc41
                · replace HL1 := Lib.hid (ifT hc41 HL1.out)
                  have HK42 := Lib.hid hc41
                  obtain rfl := Option.some.inj HL1.out
                  have hm := HM.out; try dsimp only at hm
                  replace HM := Lib.hid hm; clear hm
                  obtain rfl := Option.some.inj HM.out
                  go_wp2_with fail
                  refine HC39.out.mono ?_; rintro e w' ⟨rfl, rfl⟩
                  go_wp2_with fail
                  try clear f35 f36 f37 hc41
                  go_ret
                  exact ⟨rfl, HD.out⟩
                · replace HL1 := Lib.hid (ifF (bF hc41) HL1.out)
                  have HK42 := Lib.hid hc41
                  go_wp2_with fail
                  refine HC39.out.mono ?_; rintro e w' ⟨rfl, rfl⟩
                  go_wp2_with fail
                  try clear f35 f36 f37 hc41
                  go_roundg g1
                  case measure => omega
                  case rel => exact ⟨(wrap64 (j7 + 1)), rfl, HW1, HL1⟩
          · replace HL1 := Lib.hid (ifF hc9 HL1.out)
            have hc9d := decide_eq_false hc9
            have HK10 := Lib.hid hc9
            obtain rfl := Option.some.inj HL1.out
            have hm := HM.out; try dsimp only at hm
            replace HM := Lib.hid hm; clear hm
            obtain rfl := Option.some.inj HM.out
            go_wp2_with fail
            try clear hc9 hc9d
            go_ret
            exact ⟨rfl, HD.out⟩
end Go.Proofs.Ytccdnokddkpmgaa
