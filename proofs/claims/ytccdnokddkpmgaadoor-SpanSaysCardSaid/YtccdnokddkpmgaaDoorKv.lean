import Derived.Test.YtccdnokddkpmgaaDoorP4
import Derived.Test.YtccdnokddkpmgaaDoorBSt
import Derived.Test.YtccdnokddkpmgaaDoorGF
import Derived.Test.YtccdnokddkpmgaaDoorAst
import Derived.Test.YtccdnokddkpmgaaDoorBxR
import Derived.Test.YtccdnokddkpmgaaDoorGB
import Derived.Test.YtccdnokddkpmgaaDoorGR
import Derived.Test.YtccdnokddkpmgaaDoorErr
import Derived.Test.YtccdnokddkpmgaaDoorKt
set_option linter.all false
set_option maxRecDepth 100000
namespace Go.Proofs.YtccdnokddkpmgaaDoor
open Go.RowKit
def R3_Cheap_L1 (F : Nat) (v0 : List (Int × Int × Int)) (v1 : Int) (v2 : Int) : Nat → (List (Int × Int)) → (Int) → Option (List (Int × Int) × Int)
  | 0, _, _ => none
  | g+1, v4, v5 => if v5 < ((v0).length : Int) then (((ix v0 v5).bind fun y2 => if y2.2.2 < v1 then some true else (ix v0 v5).bind fun y3 => if (y3.2.2 == v1) = true then if v5 < v2 then some true else some false else some false).bind fun b1 => if b1 = true then (ix v0 v5).bind fun y5 => (ix v0 v5).bind fun y6 => (app v4 (y5.1, y6.2.1)).bind fun y4 => R3_Cheap_L1 F v0 v1 v2 g (y4) ((wrap64 (v5 + 1))) else R3_Cheap_L1 F v0 v1 v2 g (v4) ((wrap64 (v5 + 1)))) else some (v4, v5)
theorem R3_Cheap_L1_0 (F : Nat) (v0 : List (Int × Int × Int)) (v1 : Int) (v2 : Int) (v4 : List (Int × Int)) (v5 : Int) : R3_Cheap_L1 F v0 v1 v2 0 v4 v5 = none := by rw [R3_Cheap_L1]
theorem R3_Cheap_L1_s (F g : Nat) (v0 : List (Int × Int × Int)) (v1 : Int) (v2 : Int) (v4 : List (Int × Int)) (v5 : Int) : R3_Cheap_L1 F v0 v1 v2 (g+1) v4 v5 = (if v5 < ((v0).length : Int) then (((ix v0 v5).bind fun y2 => if y2.2.2 < v1 then some true else (ix v0 v5).bind fun y3 => if (y3.2.2 == v1) = true then if v5 < v2 then some true else some false else some false).bind fun b1 => if b1 = true then (ix v0 v5).bind fun y5 => (ix v0 v5).bind fun y6 => (app v4 (y5.1, y6.2.1)).bind fun y4 => R3_Cheap_L1 F v0 v1 v2 g (y4) ((wrap64 (v5 + 1))) else R3_Cheap_L1 F v0 v1 v2 g (v4) ((wrap64 (v5 + 1)))) else some (v4, v5)) := by rw [R3_Cheap_L1]
def R3_Cheap (F : Nat) (v0 : List (Int × Int × Int)) (v1 : Int) (v2 : Int) : Option (List (Int × Int)) := (R3_Cheap_L1 F (v0) (v1) (v2) F ([]) (0)).bind fun o7 => some (o7.1)
set_option maxRecDepth 100000 in
set_option maxHeartbeats 4000000 in
theorem R3_Cheap_ok {F : Nat} {v0 : List (Int × Int × Int)} {A0 : Option Addr} {v1 : Int} {v2 : Int} {r : List (Int × Int)} (w : World) (cap0 : Nat) (hr0 : ReadsC w w.heap.size A0 v0) (h : R3_Cheap F v0 v1 v2 = some r) :
    Calls Tryd.prog 18 #[.slice A0 v0.length cap0, .int .i64 v1, .int .i64 v2] w (PostG (fun v => v) (fun v => owL v r) w.heap.size w) := by
  have HR0 := Lib.hid hr0; clear hr0
  have HD := Lib.hid (Below.refl w.heap.size w)
  have HOA := Lib.hid (HP.nil (W := w) (B := w.heap.size))
  unfold R3_Cheap at h
  have HM := Lib.hid h; clear h
  go_enter Tryd.func18, Tryd.ntmps18
  replace HOA := Lib.hid (show HP _ _ (.fl (owL (.slice none 0 0) ([])) :: _) from HOA.out.pushNil _ _)
  go_wp2_with fail
  obtain ⟨o2, ho, hm⟩ := obind HM.out
  replace HM := Lib.hid hm; have HL1 := Lib.hid ho; clear hm ho
  go_loopg [7, 8] F (fun gg ux5 ux6 wr => ∃ (x3 : List (Int × Int)) (x4 : Int) (V7 : Value), V7 = ux5 ∧ ux6 = .int .i64 x4 ∧ Hid (Below w.heap.size w wr) ∧ Hid (HP wr w.heap.size [.fl (owL V7 (x3))]) ∧ Hid (R3_Cheap_L1 F (v0) (v1) (v2) gg x3 x4 = some o2))
  case atStart => exact ⟨[], 0, (.slice none 0 0), rfl, rfl, HD, HOA, HL1⟩
  case round =>
    obtain ⟨x3, x4, V7, rfl, rfl, HD, HOA, HL1⟩ := hrel
    rename World => W8
    cases gk with
    | zero => exact absurd ((R3_Cheap_L1_0 ..).symm.trans HL1.out) (by intro h; cases h)
    | succ g1 =>
      replace HL1 := Lib.hid ((R3_Cheap_L1_s ..).symm.trans HL1.out)
      by_cases hc9 : x4 < ((v0).length : Int)
      · replace HL1 := Lib.hid (ifT hc9 HL1.out)
        have HK10 := Lib.hid hc9
        obtain ⟨b11, hb, hm⟩ := obind HL1.out
        replace HL1 := Lib.hid hm; have HB12 := Lib.hid hb; clear hm hb
        obtain ⟨y13, hy14, hm⟩ := obind HB12.out
        replace HB12 := Lib.hid hm; clear hm
        obtain ⟨b15, o16, ea17, _, f18, f19, f20, f21, f22⟩ := ReadsC.ix (rdC HD.out HR0.out) hy14
        cases ea17
        try simp only [Nat.zero_add, Nat.add_zero, Int.toNat_natCast, Int.toNat_zero, Int.toNat_one] at f20 f21 f22
        have HY23 := Lib.hid hy14; clear hy14
        by_cases hc24 : y13.2.2 < v1
        · replace HB12 := Lib.hid (ifT hc24 HB12.out)
          have HK25 := Lib.hid hc24
          obtain rfl := Option.some.inj HB12.out
          replace HL1 := Lib.hid (ifT (by first | rfl | trivial) HL1.out)
          try go_wp2_with fail
          try clear hc9 f18 f19 f20 f21 f22 hc24
          obtain ⟨y26, hy27, hm⟩ := obind HL1.out
          replace HL1 := Lib.hid hm; clear hm
          obtain ⟨b28, o29, ea30, _, f31, f32, f33, f34, f35⟩ := ReadsC.ix (rdC HD.out HR0.out) hy27
          cases ea30
          try simp only [Nat.zero_add, Nat.add_zero, Int.toNat_natCast, Int.toNat_zero, Int.toNat_one] at f33 f34 f35
          have HY36 := Lib.hid hy27; clear hy27
          obtain ⟨y37, hy38, hm⟩ := obind HL1.out
          replace HL1 := Lib.hid hm; clear hm
          obtain rfl := Option.some.inj (HY36.out.symm.trans hy38)
          clear hy38
          obtain ⟨y39, hy40, hm⟩ := obind HL1.out
          replace HL1 := Lib.hid hm; clear hm
          obtain ⟨f41, hy40⟩ := app_some hy40; subst hy40
          have HF44 := Lib.hid f41; clear f41
          have hd1 := Dr.one W8
          replace HOA := Lib.hid (HOA.out.dr hd1)
          replace HD := Lib.hid (HD.out.trans (hd1.below _))
          clear hd1
          go_region_law (first | (refine hp_appL_st (World.drew W8) (.tmp 36) (.tmp 48) 47 Tryd.underlying47 rfl rfl (L1 := []) HOA.out (by simp [Act.eval, Act.put]) (by simp [Act.eval, Act.put]) HF44.out HD.out.size ?_; intro g45 cap46 W43 hoa hd; have HOA2 := Lib.hid hoa; have HD2 := Lib.hid hd; clear hoa hd))
          all_goals
            try clear f31 f32 f33 f34 f35
            replace HOA := Lib.hid (show HP W43 w.heap.size [.fl (owL (.slice (some ⟨g45, 0, none⟩) ((x3).length + 1) cap46) ((x3 ++ [(y26.1, y26.2.1)])))] from by have q := HOA2.out; (try simp only [i64w] at q); exact q); clear HOA2
            replace HD := Lib.hid (HD.out.trans HD2.out); clear HD2
            go_wp2_with fail
            go_roundg g1
            case measure => omega
            case rel => exact ⟨(x3 ++ [(y26.1, y26.2.1)]), (wrap64 (x4 + 1)), (.slice (some ⟨g45, 0, none⟩) ((x3).length + 1) cap46), rfl, rfl, HD, HOA, HL1⟩
        · replace HB12 := Lib.hid (ifF hc24 HB12.out)
          have hc24d := decide_eq_false hc24
          have HK25 := Lib.hid hc24
          obtain ⟨y47, hy48, hm⟩ := obind HB12.out
          replace HB12 := Lib.hid hm; clear hm
          obtain rfl := Option.some.inj (HY23.out.symm.trans hy48)
          clear hy48
          rcases Bool.eq_false_or_eq_true (y13.2.2 == v1) with hc49 | hc49
          · replace HB12 := Lib.hid (ifT hc49 HB12.out)
            have HK50 := Lib.hid hc49
            by_cases hc51 : x4 < v2
            · replace HB12 := Lib.hid (ifT hc51 HB12.out)
              have HK52 := Lib.hid hc51
              obtain rfl := Option.some.inj HB12.out
              replace HL1 := Lib.hid (ifT (by first | rfl | trivial) HL1.out)
              try go_wp2_with fail
              try clear hc9 f18 f19 f20 f21 f22 hc24 hc24d hc49 hc51
              obtain ⟨y53, hy54, hm⟩ := obind HL1.out
              replace HL1 := Lib.hid hm; clear hm
              obtain ⟨b55, o56, ea57, _, f58, f59, f60, f61, f62⟩ := ReadsC.ix (rdC HD.out HR0.out) hy54
              cases ea57
              try simp only [Nat.zero_add, Nat.add_zero, Int.toNat_natCast, Int.toNat_zero, Int.toNat_one] at f60 f61 f62
              have HY63 := Lib.hid hy54; clear hy54
              obtain ⟨y64, hy65, hm⟩ := obind HL1.out
              replace HL1 := Lib.hid hm; clear hm
              obtain rfl := Option.some.inj (HY63.out.symm.trans hy65)
              clear hy65
              obtain ⟨y66, hy67, hm⟩ := obind HL1.out
              replace HL1 := Lib.hid hm; clear hm
              obtain ⟨f68, hy67⟩ := app_some hy67; subst hy67
              have HF71 := Lib.hid f68; clear f68
              have hd1 := Dr.one W8
              replace HOA := Lib.hid (HOA.out.dr hd1)
              replace HD := Lib.hid (HD.out.trans (hd1.below _))
              clear hd1
              go_region_law (first | (refine hp_appL_st (World.drew W8) (.tmp 36) (.tmp 48) 47 Tryd.underlying47 rfl rfl (L1 := []) HOA.out (by simp [Act.eval, Act.put]) (by simp [Act.eval, Act.put]) HF71.out HD.out.size ?_; intro g72 cap73 W70 hoa hd; have HOA2 := Lib.hid hoa; have HD2 := Lib.hid hd; clear hoa hd))
              all_goals
                try clear f58 f59 f60 f61 f62
                replace HOA := Lib.hid (show HP W70 w.heap.size [.fl (owL (.slice (some ⟨g72, 0, none⟩) ((x3).length + 1) cap73) ((x3 ++ [(y53.1, y53.2.1)])))] from by have q := HOA2.out; (try simp only [i64w] at q); exact q); clear HOA2
                replace HD := Lib.hid (HD.out.trans HD2.out); clear HD2
                go_wp2_with fail
                go_roundg g1
                case measure => omega
                case rel => exact ⟨(x3 ++ [(y53.1, y53.2.1)]), (wrap64 (x4 + 1)), (.slice (some ⟨g72, 0, none⟩) ((x3).length + 1) cap73), rfl, rfl, HD, HOA, HL1⟩
            · replace HB12 := Lib.hid (ifF hc51 HB12.out)
              have hc51d := decide_eq_false hc51
              have HK52 := Lib.hid hc51
              obtain rfl := Option.some.inj HB12.out
              replace HL1 := Lib.hid (ifF (by first | exact Bool.false_ne_true | exact not_false) HL1.out)
              go_wp2_with fail
              try clear hc9 f18 f19 f20 f21 f22 hc24 hc24d hc49 hc51 hc51d
              go_roundg g1
              case measure => omega
              case rel => exact ⟨x3, (wrap64 (x4 + 1)), V7, rfl, rfl, HD, HOA, HL1⟩
          · replace HB12 := Lib.hid (ifF (bF hc49) HB12.out)
            have HK50 := Lib.hid hc49
            obtain rfl := Option.some.inj HB12.out
            replace HL1 := Lib.hid (ifF (by first | exact Bool.false_ne_true | exact not_false) HL1.out)
            go_wp2_with fail
            try clear hc9 f18 f19 f20 f21 f22 hc24 hc24d hc49
            go_roundg g1
            case measure => omega
            case rel => exact ⟨x3, (wrap64 (x4 + 1)), V7, rfl, rfl, HD, HOA, HL1⟩
      · replace HL1 := Lib.hid (ifF hc9 HL1.out)
        have hc9d := decide_eq_false hc9
        have HK10 := Lib.hid hc9
        obtain rfl := Option.some.inj HL1.out
        have hm := HM.out; try dsimp only at hm
        replace HM := Lib.hid hm; clear hm
        obtain rfl := Option.some.inj HM.out
        go_wp2_with fail
        try clear hc9 hc9d
        go_ret
        exact ⟨_, rfl, HOA.out.get (List.Mem.head _), HD.out⟩
def R3_Span_L1 (F : Nat) (v0 : Int) (v1 : List (Int × Int × Int)) : Nat → (List Bool) → (Int) → (Int) → (Int) → Option (List Bool × Int × Int × Int)
  | 0, _, _, _, _ => none
  | g+1, v5, v6, v7, v8 => if v8 < ((v1).length : Int) then (ix v1 v8).bind fun y1 => (R3_Cheap F (v1) (y1.2.2) (v8)).bind fun y2 => (R1_Far F (v0) (y2) (true) ((-1))).bind fun y3 => ((ix v1 v8).bind fun y5 => (ix y3 y5.1).bind fun y6 => (ix v1 v8).bind fun y7 => (ix y6 y7.2.1).bind fun y8 => if y8 < 0 then some true else some false).bind fun b4 => (app v5 b4).bind fun y9 => (if b4 = true then (ix v1 v8).bind fun y10 => R3_Span_L1 F v0 v1 g (y9) ((wrap64 (v6 + y10.2.2))) ((wrap64 (v7 + 1))) ((wrap64 (v8 + 1))) else R3_Span_L1 F v0 v1 g (y9) (v6) (v7) ((wrap64 (v8 + 1)))) else some (v5, v6, v7, v8)
theorem R3_Span_L1_0 (F : Nat) (v0 : Int) (v1 : List (Int × Int × Int)) (v5 : List Bool) (v6 : Int) (v7 : Int) (v8 : Int) : R3_Span_L1 F v0 v1 0 v5 v6 v7 v8 = none := by rw [R3_Span_L1]
theorem R3_Span_L1_s (F g : Nat) (v0 : Int) (v1 : List (Int × Int × Int)) (v5 : List Bool) (v6 : Int) (v7 : Int) (v8 : Int) : R3_Span_L1 F v0 v1 (g+1) v5 v6 v7 v8 = (if v8 < ((v1).length : Int) then (ix v1 v8).bind fun y1 => (R3_Cheap F (v1) (y1.2.2) (v8)).bind fun y2 => (R1_Far F (v0) (y2) (true) ((-1))).bind fun y3 => ((ix v1 v8).bind fun y5 => (ix y3 y5.1).bind fun y6 => (ix v1 v8).bind fun y7 => (ix y6 y7.2.1).bind fun y8 => if y8 < 0 then some true else some false).bind fun b4 => (app v5 b4).bind fun y9 => (if b4 = true then (ix v1 v8).bind fun y10 => R3_Span_L1 F v0 v1 g (y9) ((wrap64 (v6 + y10.2.2))) ((wrap64 (v7 + 1))) ((wrap64 (v8 + 1))) else R3_Span_L1 F v0 v1 g (y9) (v6) (v7) ((wrap64 (v8 + 1)))) else some (v5, v6, v7, v8)) := by rw [R3_Span_L1]
def R3_Span (F : Nat) (v0 : Int) (v1 : List (Int × Int × Int)) : Option (List Bool × Int × Bool) := (R3_Span_L1 F (v0) (v1) F ([]) (0) (0) (0)).bind fun o11 => (if (o11.2.2.1 == (wrap64 (v0 - 1))) = true then some true else some false).bind fun b12 => some ((o11.1, o11.2.1, b12))
set_option maxRecDepth 100000 in
set_option maxHeartbeats 4000000 in
theorem R3_Span_ok {F : Nat} {v0 : Int} {v1 : List (Int × Int × Int)} {A1 : Option Addr} {r : List Bool × Int × Bool} (w : World) (cap1 : Nat) (hr1 : ReadsC w w.heap.size A1 v1) (h : R3_Span F v0 v1 = some r) :
    Calls Tryd.prog 7 #[.int .i64 v0, .slice A1 v1.length cap1] w (PostG (fun v => (.tuple #[v, (.int .i64 r.2.1), (.bool r.2.2)])) (fun v => owB v r.1) w.heap.size w) := by
  have HR1 := Lib.hid hr1; clear hr1
  have HD := Lib.hid (Below.refl w.heap.size w)
  have HOA := Lib.hid (HP.nil (W := w) (B := w.heap.size))
  unfold R3_Span at h
  have HM := Lib.hid h; clear h
  go_enter Tryd.func7, Tryd.ntmps7
  replace HOA := Lib.hid (show HP _ _ (.fl (owB (.slice none 0 0) ([])) :: _) from HOA.out.pushNil _ _)
  go_wp2_with fail
  obtain ⟨o2, ho, hm⟩ := obind HM.out
  replace HM := Lib.hid hm; have HL1 := Lib.hid ho; clear hm ho
  go_loopg [7, 8, 9, 10] F (fun gg ux7 ux8 ux9 ux10 wr => ∃ (x3 : List Bool) (x4 : Int) (x5 : Int) (x6 : Int) (V11 : Value), V11 = ux7 ∧ ux8 = .int .i64 x4 ∧ ux9 = .int .i64 x5 ∧ ux10 = .int .i64 x6 ∧ Hid (Below w.heap.size w wr) ∧ Hid (HP wr w.heap.size [.fl (owB V11 (x3))]) ∧ Hid (R3_Span_L1 F (v0) (v1) gg x3 x4 x5 x6 = some o2))
  case atStart => exact ⟨[], 0, 0, 0, (.slice none 0 0), rfl, rfl, rfl, rfl, HD, HOA, HL1⟩
  case round =>
    obtain ⟨x3, x4, x5, x6, V11, rfl, rfl, rfl, rfl, HD, HOA, HL1⟩ := hrel
    rename World => W12
    cases gk with
    | zero => exact absurd ((R3_Span_L1_0 ..).symm.trans HL1.out) (by intro h; cases h)
    | succ g1 =>
      replace HL1 := Lib.hid ((R3_Span_L1_s ..).symm.trans HL1.out)
      by_cases hc13 : x6 < ((v1).length : Int)
      · replace HL1 := Lib.hid (ifT hc13 HL1.out)
        have HK14 := Lib.hid hc13
        obtain ⟨y15, hy16, hm⟩ := obind HL1.out
        replace HL1 := Lib.hid hm; clear hm
        obtain ⟨b17, o18, ea19, _, f20, f21, f22, f23, f24⟩ := ReadsC.ix (rdC HD.out HR1.out) hy16
        cases ea19
        try simp only [Nat.zero_add, Nat.add_zero, Int.toNat_natCast, Int.toNat_zero, Int.toNat_one] at f22 f23 f24
        have HY25 := Lib.hid hy16; clear hy16
        obtain ⟨y28, hy26, hm⟩ := obind HL1.out
        replace HL1 := Lib.hid hm; clear hm
        have HC27 := R3_Cheap_ok W12 cap1 (rdC HD.out HR1.out) hy26
        clear hy26
        replace HC27 := Lib.hid HC27
        go_wp2_with fail
        refine HC27.out.mono ?_; rintro e W29 ⟨V30, rfl, ho, hd⟩
        try clear hc13 f20 f21 f22 f23 f24
        replace HOA := Lib.hid (HOA.out.call hd HD.out.size ho); clear ho
        replace HD := Lib.hid (HD.out.trans (hd.mono HD.out.size))
        clear hd
        obtain ⟨y34, hy32, hm⟩ := obind HL1.out
        replace HL1 := Lib.hid hm; clear hm
        obtain ⟨A35, cap36, he, _⟩ := HP.open_L HOA.out (List.Mem.head _)
        subst he
        have HC33 := R1_Far_ok W29 cap36 (HP.rd_L HOA.out (List.Mem.head _)) hy32
        clear hy32
        replace HC33 := Lib.hid HC33
        go_wp2_with fail
        refine HC33.out.mono ?_; rintro e W37 ⟨V38, rfl, ho, hd⟩
        replace HOA := Lib.hid (HOA.out.callR hd HD.out.size ho); clear ho
        replace HD := Lib.hid (HD.out.trans (hd.mono HD.out.size))
        clear hd
        try go_wp2_with fail
        obtain ⟨b40, hb, hm⟩ := obind HL1.out
        replace HL1 := Lib.hid hm; have HB41 := Lib.hid hb; clear hm hb
        obtain ⟨y42, hy43, hm⟩ := obind HB41.out
        replace HB41 := Lib.hid hm; clear hm
        obtain ⟨b44, o45, ea46, _, f47, f48, f49, f50, f51⟩ := ReadsC.ix (rdC HD.out HR1.out) hy43
        cases ea46
        try simp only [Nat.zero_add, Nat.add_zero, Int.toNat_natCast, Int.toNat_zero, Int.toNat_one] at f49 f50 f51
        have HY52 := Lib.hid hy43; clear hy43
        obtain ⟨A55, cap56, he, _⟩ := HP.open_R HOA.out (List.Mem.head _)
        subst he
        obtain ⟨y53, hy54, hm⟩ := obind HB41.out
        replace HB41 := Lib.hid hm; clear hm
        obtain ⟨b57, o58, A64, cap65, ea59, _, f60, f61, f62, hrr, hrc⟩ := ReadsR.ixc (HP.rd_R HOA.out (List.Mem.head _)) hy54
        cases ea59
        have HR66c := Lib.hid hrc; clear hrc
        try simp only [Nat.zero_add, Nat.add_zero, Int.toNat_natCast, Int.toNat_zero, Int.toNat_one] at f62
        have HR66 := Lib.hid hrr; clear hrr
        try rw [← HP.len_R HOA.out (List.Mem.head _)] at f61
        have HY67 := Lib.hid hy54; clear hy54
        obtain ⟨y68, hy69, hm⟩ := obind HB41.out
        replace HB41 := Lib.hid hm; clear hm
        obtain rfl := Option.some.inj (HY52.out.symm.trans hy69)
        clear hy69
        obtain ⟨y70, hy71, hm⟩ := obind HB41.out
        replace HB41 := Lib.hid hm; clear hm
        obtain ⟨b72, o73, ea74, _, f75, f76, f77⟩ := ReadsI.ix HR66.out hy71
        cases ea74
        try simp only [Nat.zero_add, Nat.add_zero, Int.toNat_natCast, Int.toNat_zero, Int.toNat_one] at f77
        have HY79 := Lib.hid hy71; clear hy71
        by_cases hc80 : y70 < 0
        · replace HB41 := Lib.hid (ifT hc80 HB41.out)
          have HK81 := Lib.hid hc80
          obtain rfl := Option.some.inj HB41.out
          go_quiet (fail)
          generalize hW : World.drewN W37 _ = W82
          have hd : Dr W37 W82 := ⟨_, hW.symm⟩
          clear hW
          try clear f47 f48 f49 f50 f51 f60 f61 f62 f75 f76 f77 hc80
          replace HOA := Lib.hid (HOA.out.below (hd.below _))
          replace HR66 := Lib.hid (rdI (hd.below _) HR66.out)
          replace HD := Lib.hid (HD.out.trans ((hd.below _).mono HD.out.size))
          clear hd
          obtain ⟨y83, hy84, hm⟩ := obind HL1.out
          replace HL1 := Lib.hid hm; clear hm
          obtain ⟨f85, hy84⟩ := app_some hy84; subst hy84
          have HF88 := Lib.hid f85; clear f85
          go_upto_region 10 with (at_builtin; refine hp_appB _ (.tmp 45) (.tmp 47) 28 Tryd.underlying28 rfl rfl (L1 := [_, _]) HOA.out rfl rfl HF88.out HD.out.size ?_; intro V86 W87 hoa hd)
          replace HOA := Lib.hid (show HP W87 w.heap.size [.ro (.slice (some ⟨b57, o58, none⟩) (y34).length cap56) (y34), .fl (owL (.slice A35 (y28).length cap36) (y28)), .fl (owB V86 ((x3 ++ [true])))] from hoa); clear hoa
          replace HD := Lib.hid (HD.out.trans hd); clear hd
          replace HL1 := Lib.hid (ifT (by first | rfl | trivial) HL1.out)
          obtain ⟨y89, hy90, hm⟩ := obind HL1.out
          replace HL1 := Lib.hid hm; clear hm
          obtain ⟨b91, o92, ea93, _, f94, f95, f96, f97, f98⟩ := ReadsC.ix (rdC HD.out HR1.out) hy90
          cases ea93
          try simp only [Nat.zero_add, Nat.add_zero, Int.toNat_natCast, Int.toNat_zero, Int.toNat_one] at f96 f97 f98
          have HY99 := Lib.hid hy90; clear hy90
          go_wp2_with fail
          try clear f94 f95 f96 f97 f98
          replace HOA := Lib.hid (HOA.out.sub (.cons _ (.cons _ (.cons₂ _ .slnil))))
          go_roundg g1
          case measure => omega
          case rel => exact ⟨(x3 ++ [true]), (wrap64 (x4 + y89.2.2)), (wrap64 (x5 + 1)), (wrap64 (x6 + 1)), V86, rfl, rfl, rfl, rfl, HD, HOA, HL1⟩
        · replace HB41 := Lib.hid (ifF hc80 HB41.out)
          have hc80d := decide_eq_false hc80
          have HK81 := Lib.hid hc80
          obtain rfl := Option.some.inj HB41.out
          go_quiet (fail)
          generalize hW : World.drewN W37 _ = W100
          have hd : Dr W37 W100 := ⟨_, hW.symm⟩
          clear hW
          try clear f47 f48 f49 f50 f51 f60 f61 f62 f75 f76 f77 hc80 hc80d
          replace HOA := Lib.hid (HOA.out.below (hd.below _))
          replace HR66 := Lib.hid (rdI (hd.below _) HR66.out)
          replace HD := Lib.hid (HD.out.trans ((hd.below _).mono HD.out.size))
          clear hd
          obtain ⟨y101, hy102, hm⟩ := obind HL1.out
          replace HL1 := Lib.hid hm; clear hm
          obtain ⟨f103, hy102⟩ := app_some hy102; subst hy102
          have HF106 := Lib.hid f103; clear f103
          go_upto_region 10 with (at_builtin; refine hp_appB _ (.tmp 45) (.tmp 47) 28 Tryd.underlying28 rfl rfl (L1 := [_, _]) HOA.out rfl rfl HF106.out HD.out.size ?_; intro V104 W105 hoa hd)
          replace HOA := Lib.hid (show HP W105 w.heap.size [.ro (.slice (some ⟨b57, o58, none⟩) (y34).length cap56) (y34), .fl (owL (.slice A35 (y28).length cap36) (y28)), .fl (owB V104 ((x3 ++ [false])))] from hoa); clear hoa
          replace HD := Lib.hid (HD.out.trans hd); clear hd
          replace HL1 := Lib.hid (ifF (by first | exact Bool.false_ne_true | exact not_false) HL1.out)
          go_wp2_with fail
          replace HOA := Lib.hid (HOA.out.sub (.cons _ (.cons _ (.cons₂ _ .slnil))))
          go_roundg g1
          case measure => omega
          case rel => exact ⟨(x3 ++ [false]), x4, x5, (wrap64 (x6 + 1)), V104, rfl, rfl, rfl, rfl, HD, HOA, HL1⟩
      · replace HL1 := Lib.hid (ifF hc13 HL1.out)
        have hc13d := decide_eq_false hc13
        have HK14 := Lib.hid hc13
        obtain rfl := Option.some.inj HL1.out
        have hm := HM.out; try dsimp only at hm
        replace HM := Lib.hid hm; clear hm
        obtain ⟨b107, hb, hm⟩ := obind HM.out
        replace HM := Lib.hid hm; have HB108 := Lib.hid hb; clear hm hb
        rcases Bool.eq_false_or_eq_true (x5 == (wrap64 (v0 - 1))) with hc109 | hc109
        · replace HB108 := Lib.hid (ifT hc109 HB108.out)
          have HK110 := Lib.hid hc109
          obtain rfl := Option.some.inj HB108.out
          obtain rfl := Option.some.inj HM.out
          go_wp2_with fail
          try clear hc13 hc13d hc109
          go_ret3
          exact ⟨_, rfl, HOA.out.get (List.Mem.head _), HD.out⟩
        · replace HB108 := Lib.hid (ifF (bF hc109) HB108.out)
          have HK110 := Lib.hid hc109
          obtain rfl := Option.some.inj HB108.out
          obtain rfl := Option.some.inj HM.out
          go_wp2_with fail
          try clear hc13 hc13d hc109
          go_ret3
          exact ⟨_, rfl, HOA.out.get (List.Mem.head _), HD.out⟩
def R3_Neck_L1 (F : Nat) (v0 : Int) (v1 : List (Int × Int × Int)) (v2 : Int) (v3 : Int) : Nat → (Int) → Option ((Int) ⊕ (Int))
  | 0, _ => none
  | g+1, v5 => if v5 ≤ 20 then ((R3_Cheap F (v1) (v5) (((v1).length : Int))).bind fun y1 => (R1_Far F (v0) (y1) (true) ((-1))).bind fun y2 => (ix y2 v2).bind fun y3 => (ix y3 v3).bind fun y4 => if 0 ≤ y4 then some (.inr (v5)) else R3_Neck_L1 F v0 v1 v2 v3 g ((wrap64 (v5 + 1)))) else some (.inl (v5))
theorem R3_Neck_L1_0 (F : Nat) (v0 : Int) (v1 : List (Int × Int × Int)) (v2 : Int) (v3 : Int) (v5 : Int) : R3_Neck_L1 F v0 v1 v2 v3 0 v5 = none := by rw [R3_Neck_L1]
theorem R3_Neck_L1_s (F g : Nat) (v0 : Int) (v1 : List (Int × Int × Int)) (v2 : Int) (v3 : Int) (v5 : Int) : R3_Neck_L1 F v0 v1 v2 v3 (g+1) v5 = (if v5 ≤ 20 then ((R3_Cheap F (v1) (v5) (((v1).length : Int))).bind fun y1 => (R1_Far F (v0) (y1) (true) ((-1))).bind fun y2 => (ix y2 v2).bind fun y3 => (ix y3 v3).bind fun y4 => if 0 ≤ y4 then some (.inr (v5)) else R3_Neck_L1 F v0 v1 v2 v3 g ((wrap64 (v5 + 1)))) else some (.inl (v5))) := by rw [R3_Neck_L1]
def R3_Neck (F : Nat) (v0 : Int) (v1 : List (Int × Int × Int)) (v2 : Int) (v3 : Int) : Option (Int) := (R3_Neck_L1 F (v0) (v1) (v2) (v3) F (0)).bind fun o5 => match o5 with | .inr r => some (r) | .inl o5 => some ((-1))
set_option maxRecDepth 100000 in
set_option maxHeartbeats 4000000 in
theorem R3_Neck_ok {F : Nat} {v0 : Int} {v1 : List (Int × Int × Int)} {A1 : Option Addr} {v2 : Int} {v3 : Int} {r : Int} (w : World) (cap1 : Nat) (hr1 : ReadsC w w.heap.size A1 v1) (h : R3_Neck F v0 v1 v2 v3 = some r) :
    Calls Tryd.prog 11 #[.int .i64 v0, .slice A1 v1.length cap1, .int .i64 v2, .int .i64 v3] w fun e w' => e = .returned (.int .i64 r) ∧ Below w.heap.size w w' := by
  have HR1 := Lib.hid hr1; clear hr1
  have HD := Lib.hid (Below.refl w.heap.size w)
  have HOA := Lib.hid (HP.nil (W := w) (B := w.heap.size))
  unfold R3_Neck at h
  have HM := Lib.hid h; clear h
  go_enter Tryd.func11, Tryd.ntmps11
  go_wp2_with fail
  obtain ⟨o1, ho, hm⟩ := obind HM.out
  replace HM := Lib.hid hm; have HL1 := Lib.hid ho; clear hm ho
  go_loopg [9] F (fun gg ux3 wr => ∃ (x2 : Int), ux3 = .int .i64 x2 ∧ Hid (Below w.heap.size w wr) ∧ Hid (R3_Neck_L1 F (v0) (v1) (v2) (v3) gg x2 = some o1))
  case atStart => exact ⟨0, rfl, (Lib.hid (Below.refl _ _)), HL1⟩
  case round =>
    obtain ⟨x2, rfl, HW1, HL1⟩ := hrel
    rename World => W4
    have hd := HW1.out
    replace HOA := Lib.hid (HOA.out.below hd)
    replace HD := Lib.hid (HD.out.trans (hd.mono HD.out.size))
    clear hd
    cases gk with
    | zero => exact absurd ((R3_Neck_L1_0 ..).symm.trans HL1.out) (by intro h; cases h)
    | succ g1 =>
      replace HL1 := Lib.hid ((R3_Neck_L1_s ..).symm.trans HL1.out)
      by_cases hc5 : x2 ≤ 20
      · replace HL1 := Lib.hid (ifT hc5 HL1.out)
        have HK6 := Lib.hid hc5
        obtain ⟨y9, hy7, hm⟩ := obind HL1.out
        replace HL1 := Lib.hid hm; clear hm
        have HC8 := R3_Cheap_ok W4 cap1 (rdC HD.out HR1.out) hy7
        clear hy7
        replace HC8 := Lib.hid HC8
        go_wp2_with fail
        refine HC8.out.mono ?_; rintro e W10 ⟨V11, rfl, ho, hd⟩
        try clear hc5
        replace HOA := Lib.hid (HOA.out.call hd HD.out.size ho); clear ho
        replace HD := Lib.hid (HD.out.trans (hd.mono HD.out.size))
        replace HW1 := Lib.hid (HW1.out.trans (hd.mono HW1.out.size))
        clear hd
        obtain ⟨y15, hy13, hm⟩ := obind HL1.out
        replace HL1 := Lib.hid hm; clear hm
        obtain ⟨A16, cap17, he, _⟩ := HP.open_L HOA.out (List.Mem.head _)
        subst he
        have HC14 := R1_Far_ok W10 cap17 (HP.rd_L HOA.out (List.Mem.head _)) hy13
        clear hy13
        replace HC14 := Lib.hid HC14
        go_wp2_with fail
        refine HC14.out.mono ?_; rintro e W18 ⟨V19, rfl, ho, hd⟩
        replace HOA := Lib.hid (HOA.out.callR hd HD.out.size ho); clear ho
        replace HD := Lib.hid (HD.out.trans (hd.mono HD.out.size))
        replace HW1 := Lib.hid (HW1.out.trans (hd.mono HW1.out.size))
        clear hd
        obtain ⟨A23, cap24, he, _⟩ := HP.open_R HOA.out (List.Mem.head _)
        subst he
        obtain ⟨y21, hy22, hm⟩ := obind HL1.out
        replace HL1 := Lib.hid hm; clear hm
        obtain ⟨b25, o26, A32, cap33, ea27, _, f28, f29, f30, hrr, hrc⟩ := ReadsR.ixc (HP.rd_R HOA.out (List.Mem.head _)) hy22
        cases ea27
        have HR34c := Lib.hid hrc; clear hrc
        try simp only [Nat.zero_add, Nat.add_zero, Int.toNat_natCast, Int.toNat_zero, Int.toNat_one] at f30
        have HR34 := Lib.hid hrr; clear hrr
        try rw [← HP.len_R HOA.out (List.Mem.head _)] at f29
        have HY35 := Lib.hid hy22; clear hy22
        obtain ⟨y36, hy37, hm⟩ := obind HL1.out
        replace HL1 := Lib.hid hm; clear hm
        obtain ⟨b38, o39, ea40, _, f41, f42, f43⟩ := ReadsI.ix HR34.out hy37
        cases ea40
        try simp only [Nat.zero_add, Nat.add_zero, Int.toNat_natCast, Int.toNat_zero, Int.toNat_one] at f43
        have HY45 := Lib.hid hy37; clear hy37
        by_cases hc46 : 0 ≤ y36
        · replace HL1 := Lib.hid (ifT hc46 HL1.out)
          have HK47 := Lib.hid hc46
          obtain rfl := Option.some.inj HL1.out
          have hm := HM.out; try dsimp only at hm
          replace HM := Lib.hid hm; clear hm
          obtain rfl := Option.some.inj HM.out
          go_wp2_with fail
          try clear f28 f29 f30 f41 f42 f43 hc46
          go_ret
          exact ⟨rfl, HD.out⟩
        · replace HL1 := Lib.hid (ifF hc46 HL1.out)
          have hc46d := decide_eq_false hc46
          have HK47 := Lib.hid hc46
          go_wp2_with fail
          try clear f28 f29 f30 f41 f42 f43 hc46 hc46d
          go_roundg g1
          case measure => omega
          case rel => exact ⟨(wrap64 (x2 + 1)), rfl, HW1, HL1⟩
      · replace HL1 := Lib.hid (ifF hc5 HL1.out)
        have hc5d := decide_eq_false hc5
        have HK6 := Lib.hid hc5
        obtain rfl := Option.some.inj HL1.out
        have hm := HM.out; try dsimp only at hm
        replace HM := Lib.hid hm; clear hm
        obtain rfl := Option.some.inj HM.out
        go_wp2_with fail
        try clear hc5 hc5d
        go_ret
        exact ⟨rfl, HD.out⟩
def L3_SpanSays (F : Nat) (v0 : Int) (v1 : List (Int × Int × Int)) (v2 : Int) (v3 : Int) : Option (Bool) := (R3_Costs F (v0) (v1)).bind fun y1 => (span_Check F (v0) (v1)).bind fun y2 => (mErr (y2) (y1)).bind fun y3 => (mkB 0).bind fun y4 => ((if (y1 == 0) = true then some true else some false).bind fun b6 => if b6 = true then (R3_Span F (v0) (v1)).bind fun y7 => (if y7.2.2 = true then some (y1, y7.1, y7.2.1) else some (5, y4, 0)) else some (y1, y4, 0)).bind fun o5 => (span_Least F (v0) (v1)).bind fun y8 => (((mErr (y8.2.2) (o5.1)).bind fun y11 => if y11 = true then (SE_Bools F (y8.1) (o5.2.1)).bind fun y12 => if y12 = true then some true else some false else some false).bind fun b10 => if b10 = true then if (y8.2.1 == o5.2.2) = true then some true else some false else some false).bind fun b9 => ((if (y1 == 0) = true then (L3_in F (v2) (0) ((wrap64 (v0 - 1)))).bind fun y15 => if y15 = true then (L3_in F (v3) (0) ((wrap64 (v0 - 1)))).bind fun y16 => if y16 = true then some false else some true else some true else some false).bind fun b14 => if b14 = true then some (1) else some (y1)).bind fun o13 => ((if (o13 == 0) = true then some true else some false).bind fun b18 => if b18 = true then (R3_Neck F (v0) (v1) (v2) (v3)).bind fun y19 => (if y19 < 0 then some (5, 0) else some (o13, y19)) else some (o13, 0)).bind fun o17 => (span_Neck F (v0) (v1) (v2) (v3)).bind fun y20 => (((if y3 = true then if b9 = true then some true else some false else some false).bind fun b23 => if b23 = true then (mErr (y20.2) (o17.1)).bind fun y24 => if y24 = true then some true else some false else some false).bind fun b22 => if b22 = true then if (y20.1 == o17.2) = true then some true else some false else some false).bind fun b21 => some (b21)
set_option maxRecDepth 100000 in
set_option maxHeartbeats 4000000 in
theorem L3_SpanSays_ok {F : Nat} {v0 : Int} {v1 : List (Int × Int × Int)} {A1 : Option Addr} {v2 : Int} {v3 : Int} {r : Bool} (w : World) (htc : TyCell w) (cap1 : Nat) (hr1 : ReadsC w w.heap.size A1 v1) (h : L3_SpanSays F v0 v1 v2 v3 = some r) :
    Calls Tryd.prog 3 #[.int .i64 v0, .slice A1 v1.length cap1, .int .i64 v2, .int .i64 v3] w fun e w' => e = .returned (.bool r) ∧ Below w.heap.size w w' := by
  have HTC := Lib.hid htc; clear htc
  have HR1 := Lib.hid hr1; clear hr1
  have HD := Lib.hid (Below.refl w.heap.size w)
  have HOA := Lib.hid (HP.nil (W := w) (B := w.heap.size))
  unfold L3_SpanSays at h
  have HM := Lib.hid h; clear h
  go_enter Tryd.func3, Tryd.ntmps3
  obtain ⟨y3, hy1, hm⟩ := obind HM.out
  replace HM := Lib.hid hm; clear hm
  have HC2 := R3_Costs_ok w cap1 (rdC HD.out HR1.out) hy1
  clear hy1
  replace HC2 := Lib.hid HC2
  go_wp2_with fail
  refine HC2.out.mono ?_; rintro e W4 ⟨rfl, hd⟩
  replace HOA := Lib.hid (HOA.out.below (hd.below _))
  replace HD := Lib.hid (HD.out.trans ((hd.below _).mono HD.out.size))
  clear hd
  obtain ⟨y7, hy5, hm⟩ := obind HM.out
  replace HM := Lib.hid hm; clear hm
  have HC6 := span_Check_ok W4 cap1 (rdC HD.out HR1.out) hy5
  clear hy5
  replace HC6 := Lib.hid HC6
  go_wp2_with fail
  refine HC6.out.mono ?_; rintro e W8 ⟨rfl, hd⟩
  replace HOA := Lib.hid (HOA.out.below hd)
  replace HD := Lib.hid (HD.out.trans (hd.mono HD.out.size))
  clear hd
  obtain ⟨y11, hy9, hm⟩ := obind HM.out
  replace HM := Lib.hid hm; clear hm
  have HC10 := mErr_ok W8 (HTC.out.go HD.out)  hy9
  clear hy9
  replace HC10 := Lib.hid HC10
  go_wp2_with fail
  refine HC10.out.mono ?_; rintro e W12 ⟨rfl, hd⟩
  replace HOA := Lib.hid (HOA.out.below hd)
  replace HD := Lib.hid (HD.out.trans (hd.mono HD.out.size))
  clear hd
  obtain ⟨y13, hy14, hm⟩ := obind HM.out
  replace HM := Lib.hid hm; clear hm
  obtain ⟨f15, hy14⟩ := mkB_some hy14
  obtain ⟨N19, hN20⟩ : ∃ N, Int.toNat 0 = N := ⟨_, rfl⟩
  rw [hN20] at hy14; subst hy14
  have hmk16 := run_makeB f15; simp only [hN20] at hmk16
  have hd : Below W12.heap.size W12 (W12.alloc (.cells (Array.replicate N19 (Value.bool false)) 4)) := (Below.refl _ _).alloc (Nat.le_refl _) _
  have ho := mkB_ok W12 f15; rw [hN20] at ho; clear hN20
  go_upto_region 5 with (refine upon_go ?_; go_simp)
  generalize hW : World.alloc W12 _ = W17 at *
  clear hW hmk16 f15
  replace HOA := Lib.hid (HOA.out.call hd HD.out.size ho); clear ho
  replace HD := Lib.hid (HD.out.trans (hd.mono HD.out.size))
  clear hd
  go_upto_region 7 with (fail)
  obtain ⟨⟨x21, x22, x23⟩, ho, hm⟩ := obind HM.out
  try simp only [] at hm
  replace HM := Lib.hid hm; have HJ24 := Lib.hid ho; clear hm ho
  obtain ⟨b25, hb, hm⟩ := obind HJ24.out
  replace HJ24 := Lib.hid hm; have HB26 := Lib.hid hb; clear hm hb
  go_cut [33] (fun uq wr => uq = .bool b25 ∧ Hid (Below W17.heap.size W17 wr))
  case first =>
    have HWC27 := Lib.hid (Below.refl W17.heap.size W17)
    rcases Bool.eq_false_or_eq_true (y3 == 0) with hc28 | hc28
    · replace HB26 := Lib.hid (ifT hc28 HB26.out)
      have HK29 := Lib.hid hc28
      cases Option.some.inj HB26.out
      try go_wp2_with fail
      go_meet
      case rel => exact ⟨rfl, HWC27⟩
    · replace HB26 := Lib.hid (ifF (bF hc28) HB26.out)
      have HK29 := Lib.hid hc28
      cases Option.some.inj HB26.out
      try go_wp2_with fail
      go_meet
      case rel => exact ⟨rfl, HWC27⟩
  case rest =>
    as_aux_lemma =>
      obtain ⟨rfl, HWC27⟩ := hcut
      rename World => W30
      have hd := HWC27.out
      replace HOA := Lib.hid (HOA.out.below hd)
      replace HD := Lib.hid (HD.out.trans (hd.mono HD.out.size))
      clear hd
      go_upto_if 33 with (fail)
      go_cut [9, 12, 13] (fun q32 q33 q34 wr => ∃ (V31 : Value), q32 = .int .i64 x21 ∧ V31 = q33 ∧ q34 = .int .i64 x23 ∧ Hid (Below w.heap.size w wr) ∧ Hid (HP wr w.heap.size [.fl (owB V31 (x22))]) ∧ Hid (Below W30.heap.size W30 wr))
      case first =>
        have HWC35 := Lib.hid (Below.refl W30.heap.size W30)
        cases b25
        · replace HJ24 := Lib.hid (ifF Bool.false_ne_true HJ24.out)
          try go_wp2_with fail
          cases Option.some.inj HJ24.out
          go_meet
          case rel => exact ⟨(.slice (some ⟨W12.heap.size, 0, none⟩) N19 N19), rfl, rfl, rfl, HD, HOA, HWC35⟩
        · replace HJ24 := Lib.hid (ifT rfl HJ24.out)
          obtain ⟨⟨y38, y39, y40⟩, hy36, hm⟩ := obind HJ24.out
          dsimp only at hm
          replace HJ24 := Lib.hid hm; clear hm
          have HC37 := R3_Span_ok W30 cap1 (rdC HD.out HR1.out) hy36
          clear hy36
          replace HC37 := Lib.hid HC37
          go_wp2_with fail
          refine HC37.out.mono ?_; rintro e W41 ⟨V42, rfl, ho, hd⟩
          replace HOA := Lib.hid (HOA.out.call hd HD.out.size ho); clear ho
          replace HD := Lib.hid (HD.out.trans (hd.mono HD.out.size))
          replace HWC35 := Lib.hid (HWC35.out.trans (hd.mono HWC35.out.size))
          clear hd
          cases y40
          · replace HJ24 := Lib.hid (ifF Bool.false_ne_true HJ24.out)
            try go_wp2_with fail
            replace HOA := Lib.hid (HOA.out.sub (.cons _ (.cons₂ _ .slnil)))
            cases Option.some.inj HJ24.out
            go_meet
            case rel => exact ⟨(.slice (some ⟨W12.heap.size, 0, none⟩) N19 N19), rfl, rfl, rfl, HD, HOA, HWC35⟩
          · replace HJ24 := Lib.hid (ifT rfl HJ24.out)
            try go_wp2_with fail
            replace HOA := Lib.hid (HOA.out.sub (.cons₂ _ (.cons _ .slnil)))
            cases Option.some.inj HJ24.out
            go_meet
            case rel => exact ⟨V42, rfl, rfl, rfl, HD, HOA, HWC35⟩
      case rest =>
        as_aux_lemma =>
          obtain ⟨V31, rfl, rfl, rfl, HD, HOA, HWC35⟩ := hcut
          rename World => W44
          have hd := HWC35.out
          clear hd
          obtain ⟨⟨y47, y48, y49⟩, hy45, hm⟩ := obind HM.out
          dsimp only at hm
          replace HM := Lib.hid hm; clear hm
          have HC46 := span_Least_ok W44 cap1 (rdC HD.out HR1.out) hy45
          clear hy45
          replace HC46 := Lib.hid HC46
          go_wp2_with fail
          refine HC46.out.mono ?_; rintro e W50 ⟨V51, rfl, ho, hd⟩
          replace HOA := Lib.hid (HOA.out.call hd HD.out.size ho); clear ho
          replace HD := Lib.hid (HD.out.trans (hd.mono HD.out.size))
          clear hd
          go_upto_region 14 with (fail)
          obtain ⟨b53, hb, hm⟩ := obind HM.out
          replace HM := Lib.hid hm; have HB54 := Lib.hid hb; clear hm hb
          go_cut [21] (fun uq wr => uq = .bool b53 ∧ Hid (Below W50.heap.size W50 wr))
          case first =>
            have HWC55 := Lib.hid (Below.refl W50.heap.size W50)
            obtain ⟨b56, hb, hm⟩ := obind HB54.out
            replace HB54 := Lib.hid hm; have HB57 := Lib.hid hb; clear hm hb
            obtain ⟨y60, hy58, hm⟩ := obind HB57.out
            replace HB57 := Lib.hid hm; clear hm
            have HC59 := mErr_ok W50 (HTC.out.go HD.out)  hy58
            clear hy58
            replace HC59 := Lib.hid HC59
            go_wp2_with fail
            refine HC59.out.mono ?_; rintro e W61 ⟨rfl, hd⟩
            replace HOA := Lib.hid (HOA.out.below hd)
            replace HD := Lib.hid (HD.out.trans (hd.mono HD.out.size))
            replace HWC55 := Lib.hid (HWC55.out.trans (hd.mono HWC55.out.size))
            clear hd
            cases y60
            · replace HB57 := Lib.hid (ifF Bool.false_ne_true HB57.out)
              obtain rfl := Option.some.inj HB57.out
              replace HB54 := Lib.hid (ifF (by first | exact Bool.false_ne_true | exact not_false) HB54.out)
              cases Option.some.inj HB54.out
              try go_wp2_with fail
              go_meet
              case rel => exact ⟨rfl, HWC55⟩
            · replace HB57 := Lib.hid (ifT rfl HB57.out)
              obtain ⟨y64, hy62, hm⟩ := obind HB57.out
              replace HB57 := Lib.hid hm; clear hm
              obtain ⟨A65, cap66, he, _⟩ := HP.open_B HOA.out (List.Mem.head _)
              subst he
              obtain ⟨A67, cap68, he, _⟩ := HP.open_B HOA.out (List.Mem.tail _ (List.Mem.head _))
              subst he
              have HC63 := SE_Bools_ok W61 cap66 (HP.rd_B HOA.out (List.Mem.head _)) cap68 (HP.rd_B HOA.out (List.Mem.tail _ (List.Mem.head _))) hy62
              clear hy62
              replace HC63 := Lib.hid HC63
              go_wp2_with fail
              refine HC63.out.mono ?_; rintro e W69 ⟨rfl, hd⟩
              replace HOA := Lib.hid (HOA.out.below (hd.below _))
              replace HD := Lib.hid (HD.out.trans ((hd.below _).mono HD.out.size))
              replace HWC55 := Lib.hid (HWC55.out.trans ((hd.below _).mono HWC55.out.size))
              clear hd
              cases y64
              · replace HB57 := Lib.hid (ifF Bool.false_ne_true HB57.out)
                obtain rfl := Option.some.inj HB57.out
                replace HB54 := Lib.hid (ifF (by first | exact Bool.false_ne_true | exact not_false) HB54.out)
                cases Option.some.inj HB54.out
                try go_wp2_with fail
                go_meet
                case rel => exact ⟨rfl, HWC55⟩
              · replace HB57 := Lib.hid (ifT rfl HB57.out)
                obtain rfl := Option.some.inj HB57.out
                replace HB54 := Lib.hid (ifT (by first | rfl | trivial) HB54.out)
                rcases Bool.eq_false_or_eq_true (y48 == x23) with hc70 | hc70
                · replace HB54 := Lib.hid (ifT hc70 HB54.out)
                  have HK71 := Lib.hid hc70
                  cases Option.some.inj HB54.out
                  try go_wp2_with fail
                  go_meet
                  case rel => exact ⟨rfl, HWC55⟩
                · replace HB54 := Lib.hid (ifF (bF hc70) HB54.out)
                  have HK71 := Lib.hid hc70
                  cases Option.some.inj HB54.out
                  try go_wp2_with fail
                  go_meet
                  case rel => exact ⟨rfl, HWC55⟩
          case rest =>
            as_aux_lemma =>
              obtain ⟨rfl, HWC55⟩ := hcut
              rename World => W72
              have hd := HWC55.out
              replace HOA := Lib.hid (HOA.out.below hd)
              replace HD := Lib.hid (HD.out.trans (hd.mono HD.out.size))
              clear hd
              go_upto_region 15 with (fail)
              obtain ⟨x73, ho, hm⟩ := obind HM.out
              replace HM := Lib.hid hm; have HJ74 := Lib.hid ho; clear hm ho
              obtain ⟨b75, hb, hm⟩ := obind HJ74.out
              replace HJ74 := Lib.hid hm; have HB76 := Lib.hid hb; clear hm hb
              go_cut [79] (fun uq wr => uq = .bool b75 ∧ Hid (Below W72.heap.size W72 wr))
              case first =>
                have HWC77 := Lib.hid (Below.refl W72.heap.size W72)
                rcases Bool.eq_false_or_eq_true (y3 == 0) with hc78 | hc78
                · replace HB76 := Lib.hid (ifT hc78 HB76.out)
                  have HK79 := Lib.hid hc78
                  obtain ⟨y82, hy80, hm⟩ := obind HB76.out
                  replace HB76 := Lib.hid hm; clear hm
                  have HC81 := L3_in_ok W72  hy80
                  clear hy80
                  replace HC81 := Lib.hid HC81
                  cases y82
                  · replace HB76 := Lib.hid (ifF Bool.false_ne_true HB76.out)
                    cases Option.some.inj HB76.out
                    go_wp2_with fail
                    refine HC81.out.mono ?_; rintro e w' ⟨rfl, rfl⟩
                    try go_wp2_with fail
                    go_meet
                    case rel => exact ⟨rfl, HWC77⟩
                  · replace HB76 := Lib.hid (ifT rfl HB76.out)
                    obtain ⟨y85, hy83, hm⟩ := obind HB76.out
                    replace HB76 := Lib.hid hm; clear hm
                    have HC84 := L3_in_ok W72  hy83
                    clear hy83
                    replace HC84 := Lib.hid HC84
                    cases y85
                    · replace HB76 := Lib.hid (ifF Bool.false_ne_true HB76.out)
                      cases Option.some.inj HB76.out
                      go_wp2_with fail
                      refine HC81.out.mono ?_; rintro e w' ⟨rfl, rfl⟩
                      go_wp2_with fail
                      refine HC84.out.mono ?_; rintro e w' ⟨rfl, rfl⟩
                      try go_wp2_with fail
                      go_meet
                      case rel => exact ⟨rfl, HWC77⟩
                    · replace HB76 := Lib.hid (ifT rfl HB76.out)
                      cases Option.some.inj HB76.out
                      go_wp2_with fail
                      refine HC81.out.mono ?_; rintro e w' ⟨rfl, rfl⟩
                      go_wp2_with fail
                      refine HC84.out.mono ?_; rintro e w' ⟨rfl, rfl⟩
                      try go_wp2_with fail
                      go_meet
                      case rel => exact ⟨rfl, HWC77⟩
                · replace HB76 := Lib.hid (ifF (bF hc78) HB76.out)
                  have HK79 := Lib.hid hc78
                  cases Option.some.inj HB76.out
                  try go_wp2_with fail
                  go_meet
                  case rel => exact ⟨rfl, HWC77⟩
              case rest =>
                as_aux_lemma =>
                  obtain ⟨rfl, HWC77⟩ := hcut
                  rename World => W86
                  have hd := HWC77.out
                  replace HOA := Lib.hid (HOA.out.below hd)
                  replace HD := Lib.hid (HD.out.trans (hd.mono HD.out.size))
                  clear hd
                  go_upto_if 79 with (fail)
                  go_cut [11] (fun q87 wr => q87 = .int .i64 x73 ∧ Hid (Below W86.heap.size W86 wr))
                  case first =>
                    have HWC89 := Lib.hid (Below.refl W86.heap.size W86)
                    cases b75
                    · replace HJ74 := Lib.hid (ifF Bool.false_ne_true HJ74.out)
                      try go_wp2_with fail
                      cases Option.some.inj HJ74.out
                      go_meet
                      case rel => exact ⟨rfl, HWC89⟩
                    · replace HJ74 := Lib.hid (ifT rfl HJ74.out)
                      try go_wp2_with fail
                      cases Option.some.inj HJ74.out
                      go_meet
                      case rel => exact ⟨rfl, HWC89⟩
                  case rest =>
                    as_aux_lemma =>
                      obtain ⟨rfl, HWC89⟩ := hcut
                      rename World => W90
                      have hd := HWC89.out
                      replace HOA := Lib.hid (HOA.out.below hd)
                      replace HD := Lib.hid (HD.out.trans (hd.mono HD.out.size))
                      clear hd
                      go_upto_region 17 with (fail)
                      obtain ⟨⟨x91, x92⟩, ho, hm⟩ := obind HM.out
                      try simp only [] at hm
                      replace HM := Lib.hid hm; have HJ93 := Lib.hid ho; clear hm ho
                      obtain ⟨b94, hb, hm⟩ := obind HJ93.out
                      replace HJ93 := Lib.hid hm; have HB95 := Lib.hid hb; clear hm hb
                      go_cut [81] (fun uq wr => uq = .bool b94 ∧ Hid (Below W90.heap.size W90 wr))
                      case first =>
                        have HWC96 := Lib.hid (Below.refl W90.heap.size W90)
                        rcases Bool.eq_false_or_eq_true (x73 == 0) with hc97 | hc97
                        · replace HB95 := Lib.hid (ifT hc97 HB95.out)
                          have HK98 := Lib.hid hc97
                          cases Option.some.inj HB95.out
                          try go_wp2_with fail
                          go_meet
                          case rel => exact ⟨rfl, HWC96⟩
                        · replace HB95 := Lib.hid (ifF (bF hc97) HB95.out)
                          have HK98 := Lib.hid hc97
                          cases Option.some.inj HB95.out
                          try go_wp2_with fail
                          go_meet
                          case rel => exact ⟨rfl, HWC96⟩
                      case rest =>
                        as_aux_lemma =>
                          obtain ⟨rfl, HWC96⟩ := hcut
                          rename World => W99
                          have hd := HWC96.out
                          replace HOA := Lib.hid (HOA.out.below hd)
                          replace HD := Lib.hid (HD.out.trans (hd.mono HD.out.size))
                          clear hd
                          go_upto_if 81 with (fail)
                          go_cut [11, 14] (fun q100 q101 wr => q100 = .int .i64 x91 ∧ q101 = .int .i64 x92 ∧ Hid (Below W99.heap.size W99 wr))
                          case first =>
                            have HWC103 := Lib.hid (Below.refl W99.heap.size W99)
                            cases b94
                            · replace HJ93 := Lib.hid (ifF Bool.false_ne_true HJ93.out)
                              try go_wp2_with fail
                              cases Option.some.inj HJ93.out
                              go_meet
                              case rel => exact ⟨rfl, rfl, HWC103⟩
                            · replace HJ93 := Lib.hid (ifT rfl HJ93.out)
                              obtain ⟨y106, hy104, hm⟩ := obind HJ93.out
                              replace HJ93 := Lib.hid hm; clear hm
                              have HC105 := R3_Neck_ok W99 cap1 (rdC HD.out HR1.out) hy104
                              clear hy104
                              replace HC105 := Lib.hid HC105
                              go_wp2_with fail
                              refine HC105.out.mono ?_; rintro e W107 ⟨rfl, hd⟩
                              replace HOA := Lib.hid (HOA.out.below hd)
                              replace HD := Lib.hid (HD.out.trans (hd.mono HD.out.size))
                              replace HWC103 := Lib.hid (HWC103.out.trans (hd.mono HWC103.out.size))
                              clear hd
                              by_cases hc108 : y106 < 0
                              · replace HJ93 := Lib.hid (ifT hc108 HJ93.out)
                                have HK109 := Lib.hid hc108
                                try go_wp2_with fail
                                try clear hc108
                                cases Option.some.inj HJ93.out
                                go_meet
                                case rel => exact ⟨rfl, rfl, HWC103⟩
                              · replace HJ93 := Lib.hid (ifF hc108 HJ93.out)
                                have hc108d := decide_eq_false hc108
                                have HK109 := Lib.hid hc108
                                try go_wp2_with fail
                                try clear hc108 hc108d
                                cases Option.some.inj HJ93.out
                                go_meet
                                case rel => exact ⟨rfl, rfl, HWC103⟩
                          case rest =>
                            as_aux_lemma =>
                              obtain ⟨rfl, rfl, HWC103⟩ := hcut
                              rename World => W110
                              have hd := HWC103.out
                              replace HOA := Lib.hid (HOA.out.below hd)
                              replace HD := Lib.hid (HD.out.trans (hd.mono HD.out.size))
                              clear hd
                              obtain ⟨⟨y113, y114⟩, hy111, hm⟩ := obind HM.out
                              dsimp only at hm
                              replace HM := Lib.hid hm; clear hm
                              have HC112 := span_Neck_ok W110 cap1 (rdC HD.out HR1.out) hy111
                              clear hy111
                              replace HC112 := Lib.hid HC112
                              go_wp2_with fail
                              refine HC112.out.mono ?_; rintro e W115 ⟨rfl, hd⟩
                              replace HOA := Lib.hid (HOA.out.below hd)
                              replace HD := Lib.hid (HD.out.trans (hd.mono HD.out.size))
                              clear hd
                              obtain ⟨b116, hb, hm⟩ := obind HM.out
                              replace HM := Lib.hid hm; have HB117 := Lib.hid hb; clear hm hb
                              obtain ⟨b118, hb, hm⟩ := obind HB117.out
                              replace HB117 := Lib.hid hm; have HB119 := Lib.hid hb; clear hm hb
                              obtain ⟨b120, hb, hm⟩ := obind HB119.out
                              replace HB119 := Lib.hid hm; have HB121 := Lib.hid hb; clear hm hb
                              cases y11
                              · replace HB121 := Lib.hid (ifF Bool.false_ne_true HB121.out)
                                obtain rfl := Option.some.inj HB121.out
                                replace HB119 := Lib.hid (ifF (by first | exact Bool.false_ne_true | exact not_false) HB119.out)
                                obtain rfl := Option.some.inj HB119.out
                                replace HB117 := Lib.hid (ifF (by first | exact Bool.false_ne_true | exact not_false) HB117.out)
                                obtain rfl := Option.some.inj HB117.out
                                obtain rfl := Option.some.inj HM.out
                                go_wp2_with fail
                                go_ret
                                exact ⟨rfl, HD.out⟩
                              · replace HB121 := Lib.hid (ifT rfl HB121.out)
                                cases b53
                                · replace HB121 := Lib.hid (ifF Bool.false_ne_true HB121.out)
                                  obtain rfl := Option.some.inj HB121.out
                                  replace HB119 := Lib.hid (ifF (by first | exact Bool.false_ne_true | exact not_false) HB119.out)
                                  obtain rfl := Option.some.inj HB119.out
                                  replace HB117 := Lib.hid (ifF (by first | exact Bool.false_ne_true | exact not_false) HB117.out)
                                  obtain rfl := Option.some.inj HB117.out
                                  obtain rfl := Option.some.inj HM.out
                                  go_wp2_with fail
                                  go_ret
                                  exact ⟨rfl, HD.out⟩
                                · replace HB121 := Lib.hid (ifT rfl HB121.out)
                                  obtain rfl := Option.some.inj HB121.out
                                  replace HB119 := Lib.hid (ifT (by first | rfl | trivial) HB119.out)
                                  obtain ⟨y124, hy122, hm⟩ := obind HB119.out
                                  replace HB119 := Lib.hid hm; clear hm
                                  have HC123 := mErr_ok W115 (HTC.out.go HD.out)  hy122
                                  clear hy122
                                  replace HC123 := Lib.hid HC123
                                  go_wp2_with fail
                                  refine HC123.out.mono ?_; rintro e W125 ⟨rfl, hd⟩
                                  replace HOA := Lib.hid (HOA.out.below hd)
                                  replace HD := Lib.hid (HD.out.trans (hd.mono HD.out.size))
                                  clear hd
                                  cases y124
                                  · replace HB119 := Lib.hid (ifF Bool.false_ne_true HB119.out)
                                    obtain rfl := Option.some.inj HB119.out
                                    replace HB117 := Lib.hid (ifF (by first | exact Bool.false_ne_true | exact not_false) HB117.out)
                                    obtain rfl := Option.some.inj HB117.out
                                    obtain rfl := Option.some.inj HM.out
                                    go_wp2_with fail
                                    go_ret
                                    exact ⟨rfl, HD.out⟩
                                  · replace HB119 := Lib.hid (ifT rfl HB119.out)
                                    obtain rfl := Option.some.inj HB119.out
                                    replace HB117 := Lib.hid (ifT (by first | rfl | trivial) HB117.out)
                                    rcases Bool.eq_false_or_eq_true (y113 == x92) with hc126 | hc126
                                    · replace HB117 := Lib.hid (ifT hc126 HB117.out)
                                      have HK127 := Lib.hid hc126
                                      obtain rfl := Option.some.inj HB117.out
                                      obtain rfl := Option.some.inj HM.out
                                      go_wp2_with fail
                                      go_ret
                                      exact ⟨(by first | rfl | (refine congrArg (fun b => Ending.returned (Value.bool b)) ?_; first | (exact decide_eq_true (by omega)) | (exact decide_eq_false (by omega)) | (have q := hc126; rw [bne_iff_ne] at q ⊢; omega) | (have q := hc126; rw [bne_eq_false_iff_eq] at q ⊢; omega) | (have q := hc126; rw [beq_iff_eq] at q ⊢; omega) | (have q := hc126; rw [beq_eq_false_iff_ne] at q ⊢; omega))), HD.out⟩
                                    · replace HB117 := Lib.hid (ifF (bF hc126) HB117.out)
                                      have HK127 := Lib.hid hc126
                                      obtain rfl := Option.some.inj HB117.out
                                      obtain rfl := Option.some.inj HM.out
                                      go_wp2_with fail
                                      go_ret
                                      exact ⟨(by first | rfl | (refine congrArg (fun b => Ending.returned (Value.bool b)) ?_; first | (exact decide_eq_true (by omega)) | (exact decide_eq_false (by omega)) | (have q := hc126; rw [bne_iff_ne] at q ⊢; omega) | (have q := hc126; rw [bne_eq_false_iff_eq] at q ⊢; omega) | (have q := hc126; rw [beq_iff_eq] at q ⊢; omega) | (have q := hc126; rw [beq_eq_false_iff_ne] at q ⊢; omega))), HD.out⟩
end Go.Proofs.YtccdnokddkpmgaaDoor
/- SpanSays -/
set_option linter.all false
set_option maxRecDepth 100000
namespace Go.Proofs.YtccdnokddkpmgaaDoor
open Go.RowKit Pl
section
variable {k : Nat} {l : List (Int × Int × Int)}
theorem bools_refl_L1 {y : List Bool} (hy : y.length ≤ 100) : ∀ (g j : Nat), y.length < j + g → j ≤ y.length → ∃ x, SE_Bools_L1 300 y y g (j : Int) = some (.inl x)
  | 0, j, h, hj => by omega
  | g+1, j, h, hj => by
    rw [SE_Bools_L1_s]
    by_cases c : j < y.length
    · have h1 : ix y (j : Int) = some (y.getD j false) := ix_at false c
      rw [if_pos (by omega), h1, Option.bind_some, Option.bind_some, if_neg (by simp), w64n (by omega)]
      exact bools_refl_L1 hy g (j+1) (by omega) (by omega)
    · rw [if_neg (by omega)]; exact ⟨_, rfl⟩
theorem bools_refl {y : List Bool} (hy : y.length ≤ 100) : SE_Bools 300 y y = some true := by
  obtain ⟨x, hx⟩ := bools_refl_L1 hy 300 0 (by omega) (Nat.zero_le _)
  unfold SE_Bools
  rw [if_neg (by simp), show SE_Bools_L1 300 y y 300 0 = _ from hx, Option.bind_some]
/-- the lines before a place, in (cost, place) -/
def bef (l : List (Int × Int × Int)) (c : Int) (p : Nat) : List Nat := (List.range l.length).filter fun i => decide (cs l i < c ∨ (cs l i = c ∧ i < p))
theorem bef_lt {c : Int} {p i : Nat} (h : i ∈ bef l c p) : i < l.length := List.mem_range.1 (List.mem_filter.1 h).1
theorem bef_len (c : Int) (p : Nat) : (bef l c p).length ≤ l.length := by
  have := List.length_filter_le (fun i => decide (cs l i < c ∨ (cs l i = c ∧ i < p))) (List.range l.length)
  rwa [List.length_range] at this
theorem cheap_L1 (c : Int) (p : Nat) (h24 : l.length ≤ 24) : ∀ (g j : Nat) (v : List (Int × Int)), l.length < j + g → j ≤ l.length → v.length ≤ j →
    ∃ x, R3_Cheap_L1 300 l c (p : Int) g v (j : Int) = some (v ++ ((List.range' j (l.length - j)).filter fun i => decide (cs l i < c ∨ (cs l i = c ∧ i < p))).map (ln l), x)
  | 0, j, v, h, hj, _ => by omega
  | g+1, j, v, h, hj, hv => by
    rw [R3_Cheap_L1_s]
    by_cases q : j < l.length
    · have hil : ix l (j : Int) = some (l.getD j (0, 0, 0)) := ix_at (0, 0, 0) q
      have hcs : (l.getD j (0, 0, 0)).2.2 = cs l j := rfl
      have ha : app v ((l.getD j (0, 0, 0)).1, (l.getD j (0, 0, 0)).2.1) = some (v ++ [ln l j]) := by unfold app; rw [if_pos (by omega)]; rfl
      rw [if_pos (by omega), hil]
      simp only [Option.bind_some]
      rw [hcs, w64n (by omega), ha, Option.bind_some]
      rw [show l.length - j = (l.length - (j+1)) + 1 by omega, List.range'_succ]
      have i1 := cheap_L1 c p h24 g (j+1) (v ++ [ln l j]) (by omega) (by omega) (by rw [List.length_append]; simp; omega)
      have i2 := cheap_L1 c p h24 g (j+1) v (by omega) (by omega) (by omega)
      by_cases e : cs l j < c ∨ (cs l j = c ∧ j < p)
      · rw [List.filter_cons_of_pos (p := fun i => decide (cs l i < c ∨ (cs l i = c ∧ i < p))) (decide_eq_true e), List.map_cons]
        obtain ⟨x, hx⟩ := i1
        rw [List.append_assoc] at hx
        refine ⟨x, ?_⟩
        rcases e with e | ⟨e, e2⟩
        · rw [if_pos e, Option.bind_some, if_pos rfl]; exact hx
        · rw [if_neg (by omega), if_pos (by rw [beq_iff_eq]; exact e), if_pos (by omega), Option.bind_some, if_pos rfl]; exact hx
      · rw [List.filter_cons_of_neg (p := fun i => decide (cs l i < c ∨ (cs l i = c ∧ i < p))) (by simpa using e)]
        obtain ⟨x, hx⟩ := i2
        refine ⟨x, ?_⟩
        rw [if_neg (fun q => e (.inl q))]
        by_cases e3 : cs l j = c
        · rw [if_pos (by rw [beq_iff_eq]; exact e3), if_neg (fun q => e (.inr ⟨e3, by omega⟩)), Option.bind_some, if_neg (by decide)]; exact hx
        · rw [if_neg (by rw [beq_iff_eq]; exact e3), Option.bind_some, if_neg (by decide)]; exact hx
    · have : j = l.length := by omega
      subst this
      rw [if_neg (by omega), Nat.sub_self]; exact ⟨(l.length : Int), by simp⟩
theorem cheap_ev (c : Int) (p : Nat) (h24 : l.length ≤ 24) : R3_Cheap 300 l c (p : Int) = some ((bef l c p).map (ln l)) := by
  obtain ⟨x, hx⟩ := cheap_L1 c p h24 300 0 [] (by omega) (Nat.zero_le _) (Nat.zero_le _)
  rw [List.nil_append, Nat.sub_zero, ← List.range_eq_range'] at hx
  unfold R3_Cheap
  rw [show R3_Cheap_L1 300 l c (p : Int) 300 [] 0 = _ from hx, Option.bind_some]; rfl
theorem far_cn (hin : InC k l) {T : List Nat} (hT : ∀ i ∈ T, i < l.length) {a b : Nat} (hb : b < k) {o : List Int} (h : Far k (Ad k (T.map (ln l))) a o) : 0 ≤ o.getD b 0 ↔ Cn l T a b := by
  constructor
  · have key : ∀ n j, j < k → o.getD j 0 = (n : Nat) → Cn l T a j := by
      intro n
      induction n with
      | zero =>
        intro j hj e
        rcases h.down j hj (by omega) with rfl | ⟨i, hi, hij, h0, e2⟩
        · exact .refl _
        · omega
      | succ n ih =>
        intro j hj e
        rcases h.down j hj (by omega) with rfl | ⟨i, hi, hij, h0, e2⟩
        · exact .refl _
        · obtain ⟨t, ht, hh⟩ := (T_ad hin hT i j).1 hij
          exact .step (ih i hi (by omega)) ht hh
    intro h0
    exact key _ b hb (Int.toNat_of_nonneg h0).symm
  · intro hc
    clear hb
    induction hc with
    | refl => rw [h.start]; exact Int.le_refl _
    | step hc ht hh ih =>
      have hA := (T_ad hin hT _ _).2 ⟨_, ht, hh⟩
      exact (h.step _ _ (ad_lt (T_in hin hT) hA).1 ih hA).1
/-- the document's test: do the ends hang together by some lines? -/
theorem cheap_far (hk : k ≤ 8) (h24 : l.length ≤ 24) (hin : InC k l) {T : List Nat} (hT : ∀ i ∈ T, i < l.length) (hTl : T.length ≤ 24) : ∃ M, R1_Far 300 (k : Int) (T.map (ln l)) true (-1) = some M ∧ Sh k M ∧
    ∀ a b, a < k → b < k → (0 ≤ ent M a b ↔ Cn l T a b) := by
  obtain ⟨M, m1, m2, m3⟩ := far_mat (l := T.map (ln l)) (show k ≤ 16 by omega) (by rw [List.length_map]; omega) (T_in hin hT)
  exact ⟨M, m1, m2, fun a b ha hb => far_cn hin hT hb (m3 a ha)⟩
theorem span_L1 (hk : k ≤ 8) (h24 : l.length ≤ 24) (hin : InC k l) {is : Nat → Bool} (His : ∀ i, i < l.length → (is i = true ↔ ¬ Cn l (bef l (cs l i) i) (pA l i) (pB l i))) :
    ∀ (g j : Nat) (v : Int), l.length < j + g → j ≤ l.length → 0 ≤ v → v ≤ 20 * (j : Int) →
    ∃ x, R3_Span_L1 300 (k : Int) l g ((List.range j).map is) v ((cnt is (List.range j) : Nat) : Int) (j : Int) = some ((List.range l.length).map is, v + sumL (fun i => if is i = true then cs l i else 0) (List.range' j (l.length - j)), ((cnt is (List.range l.length) : Nat) : Int), x)
  | 0, j, v, h, hj, _, _ => by omega
  | g+1, j, v, h, hj, h0, hv => by
    rw [R3_Span_L1_s]
    by_cases q : j < l.length
    · have hil : ix l (j : Int) = some (l.getD j (0, 0, 0)) := ix_at (0, 0, 0) q
      have hcs : (l.getD j (0, 0, 0)).2.2 = cs l j := rfl
      obtain ⟨q1, q2, q3, q4, _⟩ := ln_in hin q
      have q1' : (l.getD j (0, 0, 0)).1 = ((pA l j : Nat) : Int) := q1
      have q2' : (l.getD j (0, 0, 0)).2.1 = ((pB l j : Nat) : Int) := q2
      obtain ⟨M, m1, m2, m3⟩ := cheap_far hk h24 hin (T := bef l (cs l j) j) (fun i hi => bef_lt hi) (by have := bef_len (l := l) (cs l j) j; omega)
      have hm := m3 _ _ q3 q4
      have hI := His j q
      have hc0 : 0 ≤ cs l j ∧ cs l j ≤ 20 := by
        have he := hin _ (List.getElem_mem q)
        have hg : l.getD j (0, 0, 0) = l[j] := by simp [List.getD, q]
        unfold cs; rw [hg]; omega
      have i1 := hM_ix m2 q3 q4
      have hcl : cnt is (List.range j) ≤ j := by
        have := List.length_filter_le is (List.range j)
        rw [List.length_range] at this; exact this
      rw [if_pos (by omega), hil]
      simp only [Option.bind_some]
      rw [hcs, cheap_ev (cs l j) j h24, Option.bind_some, m1, Option.bind_some, q1', q2', i1.1, Option.bind_some, i1.2, Option.bind_some]
      have hr1 : (List.range (j+1)).map is = (List.range j).map is ++ [is j] := by rw [List.range_succ, List.map_append]; rfl
      have hr2 : cnt is (List.range (j+1)) = cnt is (List.range j) + if is j = true then 1 else 0 := by
        unfold cnt
        rw [List.range_succ, List.filter_append, List.length_append]
        by_cases e : is j = true <;> simp [e]
      have hb : (if ent M (pA l j) (pB l j) < 0 then some true else some false) = some (is j) := by
        by_cases e : 0 ≤ ent M (pA l j) (pB l j)
        · rw [if_neg (by omega)]
          cases hij : is j with
          | false => rfl
          | true => exact absurd (hm.1 e) (hI.1 hij)
        · rw [if_pos (by omega), hI.2 fun hc => e (hm.2 hc)]
      have ha : app ((List.range j).map is) (is j) = some ((List.range (j+1)).map is) := by unfold app; rw [if_pos (by rw [List.length_map, List.length_range]; omega), hr1]
      rw [hb, Option.bind_some, ha, Option.bind_some, w64n (k := j) (by omega)]
      rw [show l.length - j = (l.length - (j+1)) + 1 by omega, List.range'_succ]
      have hs : sumL (fun i => if is i = true then cs l i else 0) (j :: List.range' (j+1) (l.length - (j+1))) = (if is j = true then cs l j else 0) + sumL (fun i => if is i = true then cs l i else 0) (List.range' (j+1) (l.length - (j+1))) := rfl
      rw [hs]
      by_cases e : is j = true
      · rw [if_pos e, if_pos e, w64 (by omega) (by omega), w64n (by omega)]
        rw [if_pos e] at hr2
        obtain ⟨x, hx⟩ := span_L1 hk h24 hin His g (j+1) (v + cs l j) (by omega) (by omega) (by omega) (by omega)
        rw [hr2] at hx
        exact ⟨x, by rw [hx, Int.add_assoc]⟩
      · rw [if_neg e, if_neg e]
        rw [if_neg e] at hr2
        have hr2 : cnt is (List.range (j+1)) = cnt is (List.range j) := hr2
        obtain ⟨x, hx⟩ := span_L1 hk h24 hin His g (j+1) v (by omega) (by omega) (by omega) (by omega)
        rw [hr2] at hx
        exact ⟨x, by rw [Int.zero_add]; exact hx⟩
    · have : j = l.length := by omega
      subst this
      rw [if_neg (by omega), Nat.sub_self]
      exact ⟨(l.length : Int), by simp [sumL]⟩
where hM_ix {k : Nat} {M : List (List Int)} (hM : Sh k M) {a b : Nat} (ha : a < k) (hb : b < k) : ix M (a : Int) = some (M.getD a []) ∧ ix (M.getD a []) (b : Int) = some (ent M a b) := ⟨hM.ix ha, hM.ix2 ha hb⟩
theorem comps_pos {S : St} (h1 : 1 ≤ k) : 1 ≤ comps k S := by
  unfold comps
  have h0 : rep S 0 = true := rfl
  have : 0 ∈ (List.range k).filter (rep S) := List.mem_filter.2 ⟨List.mem_range.2 h1, h0⟩
  exact List.length_pos_of_mem this
theorem full_iff (h1 : 1 ≤ k) (hk : k ≤ 8) (hin : InC k l) {ord : List Nat} (hn : ord.Nodup) (hord : ∀ x, x ∈ ord ↔ x < l.length) :
    cnt (fun i => (ord.foldl (krS l) (st0 k l.length)).2.1.getD i false) (List.range l.length) + 1 = k ↔ (ord.foldl (krS l) (st0 k l.length)).1.getD 0 0 = 2 ^ k - 1 := by
  have hlt : ∀ x ∈ ord, x < l.length := fun x hx => (hord x).1 hx
  obtain ⟨_, _, q3⟩ := taken_row hk hin ord [] 0 (st0 k l.length) hlt (fun x h => by cases h) hn (fun x hx => by
    have := hlt x hx
    simp [st0, List.getD, this]) (ok0 hk) (iv0 hk)
  have q := q3 0
  rw [List.take_zero, List.drop_zero, List.foldl_nil, comps_zero] at q
  have hp : cnt (fun i => (ord.foldl (krS l) (st0 k l.length)).2.1.getD i false) ord = cnt (fun i => (ord.foldl (krS l) (st0 k l.length)).2.1.getD i false) (List.range l.length) := by
    unfold cnt; exact ((ord_perm hn hord).filter _).length_eq
  rw [hp] at q
  have hpos := comps_pos (S := ord.foldl (krS l) (st0 k l.length)) h1
  constructor
  · intro h
    have hone : comps k (ord.foldl (krS l) (st0 k l.length)) = 1 := by omega
    obtain ⟨i1, i2, _⟩ := iv_fold hk hin ord [] 0 (st0 k l.length) hlt (fun x h => by cases h) (ok0 hk) (iv0 hk)
    rw [List.nil_append] at i1
    have hall : ∀ v, v < k → Cn l ord 0 v := fun v hv => by
      obtain ⟨a, ha, hc, hr⟩ := least_rep i1 hin hlt hv
      have m1 : a ∈ (List.range k).filter (rep (ord.foldl (krS l) (st0 k l.length))) := List.mem_filter.2 ⟨List.mem_range.2 (by omega), hr⟩
      have m0 : 0 ∈ (List.range k).filter (rep (ord.foldl (krS l) (st0 k l.length))) := List.mem_filter.2 ⟨List.mem_range.2 h1, rfl⟩
      unfold comps at hone
      match (List.range k).filter (rep (ord.foldl (krS l) (st0 k l.length))), hone, m1, m0 with
      | [z], _, m1, m0 =>
        have e1 := List.mem_singleton.1 m1
        have e0 := List.mem_singleton.1 m0
        have : a = 0 := e1.trans e0.symm
        subst this; exact hc
    refine Nat.eq_of_testBit_eq fun j => ?_
    rw [full_bit]
    by_cases hj : j < k
    · rw [decide_eq_true hj]; exact (i1.2 0 h1 j hj).2 (hall j hj)
    · rw [decide_eq_false hj]
      cases hb : ((ord.foldl (krS l) (st0 k l.length)).1.getD 0 0).testBit j with
      | false => rfl
      | true => exact absurd (bits_lt' (i2.2.1 0) hb) hj
  · intro h
    obtain ⟨iv, hc⟩ := all_cn hk hin hn hord h h1
    have := comps_one iv h1 hc
    omega
theorem span_ev (h1 : 1 ≤ k) (hk : k ≤ 8) (h24 : l.length ≤ 24) (hin : InC k l) {ord : List Nat} (hn : ord.Nodup) (hord : ∀ x, x ∈ ord ↔ x < l.length) (hp : ord.Pairwise fun a b => cs l a < cs l b ∨ (cs l a = cs l b ∧ a < b)) :
    R3_Span 300 (k : Int) l = some ((ord.foldl (krS l) (st0 k l.length)).2.1, (ord.foldl (krS l) (st0 k l.length)).2.2, decide ((ord.foldl (krS l) (st0 k l.length)).1.getD 0 0 = 2 ^ k - 1)) := by
  have hlt : ∀ x ∈ ord, x < l.length := fun x hx => (hord x).1 hx
  have hfi := full_iff h1 hk hin hn hord
  obtain ⟨q1, _, _⟩ := taken_row hk hin ord [] 0 (st0 k l.length) hlt (fun x h => by cases h) hn (fun x hx => by
    have := hlt x hx
    simp [st0, List.getD, this]) (ok0 hk) (iv0 hk)
  have q1 : (ord.foldl (krS l) (st0 k l.length)).2.2 = 0 + _ := q1
  rw [sumL_perm _ (ord_perm hn hord), Int.zero_add] at q1
  have hlen : (ord.foldl (krS l) (st0 k l.length)).2.1.length = l.length := by rw [fold_len]; simp [st0]
  have His : ∀ i, i < l.length → ((ord.foldl (krS l) (st0 k l.length)).2.1.getD i false = true ↔ ¬ Cn l (bef l (cs l i) i) (pA l i) (pB l i)) := fun i hi => by
    obtain ⟨P, Q, e1⟩ := List.append_of_mem ((hord i).2 hi)
    have hPl : ∀ x ∈ P, x < l.length := fun x hx => hlt x (by rw [e1]; exact List.mem_append_left _ hx)
    have ht := taken_iff (P := P) (Q := Q) hk hin hPl hi (by rw [← e1]; exact hn)
    rw [← e1] at ht
    rw [ht]
    have hb := before_iff hn hp e1
    have hm : ∀ x, x ∈ P ↔ x ∈ bef l (cs l i) i := fun x => by
      rw [hb x]
      unfold bef
      rw [List.mem_filter, List.mem_range, decide_eq_true_iff, hord]
    exact not_congr ⟨fun h => h.mono fun x hx => (hm x).1 hx, fun h => h.mono fun x hx => (hm x).2 hx⟩
  obtain ⟨R, hR⟩ : ∃ R, ord.foldl (krS l) (st0 k l.length) = R := ⟨_, rfl⟩
  rw [hR] at His q1 hlen hfi ⊢
  obtain ⟨x, hx⟩ := span_L1 hk h24 hin (is := fun i => R.2.1.getD i false) His 300 0 0 (by omega) (Nat.zero_le _) (Int.le_refl _) (Int.le_refl _)
  have hx' : R3_Span_L1 300 (k : Int) l 300 [] 0 0 0 = _ := hx
  unfold R3_Span
  rw [hx', Option.bind_some]
  dsimp only
  have e1 : (List.range l.length).map (fun i => R.2.1.getD i false) = R.2.1 := by
    refine List.ext_getElem (by rw [List.length_map, List.length_range, hlen]) fun i hi hi' => ?_
    simp [List.getD, hi']
  rw [e1, Nat.sub_zero, ← List.range_eq_range', Int.zero_add, ← q1]
  by_cases c : R.1.getD 0 0 = 2 ^ k - 1
  · have := hfi.2 c
    rw [w64 (by omega) (by omega), if_pos (by rw [beq_iff_eq]; omega), Option.bind_some, decide_eq_true c]
  · rw [w64 (by omega) (by omega), if_neg (by rw [beq_iff_eq]; intro q; exact c (hfi.1 (by omega))), Option.bind_some, decide_eq_false c]
/-! ### the neck -/
theorem chp_bef (m : Nat) : bef l (m : Int) l.length = chp l (m : Int) := by
  unfold bef chp
  refine List.filter_congr fun i hi => ?_
  have := List.mem_range.1 hi
  exact decide_eq_decide.2 (by omega)
theorem nk3_L1 (hk : k ≤ 8) (h24 : l.length ≤ 24) (hin : InC k l) {a b : Nat} (ha : a < k) (hb : b < k) : ∀ (g j : Nat), 21 < j + g → j ≤ 21 →
    (∃ c : Nat, R3_Neck_L1 300 (k : Int) l (a : Int) (b : Int) g (j : Int) = some (.inr (c : Int)) ∧ j ≤ c ∧ c ≤ 20 ∧ Cn l (chp l c) a b ∧ ∀ m : Nat, j ≤ m → m < c → ¬ Cn l (chp l m) a b) ∨
    (∃ x, R3_Neck_L1 300 (k : Int) l (a : Int) (b : Int) g (j : Int) = some (.inl x) ∧ ∀ m : Nat, j ≤ m → m ≤ 20 → ¬ Cn l (chp l m) a b)
  | 0, j, h, hj => by omega
  | g+1, j, h, hj => by
    rw [R3_Neck_L1_s]
    by_cases q : j ≤ 20
    · obtain ⟨M, m1, m2, m3⟩ := cheap_far hk h24 hin (T := chp l (j : Int)) (fun i hi => chp_lt hi) (by have := chp_len (l := l) (j : Int); omega)
      have hm := m3 _ _ ha hb
      rw [if_pos (by omega), cheap_ev (j : Int) l.length h24, Option.bind_some, chp_bef, m1, Option.bind_some, m2.ix ha, Option.bind_some, m2.ix2 ha hb, Option.bind_some, w64n (by omega)]
      by_cases c : 0 ≤ ent M a b
      · rw [if_pos c]; exact .inl ⟨j, rfl, Nat.le_refl _, q, hm.1 c, fun m h1 h2 => by omega⟩
      · rw [if_neg c]
        have hn : ¬ Cn l (chp l (j : Int)) a b := fun hc => c (hm.2 hc)
        rcases nk3_L1 hk h24 hin ha hb g (j+1) (by omega) (by omega) with ⟨c, r1, r2, r3, r4, r5⟩ | ⟨x, r1, r2⟩
        · exact .inl ⟨c, r1, by omega, r3, r4, fun m h1 h2 => by
            by_cases e : m = j
            · subst e; exact hn
            · exact r5 m (by omega) h2⟩
        · exact .inr ⟨x, r1, fun m h1 h2 => by
            by_cases e : m = j
            · subst e; exact hn
            · exact r2 m (by omega) h2⟩
    · rw [if_neg (by omega)]; exact .inr ⟨_, rfl, fun m h1 h2 => by omega⟩
theorem nk_none (h1 : 1 ≤ k) (hk : k ≤ 8) (h24 : l.length ≤ 24) (hin : InC k l) {a b : Nat} (ha : a < k) (hb : b < k) : ∀ (g j : Nat), 21 < j + g → j ≤ 21 → (∀ m : Nat, j ≤ m → m ≤ 20 → ¬ Cn l (chp l m) a b) →
    span_Neck_L1 300 (k : Int) l (a : Int) (b : Int) g (j : Int) = some (.inl ())
  | 0, j, h, hj, _ => by omega
  | g+1, j, h, hj, hI => by
    by_cases q : j ≤ 20
    · have hT : ∀ i ∈ chp l (j : Int), i < l.length := fun i hi => chp_lt hi
      have hTl := chp_len (l := l) (j : Int)
      rw [span_Neck_L1_s, if_pos (by omega)]
      have e2 := nk_L2 (j : Int) h24 300 0 [] (by omega) (Nat.zero_le _) (Nat.zero_le _)
      rw [List.nil_append, Nat.sub_zero, ← List.range_eq_range'] at e2
      rw [show span_Neck_L2 300 l (j : Int) 300 0 [] = some ((chp l (j : Int)).map (ln l)) from e2, Option.bind_some]
      have hg : good (k : Int) ((chp l (j : Int)).map (ln l)) := good_small hk (by rw [List.length_map]; omega)
      obtain ⟨R, r1, r2, r3, r4, r5⟩ := reach_full (a := a) (T_in hin hT) (by omega) ha
      have hp := Nat.pow_le_pow_right (n := 2) (by omega) hk
      have hHas : sHas R (b : Int) = some (R.testBit b) := by unfold sHas; rw [if_pos ⟨by omega, by omega, by omega⟩, Int.toNat_natCast]
      rw [mBeside_ev hg (T_err h1 hk hin hT (by omega)), Option.bind_some, sBelow_ev (by omega), Option.bind_some, r1, Option.bind_some, hHas, Option.bind_some]
      have hn := hI j (Nat.le_refl _) q
      have hiff : R.testBit b = true → Cn l (chp l (j : Int)) a b := fun h =>
        r5 (fun x => Cn l (chp l (j : Int)) a x) (.refl a) (fun x z hx hxz => by
          obtain ⟨i, hi, hh⟩ := (T_ad hin hT x z).1 hxz
          exact .step hx hi hh) b h
      rw [if_neg (fun q => hn (hiff q)), w64n (by omega)]
      exact nk_none h1 hk h24 hin ha hb g (j+1) (by omega) (by omega) fun m hm => hI m (by omega)
    · rw [span_Neck_L1_s, if_neg (by omega)]
theorem neck_bad {n a b : Int} (h : errC n l ≠ 0) : span_Neck 300 n l a b = some (0, errC n l) := by
  unfold span_Neck
  rw [spanck_ev, Option.bind_some, if_pos (by rw [bne_iff_ne]; exact h)]
theorem neck_out {a b : Int} (h1 : 1 ≤ k) (hk : k ≤ 8) (hch : span_Check 300 (k : Int) l = some 0) (h : ¬ ((0 ≤ a ∧ a ≤ (k : Int) - 1) ∧ (0 ≤ b ∧ b ≤ (k : Int) - 1))) : span_Neck 300 (k : Int) l a b = some (0, 1) := by
  unfold span_Neck
  rw [hch, Option.bind_some, if_neg (by decide), w64 (by omega) (by omega), core_All_ev 0 _ (by simp) (by simp), Option.bind_some]
  have hal : allIn [a, b] 0 ((k : Int) - 1) = false := by
    cases hh : allIn [a, b] 0 ((k : Int) - 1) with
    | false => rfl
    | true => exfalso; apply h; simp [allIn] at hh; omega
  rw [hal, if_neg (by decide)]
theorem neck_both (h1 : 1 ≤ k) (hk : k ≤ 8) (h24 : l.length ≤ 24) (hin : InC k l) (hch : span_Check 300 (k : Int) l = some 0) {a b : Nat} (ha : a < k) (hb : b < k) :
    (∃ c : Nat, c ≤ 20 ∧ R3_Neck 300 (k : Int) l (a : Int) (b : Int) = some (c : Int) ∧ span_Neck 300 (k : Int) l (a : Int) (b : Int) = some ((c : Int), 0)) ∨
    (R3_Neck 300 (k : Int) l (a : Int) (b : Int) = some (-1) ∧ span_Neck 300 (k : Int) l (a : Int) (b : Int) = some (0, 5)) := by
  rcases nk3_L1 hk h24 hin ha hb 300 0 (by omega) (by omega) with ⟨c, r1, r2, r3, r4, r5⟩ | ⟨x, r1, r2⟩
  · left
    have hab : Cn l (chp l 20) a b := r4.mono fun x hx => chp_all hin x (chp_lt hx)
    obtain ⟨c', s1, s2, s3, s4⟩ := neck_ev h1 hk h24 hin hch ha hb hab
    have : c = c' := by
      rcases Nat.lt_trichotomy c c' with h | h | h
      · exact absurd r4 (s4 c h)
      · exact h
      · exact absurd s3 (r5 c' (Nat.zero_le _) h)
    subst this
    refine ⟨c, r3, ?_, s1⟩
    unfold R3_Neck
    rw [show R3_Neck_L1 300 (k : Int) l (a : Int) (b : Int) 300 0 = _ from r1, Option.bind_some]
  · right
    constructor
    · unfold R3_Neck
      rw [show R3_Neck_L1 300 (k : Int) l (a : Int) (b : Int) 300 0 = _ from r1, Option.bind_some]
    · unfold span_Neck
      rw [hch, Option.bind_some, if_neg (by decide), w64 (by omega) (by omega), core_All_ev 0 _ (by simp) (by simp), Option.bind_some]
      have hal : allIn [(a : Int), (b : Int)] 0 ((k : Int) - 1) = true := by
        simp [allIn]; omega
      rw [hal, if_pos rfl, show span_Neck_L1 300 (k : Int) l (a : Int) (b : Int) 300 0 = _ from nk_none h1 hk h24 hin ha hb 300 0 (by omega) (by omega) r2, Option.bind_some]
/-! ### the law -/
theorem says_ev (n : Int) (l : List (Int × Int × Int)) (a b : Int) : L3_SpanSays 300 n l a b = some true := by
  unfold L3_SpanSays
  rw [R3_Costs_ev, Option.bind_some, spanck_ev, Option.bind_some]
  have hmk : mkB 0 = some [] := by decide
  have hme : ∀ c : Int, mErr c c = some true := fun c => by unfold mErr; simp
  rw [hme, Option.bind_some, hmk, Option.bind_some]
  by_cases h : errC n l = 0
  · obtain ⟨k, rfl, h1, hk, h24, hin⟩ := errC_zero h
    have hch : span_Check 300 (k : Int) l = some 0 := by rw [spanck_ev, h]
    obtain ⟨ord, o1, o2, o3, o4⟩ := least_ev' h1 hk hin h24 hch
    have hlen : (ord.foldl (krS l) (st0 k l.length)).2.1.length = l.length := by rw [fold_len]; simp [st0]
    rw [h, if_pos (by decide), Option.bind_some, if_pos rfl, span_ev h1 hk h24 hin o1 o2 o3, Option.bind_some, o4]
    dsimp only
    obtain ⟨R, hR⟩ : ∃ R, ord.foldl (krS l) (st0 k l.length) = R := ⟨_, rfl⟩
    rw [hR] at hlen ⊢
    have hneck : ∀ q : Option (Bool), ((if ((0 : Int) == 0) = true then (L3_in 300 a 0 (wrap64 ((k : Int) - 1))).bind fun y15 => if y15 = true then (L3_in 300 b 0 (wrap64 ((k : Int) - 1))).bind fun y16 => if y16 = true then some false else some true else some true else some false).bind fun b14 => if b14 = true then some (1 : Int) else some 0) = some 1 ∧ span_Neck 300 (k : Int) l a b = some (0, 1) ∨
        (((if ((0 : Int) == 0) = true then (L3_in 300 a 0 (wrap64 ((k : Int) - 1))).bind fun y15 => if y15 = true then (L3_in 300 b 0 (wrap64 ((k : Int) - 1))).bind fun y16 => if y16 = true then some false else some true else some true else some false).bind fun b14 => if b14 = true then some (1 : Int) else some 0) = some 0 ∧
          ((∃ c : Nat, c ≤ 20 ∧ R3_Neck 300 (k : Int) l a b = some (c : Int) ∧ span_Neck 300 (k : Int) l a b = some ((c : Int), 0)) ∨ (R3_Neck 300 (k : Int) l a b = some (-1) ∧ span_Neck 300 (k : Int) l a b = some (0, 5)))) := by
      intro _
      rw [if_pos (by decide), L3_in_ev, L3_in_ev, Option.bind_some, w64 (by omega) (by omega)]
      by_cases ca : 0 ≤ a ∧ a ≤ (k : Int) - 1
      · rw [decide_eq_true ca, if_pos rfl, Option.bind_some]
        by_cases cb : 0 ≤ b ∧ b ≤ (k : Int) - 1
        · rw [decide_eq_true cb, if_pos rfl, Option.bind_some, if_neg (by decide)]
          right
          obtain ⟨a', rfl⟩ := Int.eq_ofNat_of_zero_le ca.1
          obtain ⟨b', rfl⟩ := Int.eq_ofNat_of_zero_le cb.1
          exact ⟨rfl, neck_both h1 hk h24 hin hch (by omega) (by omega)⟩
        · rw [decide_eq_false cb, if_neg (by decide), Option.bind_some, if_pos rfl]
          exact .inl ⟨rfl, neck_out h1 hk hch fun q => cb q.2⟩
      · rw [decide_eq_false ca, if_neg (by decide), Option.bind_some, if_pos rfl]
        exact .inl ⟨rfl, neck_out h1 hk hch fun q => ca q.1⟩
    have hbr : SE_Bools 300 R.2.1 R.2.1 = some true := bools_refl (by omega)
    have hb0 : SE_Bools 300 [] [] = some true := bools_refl (by simp)
    by_cases c : R.1.getD 0 0 = 2 ^ k - 1
    · rw [decide_eq_true c, if_pos rfl, Option.bind_some, if_pos c, Option.bind_some]
      dsimp only
      rw [hme, Option.bind_some, if_pos rfl, hbr, Option.bind_some, if_pos rfl, Option.bind_some, if_pos rfl, if_pos (by rw [beq_self_eq_true]), Option.bind_some]
      rcases hneck none with ⟨g1, g2⟩ | ⟨g1, ⟨c, hc, g2, g3⟩ | ⟨g2, g3⟩⟩
      · rw [g1, Option.bind_some, if_neg (by decide), Option.bind_some, if_neg (by decide), Option.bind_some, g2, Option.bind_some]
        simp [hme]
      · rw [g1, Option.bind_some, if_pos (by decide), Option.bind_some, if_pos rfl, g2, Option.bind_some, if_neg (by omega), Option.bind_some, g3, Option.bind_some]
        simp [hme]
      · rw [g1, Option.bind_some, if_pos (by decide), Option.bind_some, if_pos rfl, g2, Option.bind_some, if_pos (by decide), Option.bind_some, g3, Option.bind_some]
        simp [hme]
    · rw [decide_eq_false c, if_neg (by decide), Option.bind_some, if_neg c, Option.bind_some]
      dsimp only
      rw [hme, Option.bind_some, if_pos rfl, hb0, Option.bind_some, if_pos rfl, Option.bind_some, if_pos rfl, if_pos (by decide), Option.bind_some]
      rcases hneck none with ⟨g1, g2⟩ | ⟨g1, ⟨c, hc, g2, g3⟩ | ⟨g2, g3⟩⟩
      · rw [g1, Option.bind_some, if_neg (by decide), Option.bind_some, if_neg (by decide), Option.bind_some, g2, Option.bind_some]
        simp [hme]
      · rw [g1, Option.bind_some, if_pos (by decide), Option.bind_some, if_pos rfl, g2, Option.bind_some, if_neg (by omega), Option.bind_some, g3, Option.bind_some]
        simp [hme]
      · rw [g1, Option.bind_some, if_pos (by decide), Option.bind_some, if_pos rfl, g2, Option.bind_some, if_pos (by decide), Option.bind_some, g3, Option.bind_some]
        simp [hme]
  · have hb0 : SE_Bools 300 [] [] = some true := bools_refl (by simp)
    have hz : (errC n l == 0) = false := by rw [beq_eq_false_iff_ne]; exact h
    rw [hz, if_neg (by decide), Option.bind_some, if_neg (by decide), Option.bind_some, least_bad h, Option.bind_some]
    dsimp only
    rw [hme, Option.bind_some, if_pos rfl, hb0, Option.bind_some, if_pos rfl, Option.bind_some, if_pos rfl, if_pos (by decide), Option.bind_some, if_neg (by decide), Option.bind_some, if_neg (by decide), Option.bind_some, hz, if_neg (by decide), Option.bind_some, if_neg (by decide), Option.bind_some, neck_bad h, Option.bind_some]
    simp [hme]
theorem spanSays_any (w : World) (htc : TyCell w) (n : Int) (hn : (Lit.int .i64 n).wf = true) (A : Option Addr) (cap : Nat) (l : List (Int × Int × Int)) (hr : ReadsC w w.heap.size A l) (hl : l.length ≤ maxLen) (a : Int) (ha : (Lit.int .i64 a).wf = true) (b : Int) (hb : (Lit.int .i64 b).wf = true) :
    Calls Tryd.prog 3 #[.int .i64 n, .slice A l.length cap, .int .i64 a, .int .i64 b] w fun e w' => e = .returned (.bool true) ∧ Below w.heap.size w w' :=
  L3_SpanSays_ok w htc cap hr (says_ev n l a b)
end
end Go.Proofs.YtccdnokddkpmgaaDoor
