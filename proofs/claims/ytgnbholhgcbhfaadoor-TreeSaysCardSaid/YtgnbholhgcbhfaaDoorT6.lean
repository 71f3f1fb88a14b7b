import Derived.Test.YtgnbholhgcbhfaaDoorT3
import Derived.Test.YtgnbholhgcbhfaaDoorGF
import Derived.Test.YtgnbholhgcbhfaaDoorGR
import Derived.Test.YtgnbholhgcbhfaaDoorBSt
import Derived.Test.YtgnbholhgcbhfaaDoorErr
set_option linter.all false
set_option maxRecDepth 100000
namespace Go.Proofs.YtgnbholhgcbhfaaDoor
open Go.RowKit
def R3_Middle_L1 (F : Nat) (v0 : Int) (v4 : List (List Int)) : Nat → (Int) → (Int) → Option (Int × Int)
  | 0, _, _ => none
  | g+1, v5, v6 => if v6 < v0 then ((ix v4 v6).bind fun y2 => (R3_Most F (y2)).bind fun y3 => if y3 < v5 then (ix v4 v6).bind fun y4 => (R3_Most F (y4)).bind fun y5 => R3_Middle_L1 F v0 v4 g (y5) ((wrap64 (v6 + 1))) else R3_Middle_L1 F v0 v4 g (v5) ((wrap64 (v6 + 1)))) else some (v5, v6)
theorem R3_Middle_L1_0 (F : Nat) (v0 : Int) (v4 : List (List Int)) (v5 : Int) (v6 : Int) : R3_Middle_L1 F v0 v4 0 v5 v6 = none := by rw [R3_Middle_L1]
theorem R3_Middle_L1_s (F g : Nat) (v0 : Int) (v4 : List (List Int)) (v5 : Int) (v6 : Int) : R3_Middle_L1 F v0 v4 (g+1) v5 v6 = (if v6 < v0 then ((ix v4 v6).bind fun y2 => (R3_Most F (y2)).bind fun y3 => if y3 < v5 then (ix v4 v6).bind fun y4 => (R3_Most F (y4)).bind fun y5 => R3_Middle_L1 F v0 v4 g (y5) ((wrap64 (v6 + 1))) else R3_Middle_L1 F v0 v4 g (v5) ((wrap64 (v6 + 1)))) else some (v5, v6)) := by rw [R3_Middle_L1]
def R3_Middle_L2 (F : Nat) (v0 : Int) (v4 : List (List Int)) (v5 : Int) : Nat → (List Int) → (Int) → Option (List Int × Int)
  | 0, _, _ => none
  | g+1, v7, v8 => if v8 < v0 then ((ix v4 v8).bind fun y7 => (R3_Most F (y7)).bind fun y8 => if (y8 == v5) = true then (app v7 v8).bind fun y9 => R3_Middle_L2 F v0 v4 v5 g (y9) ((wrap64 (v8 + 1))) else R3_Middle_L2 F v0 v4 v5 g (v7) ((wrap64 (v8 + 1)))) else some (v7, v8)
theorem R3_Middle_L2_0 (F : Nat) (v0 : Int) (v4 : List (List Int)) (v5 : Int) (v7 : List Int) (v8 : Int) : R3_Middle_L2 F v0 v4 v5 0 v7 v8 = none := by rw [R3_Middle_L2]
theorem R3_Middle_L2_s (F g : Nat) (v0 : Int) (v4 : List (List Int)) (v5 : Int) (v7 : List Int) (v8 : Int) : R3_Middle_L2 F v0 v4 v5 (g+1) v7 v8 = (if v8 < v0 then ((ix v4 v8).bind fun y7 => (R3_Most F (y7)).bind fun y8 => if (y8 == v5) = true then (app v7 v8).bind fun y9 => R3_Middle_L2 F v0 v4 v5 g (y9) ((wrap64 (v8 + 1))) else R3_Middle_L2 F v0 v4 v5 g (v7) ((wrap64 (v8 + 1)))) else some (v7, v8)) := by rw [R3_Middle_L2]
def R3_Middle (F : Nat) (v0 : Int) (v1 : List (Int × Int)) : Option (List Int × Int) := (R1_Far F (v0) (v1) (true) ((-1))).bind fun y1 => (R3_Middle_L1 F (v0) (y1) F (v0) (0)).bind fun o6 => (R3_Middle_L2 F (v0) (y1) (o6.1) F ([]) (0)).bind fun o10 => some ((o10.1, o6.1))
set_option maxRecDepth 100000 in
set_option maxHeartbeats 4000000 in
theorem R3_Middle_ok {F : Nat} {v0 : Int} {v1 : List (Int × Int)} {A1 : Option Addr} {r : List Int × Int} (w : World) (cap1 : Nat) (hr1 : ReadsL w w.heap.size A1 v1) (h : R3_Middle F v0 v1 = some r) :
    Calls Tryd.prog 7 #[.int .i64 v0, .slice A1 v1.length cap1] w (PostG (fun v => (.tuple #[v, (.int .i64 r.2)])) (fun v => owI v r.1) w.heap.size w) := by
  have HR1 := Lib.hid hr1; clear hr1
  have HD := Lib.hid (Below.refl w.heap.size w)
  have HOA := Lib.hid (HP.nil (W := w) (B := w.heap.size))
  unfold R3_Middle at h
  have HM := Lib.hid h; clear h
  go_enter Tryd.func7, Tryd.ntmps7
  obtain ⟨y3, hy1, hm⟩ := obind HM.out
  replace HM := Lib.hid hm; clear hm
  have HC2 := R1_Far_ok w cap1 (rdL HD.out HR1.out) hy1
  clear hy1
  replace HC2 := Lib.hid HC2
  go_wp2_with fail
  refine HC2.out.mono ?_; rintro e W4 ⟨V5, rfl, ho, hd⟩
  replace HOA := Lib.hid (HOA.out.callR hd HD.out.size ho); clear ho
  replace HD := Lib.hid (HD.out.trans (hd.mono HD.out.size))
  clear hd
  go_wp2_with fail
  obtain ⟨o7, ho, hm⟩ := obind HM.out
  replace HM := Lib.hid hm; have HL1 := Lib.hid ho; clear hm ho
  go_loopg [7, 8] F (fun gg ux10 ux11 wr => ∃ (x8 : Int) (x9 : Int), ux10 = .int .i64 x8 ∧ ux11 = .int .i64 x9 ∧ Hid (Below W4.heap.size W4 wr) ∧ Hid (R3_Middle_L1 F (v0) (y3) gg x8 x9 = some o7))
  case atStart => exact ⟨v0, 0, rfl, rfl, (Lib.hid (Below.refl _ _)), HL1⟩
  case round =>
    obtain ⟨x8, x9, rfl, rfl, HW1, HL1⟩ := hrel
    rename World => W12
    have hd := HW1.out
    replace HOA := Lib.hid (HOA.out.below hd)
    replace HD := Lib.hid (HD.out.trans (hd.mono HD.out.size))
    clear hd
    cases gk with
    | zero => exact absurd ((R3_Middle_L1_0 ..).symm.trans HL1.out) (by intro h; cases h)
    | succ g1 =>
      replace HL1 := Lib.hid ((R3_Middle_L1_s ..).symm.trans HL1.out)
      by_cases hc13 : x9 < v0
      · replace HL1 := Lib.hid (ifT hc13 HL1.out)
        have HK14 := Lib.hid hc13
        obtain ⟨A17, cap18, he, _⟩ := HP.open_R HOA.out (List.Mem.head _)
        subst he
        obtain ⟨y15, hy16, hm⟩ := obind HL1.out
        replace HL1 := Lib.hid hm; clear hm
        obtain ⟨b19, o20, A26, cap27, ea21, _, f22, f23, f24, hrr, hrc⟩ := ReadsR.ixc (HP.rd_R HOA.out (List.Mem.head _)) hy16
        cases ea21
        have HR28c := Lib.hid hrc; clear hrc
        try simp only [Nat.zero_add, Nat.add_zero, Int.toNat_natCast, Int.toNat_zero, Int.toNat_one] at f24
        have HR28 := Lib.hid hrr; clear hrr
        try rw [← HP.len_R HOA.out (List.Mem.head _)] at f23
        have HY29 := Lib.hid hy16; clear hy16
        obtain ⟨y32, hy30, hm⟩ := obind HL1.out
        replace HL1 := Lib.hid hm; clear hm
        have HC31 := R3_Most_ok W12 cap27 HR28.out hy30
        clear hy30
        replace HC31 := Lib.hid HC31
        by_cases hc33 : y32 < x8
        · replace HL1 := Lib.hid (ifT hc33 HL1.out)
          have HK34 := Lib.hid hc33
          obtain ⟨y35, hy36, hm⟩ := obind HL1.out
          replace HL1 := Lib.hid hm; clear hm
          obtain rfl := Option.some.inj (HY29.out.symm.trans hy36)
          clear hy36
          obtain ⟨y39, hy37, hm⟩ := obind HL1.out
          replace HL1 := Lib.hid hm; clear hm
          have HC38 := R3_Most_ok W12 cap27 HR28.out hy37
          clear hy37
          replace HC38 := Lib.hid HC38
          go_wp2_with fail
          refine HC31.out.mono ?_; rintro e w' ⟨rfl, rfl⟩
          go_wp2_with fail
          refine HC38.out.mono ?_; rintro e w' ⟨rfl, rfl⟩
          go_wp2_with fail
          try clear hc13 f22 f23 f24 hc33
          go_roundg g1
          case measure => omega
          case rel => exact ⟨y39, (wrap64 (x9 + 1)), rfl, rfl, HW1, HL1⟩
        · replace HL1 := Lib.hid (ifF hc33 HL1.out)
          have hc33d := decide_eq_false hc33
          have HK34 := Lib.hid hc33
          go_wp2_with fail
          refine HC31.out.mono ?_; rintro e w' ⟨rfl, rfl⟩
          go_wp2_with fail
          try clear hc13 f22 f23 f24 hc33 hc33d
          go_roundg g1
          case measure => omega
          case rel => exact ⟨x8, (wrap64 (x9 + 1)), rfl, rfl, HW1, HL1⟩
      · replace HL1 := Lib.hid (ifF hc13 HL1.out)
        have hc13d := decide_eq_false hc13
        have HK14 := Lib.hid hc13
        obtain rfl := Option.some.inj HL1.out
        have hm := HM.out; try dsimp only at hm
        replace HM := Lib.hid hm; clear hm
        replace HOA := Lib.hid (show HP _ _ (.fl (owI (.slice none 0 0) ([])) :: _) from HOA.out.pushNil _ _)
        go_wp2_with fail
        try clear hc13 hc13d
        obtain ⟨o41, ho, hm⟩ := obind HM.out
        replace HM := Lib.hid hm; have HL2 := Lib.hid ho; clear hm ho
        go_loopg [9, 10] F (fun gg ux44 ux45 wr => ∃ (x42 : List Int) (x43 : Int) (V46 : Value), V46 = ux44 ∧ ux45 = .int .i64 x43 ∧ Hid (Below w.heap.size w wr) ∧ Hid (HP wr w.heap.size [.fl (owI V46 (x42)), .ro V5 (y3)]) ∧ Hid (R3_Middle_L2 F (v0) (y3) (x8) gg x42 x43 = some o41))
        case atStart => exact ⟨[], 0, (.slice none 0 0), rfl, rfl, HD, HOA, HL2⟩
        case round =>
          obtain ⟨x42, x43, V46, rfl, rfl, HD, HOA, HL2⟩ := hrel
          rename World => W47
          cases gk with
          | zero => exact absurd ((R3_Middle_L2_0 ..).symm.trans HL2.out) (by intro h; cases h)
          | succ g2 =>
            replace HL2 := Lib.hid ((R3_Middle_L2_s ..).symm.trans HL2.out)
            by_cases hc48 : x43 < v0
            · replace HL2 := Lib.hid (ifT hc48 HL2.out)
              have HK49 := Lib.hid hc48
              obtain ⟨A52, cap53, he, _⟩ := HP.open_R HOA.out (List.Mem.tail _ (List.Mem.head _))
              subst he
              obtain ⟨y50, hy51, hm⟩ := obind HL2.out
              replace HL2 := Lib.hid hm; clear hm
              obtain ⟨b54, o55, A61, cap62, ea56, _, f57, f58, f59, hrr, hrc⟩ := ReadsR.ixc (HP.rd_R HOA.out (List.Mem.tail _ (List.Mem.head _))) hy51
              cases ea56
              have HR63c := Lib.hid hrc; clear hrc
              try simp only [Nat.zero_add, Nat.add_zero, Int.toNat_natCast, Int.toNat_zero, Int.toNat_one] at f59
              have HR63 := Lib.hid hrr; clear hrr
              try rw [← HP.len_R HOA.out (List.Mem.tail _ (List.Mem.head _))] at f58
              have HY64 := Lib.hid hy51; clear hy51
              obtain ⟨y67, hy65, hm⟩ := obind HL2.out
              replace HL2 := Lib.hid hm; clear hm
              have HC66 := R3_Most_ok W47 cap62 HR63.out hy65
              clear hy65
              replace HC66 := Lib.hid HC66
              rcases Bool.eq_false_or_eq_true (y67 == x8) with hc68 | hc68
              · replace HL2 := Lib.hid (ifT hc68 HL2.out)
                have HK69 := Lib.hid hc68
                obtain ⟨y70, hy71, hm⟩ := obind HL2.out
                replace HL2 := Lib.hid hm; clear hm
                obtain ⟨f72, hy71⟩ := app_some hy71; subst hy71
                go_wp2_with fail
                refine HC66.out.mono ?_; rintro e w' ⟨rfl, rfl⟩
                have HF75 := Lib.hid f72; clear f72
                go_upto_region 11 with (at_builtin; refine hp_appI _ (.tmp 44) (.tmp 46) 28 Tryd.underlying28 rfl rfl (L1 := []) HOA.out rfl rfl HF75.out HD.out.size ?_; intro V73 W74 hoa hd)
                try clear hc48 f57 f58 f59 hc68
                replace HOA := Lib.hid (show HP W74 w.heap.size [.fl (owI V73 ((x42 ++ [x43]))), .ro (.slice (some ⟨b54, o55, none⟩) (y3).length cap53) (y3)] from hoa); clear hoa
                replace HD := Lib.hid (HD.out.trans hd); clear hd
                go_wp2_with fail
                go_roundg g2
                case measure => omega
                case rel => exact ⟨(x42 ++ [x43]), (wrap64 (x43 + 1)), V73, rfl, rfl, HD, HOA, HL2⟩
              · replace HL2 := Lib.hid (ifF (bF hc68) HL2.out)
                have HK69 := Lib.hid hc68
                go_wp2_with fail
                refine HC66.out.mono ?_; rintro e w' ⟨rfl, rfl⟩
                go_wp2_with fail
                try clear hc48 f57 f58 f59 hc68
                go_roundg g2
                case measure => omega
                case rel => exact ⟨x42, (wrap64 (x43 + 1)), V46, rfl, rfl, HD, HOA, HL2⟩
            · replace HL2 := Lib.hid (ifF hc48 HL2.out)
              have hc48d := decide_eq_false hc48
              have HK49 := Lib.hid hc48
              obtain rfl := Option.some.inj HL2.out
              have hm := HM.out; try dsimp only at hm
              replace HM := Lib.hid hm; clear hm
              obtain rfl := Option.some.inj HM.out
              go_wp2_with fail
              try clear hc48 hc48d
              go_ret2
              exact ⟨_, rfl, HOA.out.get (List.Mem.head _), HD.out⟩
def R3_Before_L1 (F : Nat) (v0 : ByteArray) (v1 : ByteArray) : Nat → (Int) → Option ((Int) ⊕ (Bool))
  | 0, _ => none
  | g+1, v3 => (if v3 < ((v0).size : Int) then if v3 < ((v1).size : Int) then some true else some false else some false).bind fun b1 => if b1 = true then ((sIx v0 v3).bind fun y2 => (sIx v1 v3).bind fun y3 => if (y2 != y3) = true then ((sIx v0 v3).bind fun y5 => (sIx v1 v3).bind fun y6 => if y5 < y6 then some true else some false).bind fun b4 => some (.inr (b4)) else R3_Before_L1 F v0 v1 g ((wrap64 (v3 + 1)))) else some (.inl (v3))
theorem R3_Before_L1_0 (F : Nat) (v0 : ByteArray) (v1 : ByteArray) (v3 : Int) : R3_Before_L1 F v0 v1 0 v3 = none := by rw [R3_Before_L1]
theorem R3_Before_L1_s (F g : Nat) (v0 : ByteArray) (v1 : ByteArray) (v3 : Int) : R3_Before_L1 F v0 v1 (g+1) v3 = ((if v3 < ((v0).size : Int) then if v3 < ((v1).size : Int) then some true else some false else some false).bind fun b1 => if b1 = true then ((sIx v0 v3).bind fun y2 => (sIx v1 v3).bind fun y3 => if (y2 != y3) = true then ((sIx v0 v3).bind fun y5 => (sIx v1 v3).bind fun y6 => if y5 < y6 then some true else some false).bind fun b4 => some (.inr (b4)) else R3_Before_L1 F v0 v1 g ((wrap64 (v3 + 1)))) else some (.inl (v3))) := by rw [R3_Before_L1]
def R3_Before (F : Nat) (v0 : ByteArray) (v1 : ByteArray) : Option (Bool) := (R3_Before_L1 F (v0) (v1) F (0)).bind fun o7 => match o7 with | .inr r => some (r) | .inl o7 => (if ((v0).size : Int) < ((v1).size : Int) then some true else some false).bind fun b8 => some (b8)
set_option maxRecDepth 100000 in
set_option maxHeartbeats 4000000 in
theorem R3_Before_ok {F : Nat} {v0 : ByteArray} {v1 : ByteArray} {r : Bool} (w : World)  (h : R3_Before F v0 v1 = some r) :
    Calls Tryd.prog 22 #[.string v0, .string v1] w fun e w' => e = .returned (.bool r) ∧ Dr w w' := by
  have HD := Lib.hid (Dr.refl w)
  unfold R3_Before at h
  have HM := Lib.hid h; clear h
  go_enter Tryd.func22, Tryd.ntmps22
  go_wp2_with fail
  obtain ⟨o1, ho, hm⟩ := obind HM.out
  replace HM := Lib.hid hm; have HL1 := Lib.hid ho; clear hm ho
  go_loopg [5] F (fun gg ux3 wr => ∃ (x2 : Int), ux3 = .int .i64 x2 ∧ Hid (Dr w wr) ∧ Hid (R3_Before_L1 F (v0) (v1) gg x2 = some o1))
  case atStart => exact ⟨0, rfl, HD, HL1⟩
  case round =>
    obtain ⟨x2, rfl, HD, HL1⟩ := hrel
    rename World => W4
    cases gk with
    | zero => exact absurd ((R3_Before_L1_0 ..).symm.trans HL1.out) (by intro h; cases h)
    | succ g1 =>
      replace HL1 := Lib.hid ((R3_Before_L1_s ..).symm.trans HL1.out)
      obtain ⟨b5, hb, hm⟩ := obind HL1.out
      replace HL1 := Lib.hid hm; have HB6 := Lib.hid hb; clear hm hb
      by_cases hc7 : x2 < ((v0).size : Int)
      · replace HB6 := Lib.hid (ifT hc7 HB6.out)
        have HK8 := Lib.hid hc7
        by_cases hc9 : x2 < ((v1).size : Int)
        · replace HB6 := Lib.hid (ifT hc9 HB6.out)
          have HK10 := Lib.hid hc9
          obtain rfl := Option.some.inj HB6.out
          replace HL1 := Lib.hid (ifT (by first | rfl | trivial) HL1.out)
          try go_wp2_with fail
          try clear hc7 hc9
          obtain ⟨y11, hy12, hm⟩ := obind HL1.out
          replace HL1 := Lib.hid hm; clear hm
          have HY16 := Lib.hid hy12
          obtain ⟨b15, f13, f14, f17, f18, hy12⟩ := sIx_some hy12; subst hy12
          obtain ⟨y19, hy20, hm⟩ := obind HL1.out
          replace HL1 := Lib.hid hm; clear hm
          have HY24 := Lib.hid hy20
          obtain ⟨b23, f21, f22, f25, f26, hy20⟩ := sIx_some hy20; subst hy20
          rcases Bool.eq_false_or_eq_true (((b15.toNat : Nat) : Int) != ((b23.toNat : Nat) : Int)) with hc27 | hc27
          · replace HL1 := Lib.hid (ifT hc27 HL1.out)
            have HK28 := Lib.hid hc27
            go_quiet (fail)
            generalize hW : World.drewN W4 _ = W29
            have hd : Dr W4 W29 := ⟨_, hW.symm⟩
            clear hW
            try clear f13 f14 f17 f18 f21 f22 f25 f26 hc27
            replace HD := Lib.hid (HD.out.trans hd); clear hd
            try go_wp2_with fail
            obtain ⟨b30, hb, hm⟩ := obind HL1.out
            replace HL1 := Lib.hid hm; have HB31 := Lib.hid hb; clear hm hb
            obtain ⟨y32, hy33, hm⟩ := obind HB31.out
            replace HB31 := Lib.hid hm; clear hm
            have HY37 := Lib.hid hy33
            obtain ⟨b36, f34, f35, f38, f39, hy33⟩ := sIx_some hy33; subst hy33
            obtain ⟨y40, hy41, hm⟩ := obind HB31.out
            replace HB31 := Lib.hid hm; clear hm
            have HY45 := Lib.hid hy41
            obtain ⟨b44, f42, f43, f46, f47, hy41⟩ := sIx_some hy41; subst hy41
            by_cases hc48 : ((b36.toNat : Nat) : Int) < ((b44.toNat : Nat) : Int)
            · replace HB31 := Lib.hid (ifT hc48 HB31.out)
              have HK49 := Lib.hid hc48
              obtain rfl := Option.some.inj HB31.out
              go_quiet (fail)
              generalize hW : World.drewN W29 _ = W50
              have hd : Dr W29 W50 := ⟨_, hW.symm⟩
              clear hW
              try clear f34 f35 f38 f39 f42 f43 f46 f47 hc48
              replace HD := Lib.hid (HD.out.trans hd); clear hd
              obtain rfl := Option.some.inj HL1.out
              have hm := HM.out; try dsimp only at hm
              replace HM := Lib.hid hm; clear hm
              obtain rfl := Option.some.inj HM.out
              go_wp2_with fail
              go_ret
              exact ⟨rfl, HD.out⟩
            · replace HB31 := Lib.hid (ifF hc48 HB31.out)
              have hc48d := decide_eq_false hc48
              have HK49 := Lib.hid hc48
              obtain rfl := Option.some.inj HB31.out
              go_quiet (fail)
              generalize hW : World.drewN W29 _ = W51
              have hd : Dr W29 W51 := ⟨_, hW.symm⟩
              clear hW
              try clear f34 f35 f38 f39 f42 f43 f46 f47 hc48 hc48d
              replace HD := Lib.hid (HD.out.trans hd); clear hd
              obtain rfl := Option.some.inj HL1.out
              have hm := HM.out; try dsimp only at hm
              replace HM := Lib.hid hm; clear hm
              obtain rfl := Option.some.inj HM.out
              go_wp2_with fail
              go_ret
              exact ⟨rfl, HD.out⟩
          · replace HL1 := Lib.hid (ifF (bF hc27) HL1.out)
            have HK28 := Lib.hid hc27
            go_quiet (fail)
            generalize hW : World.drewN W4 _ = W52
            have hd : Dr W4 W52 := ⟨_, hW.symm⟩
            clear hW
            try clear f13 f14 f17 f18 f21 f22 f25 f26 hc27
            replace HD := Lib.hid (HD.out.trans hd); clear hd
            go_wp2_with fail
            go_roundg g1
            case measure => omega
            case rel => exact ⟨(wrap64 (x2 + 1)), rfl, HD, HL1⟩
        · replace HB6 := Lib.hid (ifF hc9 HB6.out)
          have hc9d := decide_eq_false hc9
          have HK10 := Lib.hid hc9
          obtain rfl := Option.some.inj HB6.out
          replace HL1 := Lib.hid (ifF (by first | exact Bool.false_ne_true | exact not_false) HL1.out)
          obtain rfl := Option.some.inj HL1.out
          have hm := HM.out; try dsimp only at hm
          replace HM := Lib.hid hm; clear hm
          obtain ⟨b53, hb, hm⟩ := obind HM.out
          replace HM := Lib.hid hm; have HB54 := Lib.hid hb; clear hm hb
          by_cases hc55 : ((v0).size : Int) < ((v1).size : Int)
          · replace HB54 := Lib.hid (ifT hc55 HB54.out)
            have HK56 := Lib.hid hc55
            obtain rfl := Option.some.inj HB54.out
            obtain rfl := Option.some.inj HM.out
            go_wp2_with fail
            go_ret
            exact ⟨(by first | rfl | (refine congrArg (fun b => Ending.returned (Value.bool b)) ?_; first | (exact decide_eq_true (by omega)) | (exact decide_eq_false (by omega)) | (have q := hc9d; rw [bne_iff_ne] at q ⊢; omega) | (have q := hc9d; rw [bne_eq_false_iff_eq] at q ⊢; omega) | (have q := hc9d; rw [beq_iff_eq] at q ⊢; omega) | (have q := hc9d; rw [beq_eq_false_iff_ne] at q ⊢; omega) | (have q := hc55; rw [bne_iff_ne] at q ⊢; omega) | (have q := hc55; rw [bne_eq_false_iff_eq] at q ⊢; omega) | (have q := hc55; rw [beq_iff_eq] at q ⊢; omega) | (have q := hc55; rw [beq_eq_false_iff_ne] at q ⊢; omega) | exact hc9d | (rw [hc9d]; rfl) | exact hc55 | (rw [hc55]; rfl))), HD.out⟩
          · replace HB54 := Lib.hid (ifF hc55 HB54.out)
            have hc55d := decide_eq_false hc55
            have HK56 := Lib.hid hc55
            obtain rfl := Option.some.inj HB54.out
            obtain rfl := Option.some.inj HM.out
            go_wp2_with fail
            go_ret
            exact ⟨(by first | rfl | (refine congrArg (fun b => Ending.returned (Value.bool b)) ?_; first | (exact decide_eq_true (by omega)) | (exact decide_eq_false (by omega)) | (have q := hc55; rw [bne_iff_ne] at q ⊢; omega) | (have q := hc55; rw [bne_eq_false_iff_eq] at q ⊢; omega) | (have q := hc55; rw [beq_iff_eq] at q ⊢; omega) | (have q := hc55; rw [beq_eq_false_iff_ne] at q ⊢; omega) | (have q := hc55d; rw [bne_iff_ne] at q ⊢; omega) | (have q := hc55d; rw [bne_eq_false_iff_eq] at q ⊢; omega) | (have q := hc55d; rw [beq_iff_eq] at q ⊢; omega) | (have q := hc55d; rw [beq_eq_false_iff_ne] at q ⊢; omega) | exact hc55 | (rw [hc55]; rfl) | exact hc55d | (rw [hc55d]; rfl))), HD.out⟩
      · replace HB6 := Lib.hid (ifF hc7 HB6.out)
        have hc7d := decide_eq_false hc7
        have HK8 := Lib.hid hc7
        obtain rfl := Option.some.inj HB6.out
        replace HL1 := Lib.hid (ifF (by first | exact Bool.false_ne_true | exact not_false) HL1.out)
        obtain rfl := Option.some.inj HL1.out
        have hm := HM.out; try dsimp only at hm
        replace HM := Lib.hid hm; clear hm
        obtain ⟨b57, hb, hm⟩ := obind HM.out
        replace HM := Lib.hid hm; have HB58 := Lib.hid hb; clear hm hb
        by_cases hc59 : ((v0).size : Int) < ((v1).size : Int)
        · replace HB58 := Lib.hid (ifT hc59 HB58.out)
          have HK60 := Lib.hid hc59
          obtain rfl := Option.some.inj HB58.out
          obtain rfl := Option.some.inj HM.out
          go_wp2_with fail
          go_ret
          exact ⟨(by first | rfl | (refine congrArg (fun b => Ending.returned (Value.bool b)) ?_; first | (exact decide_eq_true (by omega)) | (exact decide_eq_false (by omega)) | (have q := hc7d; rw [bne_iff_ne] at q ⊢; omega) | (have q := hc7d; rw [bne_eq_false_iff_eq] at q ⊢; omega) | (have q := hc7d; rw [beq_iff_eq] at q ⊢; omega) | (have q := hc7d; rw [beq_eq_false_iff_ne] at q ⊢; omega) | (have q := hc59; rw [bne_iff_ne] at q ⊢; omega) | (have q := hc59; rw [bne_eq_false_iff_eq] at q ⊢; omega) | (have q := hc59; rw [beq_iff_eq] at q ⊢; omega) | (have q := hc59; rw [beq_eq_false_iff_ne] at q ⊢; omega) | exact hc7d | (rw [hc7d]; rfl) | exact hc59 | (rw [hc59]; rfl))), HD.out⟩
        · replace HB58 := Lib.hid (ifF hc59 HB58.out)
          have hc59d := decide_eq_false hc59
          have HK60 := Lib.hid hc59
          obtain rfl := Option.some.inj HB58.out
          obtain rfl := Option.some.inj HM.out
          go_wp2_with fail
          go_ret
          exact ⟨(by first | rfl | (refine congrArg (fun b => Ending.returned (Value.bool b)) ?_; first | (exact decide_eq_true (by omega)) | (exact decide_eq_false (by omega)) | (have q := hc59; rw [bne_iff_ne] at q ⊢; omega) | (have q := hc59; rw [bne_eq_false_iff_eq] at q ⊢; omega) | (have q := hc59; rw [beq_iff_eq] at q ⊢; omega) | (have q := hc59; rw [beq_eq_false_iff_ne] at q ⊢; omega) | (have q := hc59d; rw [bne_iff_ne] at q ⊢; omega) | (have q := hc59d; rw [bne_eq_false_iff_eq] at q ⊢; omega) | (have q := hc59d; rw [beq_iff_eq] at q ⊢; omega) | (have q := hc59d; rw [beq_eq_false_iff_ne] at q ⊢; omega) | exact hc59 | (rw [hc59]; rfl) | exact hc59d | (rw [hc59d]; rfl))), HD.out⟩
def R3_name_L1 (F : Nat) (rec : (Int) → (List (Int × Int)) → (Int) → (Int) → Option (ByteArray)) (v0 : Int) (v1 : List (Int × Int)) (v2 : Int) (v3 : Int) : Nat → (List ByteArray) → (Int) → Option (List ByteArray × Int)
  | 0, _, _ => none
  | g+1, v5, v6 => if v6 < v0 then ((if (v6 != v3) = true then (R1_Beside F (v1) (v2) (v6)).bind fun y2 => if y2 = true then some true else some false else some false).bind fun b1 => if b1 = true then (rec (v0) (v1) (v6) (v2)).bind fun y4 => (app v5 y4).bind fun y3 => R3_name_L1 F rec v0 v1 v2 v3 g (y3) ((wrap64 (v6 + 1))) else R3_name_L1 F rec v0 v1 v2 v3 g (v5) ((wrap64 (v6 + 1)))) else some (v5, v6)
theorem R3_name_L1_0 (F : Nat) (rec : (Int) → (List (Int × Int)) → (Int) → (Int) → Option (ByteArray)) (v0 : Int) (v1 : List (Int × Int)) (v2 : Int) (v3 : Int) (v5 : List ByteArray) (v6 : Int) : R3_name_L1 F rec v0 v1 v2 v3 0 v5 v6 = none := by rw [R3_name_L1]
theorem R3_name_L1_s (F g : Nat) (rec : (Int) → (List (Int × Int)) → (Int) → (Int) → Option (ByteArray)) (v0 : Int) (v1 : List (Int × Int)) (v2 : Int) (v3 : Int) (v5 : List ByteArray) (v6 : Int) : R3_name_L1 F rec v0 v1 v2 v3 (g+1) v5 v6 = (if v6 < v0 then ((if (v6 != v3) = true then (R1_Beside F (v1) (v2) (v6)).bind fun y2 => if y2 = true then some true else some false else some false).bind fun b1 => if b1 = true then (rec (v0) (v1) (v6) (v2)).bind fun y4 => (app v5 y4).bind fun y3 => R3_name_L1 F rec v0 v1 v2 v3 g (y3) ((wrap64 (v6 + 1))) else R3_name_L1 F rec v0 v1 v2 v3 g (v5) ((wrap64 (v6 + 1)))) else some (v5, v6)) := by rw [R3_name_L1]
def R3_name_L3 (F : Nat) (rec : (Int) → (List (Int × Int)) → (Int) → (Int) → Option (ByteArray)) (v5 : List ByteArray) (v8 : List Bool) : Nat → (Int) → (Int) → Option (Int × Int)
  | 0, _, _ => none
  | g+1, v10, v11 => if v11 < ((v5).length : Int) then (((ix v8 v11).bind fun y8 => if y8 = true then some false else if v10 < 0 then some true else (ix v5 v11).bind fun y9 => (ix v5 v10).bind fun y10 => (R3_Before F (y9) (y10)).bind fun y11 => if y11 = true then some true else some false).bind fun b7 => if b7 = true then R3_name_L3 F rec v5 v8 g (v11) ((wrap64 (v11 + 1))) else R3_name_L3 F rec v5 v8 g (v10) ((wrap64 (v11 + 1)))) else some (v10, v11)
theorem R3_name_L3_0 (F : Nat) (rec : (Int) → (List (Int × Int)) → (Int) → (Int) → Option (ByteArray)) (v5 : List ByteArray) (v8 : List Bool) (v10 : Int) (v11 : Int) : R3_name_L3 F rec v5 v8 0 v10 v11 = none := by rw [R3_name_L3]
theorem R3_name_L3_s (F g : Nat) (rec : (Int) → (List (Int × Int)) → (Int) → (Int) → Option (ByteArray)) (v5 : List ByteArray) (v8 : List Bool) (v10 : Int) (v11 : Int) : R3_name_L3 F rec v5 v8 (g+1) v10 v11 = (if v11 < ((v5).length : Int) then (((ix v8 v11).bind fun y8 => if y8 = true then some false else if v10 < 0 then some true else (ix v5 v11).bind fun y9 => (ix v5 v10).bind fun y10 => (R3_Before F (y9) (y10)).bind fun y11 => if y11 = true then some true else some false).bind fun b7 => if b7 = true then R3_name_L3 F rec v5 v8 g (v11) ((wrap64 (v11 + 1))) else R3_name_L3 F rec v5 v8 g (v10) ((wrap64 (v11 + 1)))) else some (v10, v11)) := by rw [R3_name_L3]
def R3_name_L2 (F : Nat) (rec : (Int) → (List (Int × Int)) → (Int) → (Int) → Option (ByteArray)) (v5 : List ByteArray) : Nat → (ByteArray) → (List Bool) → (Int) → Option (ByteArray × List Bool × Int)
  | 0, _, _, _ => none
  | g+1, v7, v8, v9 => if v9 < ((v5).length : Int) then (R3_name_L3 F rec (v5) (v8) F ((-1)) (0)).bind fun o12 => (st v8 o12.1 true).bind fun y13 => (ix v5 o12.1).bind fun y14 => (sCat v7 y14).bind fun y15 => R3_name_L2 F rec v5 g (y15) (y13) ((wrap64 (v9 + 1))) else some (v7, v8, v9)
theorem R3_name_L2_0 (F : Nat) (rec : (Int) → (List (Int × Int)) → (Int) → (Int) → Option (ByteArray)) (v5 : List ByteArray) (v7 : ByteArray) (v8 : List Bool) (v9 : Int) : R3_name_L2 F rec v5 0 v7 v8 v9 = none := by rw [R3_name_L2]
theorem R3_name_L2_s (F g : Nat) (rec : (Int) → (List (Int × Int)) → (Int) → (Int) → Option (ByteArray)) (v5 : List ByteArray) (v7 : ByteArray) (v8 : List Bool) (v9 : Int) : R3_name_L2 F rec v5 (g+1) v7 v8 v9 = (if v9 < ((v5).length : Int) then (R3_name_L3 F rec (v5) (v8) F ((-1)) (0)).bind fun o12 => (st v8 o12.1 true).bind fun y13 => (ix v5 o12.1).bind fun y14 => (sCat v7 y14).bind fun y15 => R3_name_L2 F rec v5 g (y15) (y13) ((wrap64 (v9 + 1))) else some (v7, v8, v9)) := by rw [R3_name_L2]
def R3_name (F : Nat) : Nat → (Int) → (List (Int × Int)) → (Int) → (Int) → Option (ByteArray)
  | 0, _, _, _, _ => none
  | d+1, v0, v1, v2, v3 => (R3_name_L1 F (R3_name F d) (v0) (v1) (v2) (v3) F ([]) (0)).bind fun o5 => (mkB ((o5.1).length : Int)).bind fun y6 => (R3_name_L2 F (R3_name F d) (o5.1) F ((⟨#[40]⟩ : ByteArray)) (y6) (0)).bind fun o16 => (sCat o16.1 (⟨#[41]⟩ : ByteArray)).bind fun y17 => some (y17)
theorem R3_name_s (F d : Nat) (v0 : Int) (v1 : List (Int × Int)) (v2 : Int) (v3 : Int) : R3_name F (d+1) v0 v1 v2 v3 = ((R3_name_L1 F (R3_name F d) (v0) (v1) (v2) (v3) F ([]) (0)).bind fun o5 => (mkB ((o5.1).length : Int)).bind fun y6 => (R3_name_L2 F (R3_name F d) (o5.1) F ((⟨#[40]⟩ : ByteArray)) (y6) (0)).bind fun o16 => (sCat o16.1 (⟨#[41]⟩ : ByteArray)).bind fun y17 => some (y17)) := by rw [R3_name]
theorem R3_name_0 (F : Nat) (v0 : Int) (v1 : List (Int × Int)) (v2 : Int) (v3 : Int) : R3_name F 0 v0 v1 v2 v3 = none := by rw [R3_name]
set_option maxRecDepth 100000 in
set_option maxHeartbeats 4000000 in
theorem R3_name_ok {F : Nat} : ∀ (d : Nat) {v0 : Int} {v1 : List (Int × Int)} {A1 : Option Addr} {v2 : Int} {v3 : Int} {r : ByteArray} (w : World) (cap1 : Nat) (hr1 : ReadsL w w.heap.size A1 v1) (h : R3_name F d v0 v1 v2 v3 = some r),
    Calls Tryd.prog 21 #[.int .i64 v0, .slice A1 v1.length cap1, .int .i64 v2, .int .i64 v3] w fun e w' => e = .returned (.string r) ∧ Below w.heap.size w w' := by
  intro d
  induction d with
  | zero =>
    intro v0 v1 A1 v2 v3 r w cap1 hr1 h
    rw [R3_name_0] at h; cases h
  | succ d ih =>
    intro v0 v1 A1 v2 v3 r w cap1 hr1 h
    have HR1 := Lib.hid hr1; clear hr1
    have HD := Lib.hid (Below.refl w.heap.size w)
    have HOA := Lib.hid (HP.nil (W := w) (B := w.heap.size))
    rw [R3_name_s] at h
    have HM := Lib.hid h; clear h
    go_enter Tryd.func21, Tryd.ntmps21
    replace HOA := Lib.hid (show HP _ _ (.fl (owS (.slice none 0 0) ([])) :: _) from HOA.out.pushNil _ _)
    go_wp2_with fail
    obtain ⟨o2, ho, hm⟩ := obind HM.out
    replace HM := Lib.hid hm; have HL1 := Lib.hid ho; clear hm ho
    go_loopg [9, 10] F (fun gg ux5 ux6 wr => ∃ (x3 : List ByteArray) (x4 : Int) (V7 : Value), V7 = ux5 ∧ ux6 = .int .i64 x4 ∧ Hid (Below w.heap.size w wr) ∧ Hid (HP wr w.heap.size [.fl (owS V7 (x3))]) ∧ Hid (R3_name_L1 F (R3_name F d) (v0) (v1) (v2) (v3) gg x3 x4 = some o2))
    case atStart => exact ⟨[], 0, (.slice none 0 0), rfl, rfl, HD, HOA, HL1⟩
    case round =>
      obtain ⟨x3, x4, V7, rfl, rfl, HD, HOA, HL1⟩ := hrel
      rename World => W8
      cases gk with
      | zero => exact absurd ((R3_name_L1_0 ..).symm.trans HL1.out) (by intro h; cases h)
      | succ g1 =>
        replace HL1 := Lib.hid ((R3_name_L1_s ..).symm.trans HL1.out)
        by_cases hc9 : x4 < v0
        · replace HL1 := Lib.hid (ifT hc9 HL1.out)
          have HK10 := Lib.hid hc9
          obtain ⟨b11, hb, hm⟩ := obind HL1.out
          replace HL1 := Lib.hid hm; have HB12 := Lib.hid hb; clear hm hb
          rcases Bool.eq_false_or_eq_true (x4 != v3) with hc13 | hc13
          · replace HB12 := Lib.hid (ifT hc13 HB12.out)
            have HK14 := Lib.hid hc13
            obtain ⟨y17, hy15, hm⟩ := obind HB12.out
            replace HB12 := Lib.hid hm; clear hm
            have HC16 := R1_Beside_ok W8 cap1 (rdL HD.out HR1.out) hy15
            clear hy15
            replace HC16 := Lib.hid HC16
            cases y17
            · replace HB12 := Lib.hid (ifF Bool.false_ne_true HB12.out)
              obtain rfl := Option.some.inj HB12.out
              replace HL1 := Lib.hid (ifF (by first | exact Bool.false_ne_true | exact not_false) HL1.out)
              go_wp2_with fail
              refine HC16.out.mono ?_; rintro e w' ⟨rfl, rfl⟩
              go_wp2_with fail
              try clear hc9 hc13
              go_roundg g1
              case measure => omega
              case rel => exact ⟨x3, (wrap64 (x4 + 1)), V7, rfl, rfl, HD, HOA, HL1⟩
            · replace HB12 := Lib.hid (ifT rfl HB12.out)
              obtain rfl := Option.some.inj HB12.out
              replace HL1 := Lib.hid (ifT (by first | rfl | trivial) HL1.out)
              obtain ⟨y20, hy18, hm⟩ := obind HL1.out
              replace HL1 := Lib.hid hm; clear hm
              have HC19 := ih W8 cap1 (rdL HD.out HR1.out) hy18
              clear hy18
              replace HC19 := Lib.hid HC19
              go_wp2_with fail
              refine HC16.out.mono ?_; rintro e w' ⟨rfl, rfl⟩
              go_wp2_with fail
              refine HC19.out.mono ?_; rintro e W21 ⟨rfl, hd⟩
              try clear hc9 hc13
              replace HOA := Lib.hid (HOA.out.below hd)
              replace HD := Lib.hid (HD.out.trans (hd.mono HD.out.size))
              clear hd
              obtain ⟨y22, hy23, hm⟩ := obind HL1.out
              replace HL1 := Lib.hid hm; clear hm
              obtain ⟨f24, hy23⟩ := app_some hy23; subst hy23
              have HF27 := Lib.hid f24; clear f24
              go_upto_region 4 with (at_builtin; refine hp_appS _ (.tmp 30) (.tmp 36) 55 Tryd.underlying55 rfl rfl (L1 := []) HOA.out rfl rfl HF27.out HD.out.size ?_; intro V25 W26 hoa hd)
              replace HOA := Lib.hid (show HP W26 w.heap.size [.fl (owS V25 ((x3 ++ [y20])))] from hoa); clear hoa
              replace HD := Lib.hid (HD.out.trans hd); clear hd
              go_wp2_with fail
              go_roundg g1
              case measure => omega
              case rel => exact ⟨(x3 ++ [y20]), (wrap64 (x4 + 1)), V25, rfl, rfl, HD, HOA, HL1⟩
          · replace HB12 := Lib.hid (ifF (bF hc13) HB12.out)
            have HK14 := Lib.hid hc13
            obtain rfl := Option.some.inj HB12.out
            replace HL1 := Lib.hid (ifF (by first | exact Bool.false_ne_true | exact not_false) HL1.out)
            go_wp2_with fail
            try clear hc9 hc13
            go_roundg g1
            case measure => omega
            case rel => exact ⟨x3, (wrap64 (x4 + 1)), V7, rfl, rfl, HD, HOA, HL1⟩
        · replace HL1 := Lib.hid (ifF hc9 HL1.out)
          have hc9d := decide_eq_false hc9
          have HK10 := Lib.hid hc9
          obtain rfl := Option.some.inj HL1.out
          have hm := HM.out; try dsimp only at hm
          replace HM := Lib.hid hm; clear hm
          obtain ⟨A28, cap29, he, _⟩ := HP.open_S HOA.out (List.Mem.head _)
          subst he
          obtain ⟨y30, hy31, hm⟩ := obind HM.out
          replace HM := Lib.hid hm; clear hm
          obtain ⟨f32, hy31⟩ := mkB_some hy31
          obtain ⟨N36, hN37⟩ : ∃ N, Int.toNat ((x3).length : Int) = N := ⟨_, rfl⟩
          rw [hN37] at hy31; subst hy31
          have hmk33 := run_makeB f32; simp only [hN37] at hmk33
          have hd : Below W8.heap.size W8 (W8.alloc (.cells (Array.replicate N36 (Value.bool false)) 4)) := (Below.refl _ _).alloc (Nat.le_refl _) _
          have ho := mkB_ok W8 f32; rw [hN37] at ho; clear hN37
          go_upto_region 9 with (refine upon_go ?_; go_simp)
          generalize hW : World.alloc W8 _ = W34 at *
          clear hW hmk33 f32
          try clear hc9 hc9d
          replace HOA := Lib.hid (HOA.out.call hd HD.out.size ho); clear ho
          replace HD := Lib.hid (HD.out.trans (hd.mono HD.out.size))
          clear hd
          go_wp2_with fail
          obtain ⟨o38, ho, hm⟩ := obind HM.out
          replace HM := Lib.hid hm; have HL2 := Lib.hid ho; clear hm ho
          go_loopg [11, 13] F (fun gg ux42 ux43 wr => ∃ (x39 : ByteArray) (x40 : List Bool) (x41 : Int), ux42 = .string x39 ∧ ux43 = .int .i64 x41 ∧ Hid (Below w.heap.size w wr) ∧ Hid (HP wr w.heap.size [.fl (owB (.slice (some ⟨W8.heap.size, 0, none⟩) N36 N36) (x40)), .fl (owS (.slice A28 (x3).length cap29) (x3))]) ∧ Hid (R3_name_L2 F (R3_name F d) (x3) gg x39 x40 x41 = some o38))
          case atStart => exact ⟨(⟨#[40]⟩ : ByteArray), (List.replicate N36 false), 0, rfl, rfl, HD, HOA, HL2⟩
          case round =>
            obtain ⟨x39, x40, x41, rfl, rfl, HD, HOA, HL2⟩ := hrel
            rename World => W44
            cases gk with
            | zero => exact absurd ((R3_name_L2_0 ..).symm.trans HL2.out) (by intro h; cases h)
            | succ g2 =>
              replace HL2 := Lib.hid ((R3_name_L2_s ..).symm.trans HL2.out)
              by_cases hc45 : x41 < ((x3).length : Int)
              · replace HL2 := Lib.hid (ifT hc45 HL2.out)
                have HK46 := Lib.hid hc45
                go_wp2_with fail
                try clear hc45
                obtain ⟨o47, ho, hm⟩ := obind HL2.out
                replace HL2 := Lib.hid hm; have HL3 := Lib.hid ho; clear hm ho
                go_loopg [14, 15] F (fun gg ux50 ux51 wr => ∃ (x48 : Int) (x49 : Int), ux50 = .int .i64 x48 ∧ ux51 = .int .i64 x49 ∧ Hid (Below W44.heap.size W44 wr) ∧ Hid (R3_name_L3 F (R3_name F d) (x3) (x40) gg x48 x49 = some o47))
                case atStart => exact ⟨(-1), 0, rfl, rfl, (Lib.hid (Below.refl _ _)), HL3⟩
                case round =>
                  obtain ⟨x48, x49, rfl, rfl, HW3, HL3⟩ := hrel
                  rename World => W52
                  have hd := HW3.out
                  replace HOA := Lib.hid (HOA.out.below hd)
                  replace HD := Lib.hid (HD.out.trans (hd.mono HD.out.size))
                  clear hd
                  cases gk with
                  | zero => exact absurd ((R3_name_L3_0 ..).symm.trans HL3.out) (by intro h; cases h)
                  | succ g3 =>
                    replace HL3 := Lib.hid ((R3_name_L3_s ..).symm.trans HL3.out)
                    by_cases hc53 : x49 < ((x3).length : Int)
                    · replace HL3 := Lib.hid (ifT hc53 HL3.out)
                      have HK54 := Lib.hid hc53
                      try go_wp2_with fail
                      try clear hc53
                      obtain ⟨b55, hb, hm⟩ := obind HL3.out
                      replace HL3 := Lib.hid hm; have HB56 := Lib.hid hb; clear hm hb
                      obtain ⟨y57, hy58, hm⟩ := obind HB56.out
                      replace HB56 := Lib.hid hm; clear hm
                      obtain ⟨b59, o60, ea61, _, f62, f63, f64⟩ := ReadsB.ix (HP.rd_B HOA.out (List.Mem.head _)) hy58
                      cases ea61
                      try simp only [Nat.zero_add, Nat.add_zero, Int.toNat_natCast, Int.toNat_zero, Int.toNat_one] at f64
                      try rw [← HP.len_B HOA.out (List.Mem.head _)] at f63
                      have HY66 := Lib.hid hy58; clear hy58
                      cases y57
                      · replace HB56 := Lib.hid (ifF Bool.false_ne_true HB56.out)
                        by_cases hc67 : x48 < 0
                        · replace HB56 := Lib.hid (ifT hc67 HB56.out)
                          have HK68 := Lib.hid hc67
                          obtain rfl := Option.some.inj HB56.out
                          replace HL3 := Lib.hid (ifT (by first | rfl | trivial) HL3.out)
                          go_quiet (fail)
                          generalize hW : World.drewN W52 _ = W69
                          have hd : Dr W52 W69 := ⟨_, hW.symm⟩
                          clear hW
                          try clear f62 f63 f64 hc67
                          replace HOA := Lib.hid (HOA.out.below (hd.below _))
                          replace HD := Lib.hid (HD.out.trans ((hd.below _).mono HD.out.size))
                          replace HW3 := Lib.hid (HW3.out.trans ((hd.below _).mono HW3.out.size))
                          clear hd
                          go_wp2_with fail
                          go_roundg g3
                          case measure => omega
                          case rel => exact ⟨x49, (wrap64 (x49 + 1)), rfl, rfl, HW3, HL3⟩
                        · replace HB56 := Lib.hid (ifF hc67 HB56.out)
                          have hc67d := decide_eq_false hc67
                          have HK68 := Lib.hid hc67
                          obtain ⟨y70, hy71, hm⟩ := obind HB56.out
                          replace HB56 := Lib.hid hm; clear hm
                          obtain ⟨b72, o73, ea74, _, f75, f76, f77⟩ := ReadsS.ix (HP.rd_S HOA.out (List.Mem.tail _ (List.Mem.head _))) hy71
                          cases ea74
                          try simp only [Nat.zero_add, Nat.add_zero, Int.toNat_natCast, Int.toNat_zero, Int.toNat_one] at f77
                          try rw [← HP.len_S HOA.out (List.Mem.tail _ (List.Mem.head _))] at f76
                          have HY79 := Lib.hid hy71; clear hy71
                          obtain ⟨y80, hy81, hm⟩ := obind HB56.out
                          replace HB56 := Lib.hid hm; clear hm
                          obtain ⟨b82, o83, ea84, _, f85, f86, f87⟩ := ReadsS.ix (HP.rd_S HOA.out (List.Mem.tail _ (List.Mem.head _))) hy81
                          cases ea84
                          try simp only [Nat.zero_add, Nat.add_zero, Int.toNat_natCast, Int.toNat_zero, Int.toNat_one] at f87
                          try rw [← HP.len_S HOA.out (List.Mem.tail _ (List.Mem.head _))] at f86
                          have HY89 := Lib.hid hy81; clear hy81
                          obtain ⟨y92, hy90, hm⟩ := obind HB56.out
                          replace HB56 := Lib.hid hm; clear hm
                          have HC91 := Lib.hid (fun m => R3_Before_ok (W52.drewN m)  hy90)
                          clear hy90
                          cases y92
                          · replace HB56 := Lib.hid (ifF Bool.false_ne_true HB56.out)
                            obtain rfl := Option.some.inj HB56.out
                            replace HL3 := Lib.hid (ifF (by first | exact Bool.false_ne_true | exact not_false) HL3.out)
                            go_quiet (first | (go_at_call 22; exact quiet_dr (HC91.out _)))
                            generalize hW : World.drewN W52 _ = W93
                            have hd : Dr W52 W93 := ⟨_, hW.symm⟩
                            clear hW
                            try clear f62 f63 f64 hc67 hc67d f75 f76 f77 f85 f86 f87
                            replace HOA := Lib.hid (HOA.out.below (hd.below _))
                            replace HD := Lib.hid (HD.out.trans ((hd.below _).mono HD.out.size))
                            replace HW3 := Lib.hid (HW3.out.trans ((hd.below _).mono HW3.out.size))
                            clear hd
                            go_wp2_with fail
                            go_roundg g3
                            case measure => omega
                            case rel => exact ⟨x48, (wrap64 (x49 + 1)), rfl, rfl, HW3, HL3⟩
                          · replace HB56 := Lib.hid (ifT rfl HB56.out)
                            obtain rfl := Option.some.inj HB56.out
                            replace HL3 := Lib.hid (ifT (by first | rfl | trivial) HL3.out)
                            go_quiet (first | (go_at_call 22; exact quiet_dr (HC91.out _)))
                            generalize hW : World.drewN W52 _ = W94
                            have hd : Dr W52 W94 := ⟨_, hW.symm⟩
                            clear hW
                            try clear f62 f63 f64 hc67 hc67d f75 f76 f77 f85 f86 f87
                            replace HOA := Lib.hid (HOA.out.below (hd.below _))
                            replace HD := Lib.hid (HD.out.trans ((hd.below _).mono HD.out.size))
                            replace HW3 := Lib.hid (HW3.out.trans ((hd.below _).mono HW3.out.size))
                            clear hd
                            go_wp2_with fail
                            go_roundg g3
                            case measure => omega
                            case rel => exact ⟨x49, (wrap64 (x49 + 1)), rfl, rfl, HW3, HL3⟩
                      · replace HB56 := Lib.hid (ifT rfl HB56.out)
                        obtain rfl := Option.some.inj HB56.out
                        replace HL3 := Lib.hid (ifF (by first | exact Bool.false_ne_true | exact not_false) HL3.out)
                        go_quiet (fail)
                        generalize hW : World.drewN W52 _ = W95
                        have hd : Dr W52 W95 := ⟨_, hW.symm⟩
                        clear hW
                        try clear f62 f63 f64
                        replace HOA := Lib.hid (HOA.out.below (hd.below _))
                        replace HD := Lib.hid (HD.out.trans ((hd.below _).mono HD.out.size))
                        replace HW3 := Lib.hid (HW3.out.trans ((hd.below _).mono HW3.out.size))
                        clear hd
                        go_wp2_with fail
                        go_roundg g3
                        case measure => omega
                        case rel => exact ⟨x48, (wrap64 (x49 + 1)), rfl, rfl, HW3, HL3⟩
                    · replace HL3 := Lib.hid (ifF hc53 HL3.out)
                      have hc53d := decide_eq_false hc53
                      have HK54 := Lib.hid hc53
                      obtain rfl := Option.some.inj HL3.out
                      have hm := HL2.out; try dsimp only at hm
                      replace HL2 := Lib.hid hm; clear hm
                      obtain ⟨y98, hy97, hm⟩ := obind HL2.out
                      replace HL2 := Lib.hid hm; clear hm
                      obtain ⟨f99, hy97⟩ := st_some hy97; subst hy97
                      obtain ⟨g105, ea, f102, ⟨ux104, f103⟩, hp, hb⟩ := HP.setB (x := true) (its1 := []) HOA.out f99
                      cases ea
                      obtain ⟨q0, q1⟩ := f99
                      try rw [← HP.len_B HOA.out (List.Mem.head _)] at q1
                      have HP_ := Lib.hid hp; have HB_ := Lib.hid hb; clear hp hb
                      go_upto_region 19 with (fail)
                      have hp := HP_.out; have hb := HB_.out; clear HP_ HB_
                      generalize hW : World.setCell W52 _ _ = W96 at *
                      clear hW
                      try clear f102 f103 q0 q1 hc53 hc53d
                      replace HOA := Lib.hid (show HP W96 w.heap.size [.fl (owB (.slice (some ⟨W8.heap.size, 0, none⟩) N36 N36) ((List.set x40 (Int.toNat x48) true))), .fl (owS (.slice A28 (x3).length cap29) (x3))] from hp); clear hp
                      replace HD := Lib.hid (HD.out.trans hb); clear hb
                      obtain ⟨y109, hy110, hm⟩ := obind HL2.out
                      replace HL2 := Lib.hid hm; clear hm
                      obtain ⟨b111, o112, ea113, _, f114, f115, f116⟩ := ReadsS.ix (HP.rd_S HOA.out (List.Mem.tail _ (List.Mem.head _))) hy110
                      cases ea113
                      try simp only [Nat.zero_add, Nat.add_zero, Int.toNat_natCast, Int.toNat_zero, Int.toNat_one] at f116
                      try rw [← HP.len_S HOA.out (List.Mem.tail _ (List.Mem.head _))] at f115
                      have HY118 := Lib.hid hy110; clear hy110
                      obtain ⟨y119, hy120, hm⟩ := obind HL2.out
                      replace HL2 := Lib.hid hm; clear hm
                      obtain ⟨f121, hy120⟩ := sCat_some hy120; subst hy120
                      have f121b := f121; simp at f121b; have f121c := Int.not_lt.2 f121b; clear f121b
                      go_wp2_with fail
                      try clear f114 f115 f116 f121c f121
                      go_roundg g2
                      case measure => omega
                      case rel => exact ⟨(x39 ++ y109), (List.set x40 (Int.toNat x48) true), (wrap64 (x41 + 1)), rfl, rfl, HD, HOA, HL2⟩
              · replace HL2 := Lib.hid (ifF hc45 HL2.out)
                have hc45d := decide_eq_false hc45
                have HK46 := Lib.hid hc45
                obtain rfl := Option.some.inj HL2.out
                have hm := HM.out; try dsimp only at hm
                replace HM := Lib.hid hm; clear hm
                obtain ⟨y122, hy123, hm⟩ := obind HM.out
                replace HM := Lib.hid hm; clear hm
                obtain ⟨f124, hy123⟩ := sCat_some hy123; subst hy123
                have f124b := f124; simp at f124b; have f124c := Int.not_lt.2 f124b; clear f124b
                obtain rfl := Option.some.inj HM.out
                go_wp2_with fail
                try clear hc45 hc45d f124c f124
                go_ret
                exact ⟨rfl, HD.out⟩
def R3_Name_L1 (F : Nat) (v0 : Int) (v1 : List (Int × Int)) (v3 : List Int) : Nat → (ByteArray) → (Int) → Option (ByteArray × Int)
  | 0, _, _ => none
  | g+1, v5, v6 => if v6 < ((v3).length : Int) then (ix v3 v6).bind fun y4 => (R3_name F F (v0) (v1) (y4) ((-1))).bind fun y5 => ((R3_Before F (y5) (v5)).bind fun y6 => if y6 = true then R3_Name_L1 F v0 v1 v3 g (y5) ((wrap64 (v6 + 1))) else R3_Name_L1 F v0 v1 v3 g (v5) ((wrap64 (v6 + 1)))) else some (v5, v6)
theorem R3_Name_L1_0 (F : Nat) (v0 : Int) (v1 : List (Int × Int)) (v3 : List Int) (v5 : ByteArray) (v6 : Int) : R3_Name_L1 F v0 v1 v3 0 v5 v6 = none := by rw [R3_Name_L1]
theorem R3_Name_L1_s (F g : Nat) (v0 : Int) (v1 : List (Int × Int)) (v3 : List Int) (v5 : ByteArray) (v6 : Int) : R3_Name_L1 F v0 v1 v3 (g+1) v5 v6 = (if v6 < ((v3).length : Int) then (ix v3 v6).bind fun y4 => (R3_name F F (v0) (v1) (y4) ((-1))).bind fun y5 => ((R3_Before F (y5) (v5)).bind fun y6 => if y6 = true then R3_Name_L1 F v0 v1 v3 g (y5) ((wrap64 (v6 + 1))) else R3_Name_L1 F v0 v1 v3 g (v5) ((wrap64 (v6 + 1)))) else some (v5, v6)) := by rw [R3_Name_L1]
def R3_Name (F : Nat) (v0 : Int) (v1 : List (Int × Int)) : Option (ByteArray) := (R3_Middle F (v0) (v1)).bind fun y1 => (ix y1.1 0).bind fun y2 => (R3_name F F (v0) (v1) (y2) ((-1))).bind fun y3 => (R3_Name_L1 F (v0) (v1) (y1.1) F (y3) (1)).bind fun o7 => some (o7.1)
set_option maxRecDepth 100000 in
set_option maxHeartbeats 4000000 in
theorem R3_Name_ok {F : Nat} {v0 : Int} {v1 : List (Int × Int)} {A1 : Option Addr} {r : ByteArray} (w : World) (cap1 : Nat) (hr1 : ReadsL w w.heap.size A1 v1) (h : R3_Name F v0 v1 = some r) :
    Calls Tryd.prog 8 #[.int .i64 v0, .slice A1 v1.length cap1] w fun e w' => e = .returned (.string r) ∧ Below w.heap.size w w' := by
  have HR1 := Lib.hid hr1; clear hr1
  have HD := Lib.hid (Below.refl w.heap.size w)
  have HOA := Lib.hid (HP.nil (W := w) (B := w.heap.size))
  unfold R3_Name at h
  have HM := Lib.hid h; clear h
  go_enter Tryd.func8, Tryd.ntmps8
  obtain ⟨⟨y3, y4⟩, hy1, hm⟩ := obind HM.out
  dsimp only at hm
  replace HM := Lib.hid hm; clear hm
  have HC2 := R3_Middle_ok w cap1 (rdL HD.out HR1.out) hy1
  clear hy1
  replace HC2 := Lib.hid HC2
  go_wp2_with fail
  refine HC2.out.mono ?_; rintro e W5 ⟨V6, rfl, ho, hd⟩
  replace HOA := Lib.hid (HOA.out.call hd HD.out.size ho); clear ho
  replace HD := Lib.hid (HD.out.trans (hd.mono HD.out.size))
  clear hd
  obtain ⟨A10, cap11, he, _⟩ := HP.open_I HOA.out (List.Mem.head _)
  subst he
  obtain ⟨y8, hy9, hm⟩ := obind HM.out
  replace HM := Lib.hid hm; clear hm
  obtain ⟨b12, o13, ea14, _, f15, f16, f17⟩ := ReadsI.ix (HP.rd_I HOA.out (List.Mem.head _)) hy9
  cases ea14
  try simp only [Nat.zero_add, Nat.add_zero, Int.toNat_natCast, Int.toNat_zero, Int.toNat_one] at f17
  have f16n := f16; try norm_cast at f16n
  try rw [← HP.len_I HOA.out (List.Mem.head _)] at f16
  have HY19 := Lib.hid hy9; clear hy9
  obtain ⟨y22, hy20, hm⟩ := obind HM.out
  replace HM := Lib.hid hm; clear hm
  have HC21 := R3_name_ok _ W5 cap1 (rdL HD.out HR1.out) hy20
  clear hy20
  replace HC21 := Lib.hid HC21
  go_wp2_with fail
  refine HC21.out.mono ?_; rintro e W23 ⟨rfl, hd⟩
  try clear f15 f16 f17 f16n
  replace HOA := Lib.hid (HOA.out.below hd)
  replace HD := Lib.hid (HD.out.trans (hd.mono HD.out.size))
  clear hd
  go_wp2_with fail
  obtain ⟨o24, ho, hm⟩ := obind HM.out
  replace HM := Lib.hid hm; have HL1 := Lib.hid ho; clear hm ho
  go_loopg [7, 8] F (fun gg ux27 ux28 wr => ∃ (x25 : ByteArray) (x26 : Int), ux27 = .string x25 ∧ ux28 = .int .i64 x26 ∧ Hid (Below W23.heap.size W23 wr) ∧ Hid (R3_Name_L1 F (v0) (v1) (y3) gg x25 x26 = some o24))
  case atStart => exact ⟨y22, 1, rfl, rfl, (Lib.hid (Below.refl _ _)), HL1⟩
  case round =>
    obtain ⟨x25, x26, rfl, rfl, HW1, HL1⟩ := hrel
    rename World => W29
    have hd := HW1.out
    replace HOA := Lib.hid (HOA.out.below hd)
    replace HD := Lib.hid (HD.out.trans (hd.mono HD.out.size))
    clear hd
    cases gk with
    | zero => exact absurd ((R3_Name_L1_0 ..).symm.trans HL1.out) (by intro h; cases h)
    | succ g1 =>
      replace HL1 := Lib.hid ((R3_Name_L1_s ..).symm.trans HL1.out)
      by_cases hc30 : x26 < ((y3).length : Int)
      · replace HL1 := Lib.hid (ifT hc30 HL1.out)
        have HK31 := Lib.hid hc30
        obtain ⟨y32, hy33, hm⟩ := obind HL1.out
        replace HL1 := Lib.hid hm; clear hm
        obtain ⟨b34, o35, ea36, _, f37, f38, f39⟩ := ReadsI.ix (HP.rd_I HOA.out (List.Mem.head _)) hy33
        cases ea36
        try simp only [Nat.zero_add, Nat.add_zero, Int.toNat_natCast, Int.toNat_zero, Int.toNat_one] at f39
        try rw [← HP.len_I HOA.out (List.Mem.head _)] at f38
        have HY41 := Lib.hid hy33; clear hy33
        obtain ⟨y44, hy42, hm⟩ := obind HL1.out
        replace HL1 := Lib.hid hm; clear hm
        have HC43 := R3_name_ok _ W29 cap1 (rdL HD.out HR1.out) hy42
        clear hy42
        replace HC43 := Lib.hid HC43
        go_wp2_with fail
        refine HC43.out.mono ?_; rintro e W45 ⟨rfl, hd⟩
        try clear hc30 f37 f38 f39
        replace HOA := Lib.hid (HOA.out.below hd)
        replace HD := Lib.hid (HD.out.trans (hd.mono HD.out.size))
        replace HW1 := Lib.hid (HW1.out.trans (hd.mono HW1.out.size))
        clear hd
        obtain ⟨y48, hy46, hm⟩ := obind HL1.out
        replace HL1 := Lib.hid hm; clear hm
        have HC47 := R3_Before_ok W45  hy46
        clear hy46
        replace HC47 := Lib.hid HC47
        go_wp2_with fail
        refine HC47.out.mono ?_; rintro e W49 ⟨rfl, hd⟩
        replace HOA := Lib.hid (HOA.out.below (hd.below _))
        replace HD := Lib.hid (HD.out.trans ((hd.below _).mono HD.out.size))
        replace HW1 := Lib.hid (HW1.out.trans ((hd.below _).mono HW1.out.size))
        clear hd
        cases y48
        · replace HL1 := Lib.hid (ifF Bool.false_ne_true HL1.out)
          go_wp2_with fail
          go_roundg g1
          case measure => omega
          case rel => exact ⟨x25, (wrap64 (x26 + 1)), rfl, rfl, HW1, HL1⟩
        · replace HL1 := Lib.hid (ifT rfl HL1.out)
          go_wp2_with fail
          go_roundg g1
          case measure => omega
          case rel => exact ⟨y44, (wrap64 (x26 + 1)), rfl, rfl, HW1, HL1⟩
      · replace HL1 := Lib.hid (ifF hc30 HL1.out)
        have hc30d := decide_eq_false hc30
        have HK31 := Lib.hid hc30
        obtain rfl := Option.some.inj HL1.out
        have hm := HM.out; try dsimp only at hm
        replace HM := Lib.hid hm; clear hm
        obtain rfl := Option.some.inj HM.out
        go_wp2_with fail
        try clear hc30 hc30d
        go_ret
        exact ⟨rfl, HD.out⟩
def L3_TreeSays_L1 (F : Nat) (v0 : Int) (v9 : List (List Int)) : Nat → (Int) → (Int) → Option (Int × Int)
  | 0, _, _ => none
  | g+1, v7, v10 => if v10 < v0 then ((ix v9 v10).bind fun y9 => (R3_Most F (y9)).bind fun y10 => if v7 < y10 then (ix v9 v10).bind fun y11 => (R3_Most F (y11)).bind fun y12 => L3_TreeSays_L1 F v0 v9 g (y12) ((wrap64 (v10 + 1))) else L3_TreeSays_L1 F v0 v9 g (v7) ((wrap64 (v10 + 1)))) else some (v7, v10)
theorem L3_TreeSays_L1_0 (F : Nat) (v0 : Int) (v9 : List (List Int)) (v7 : Int) (v10 : Int) : L3_TreeSays_L1 F v0 v9 0 v7 v10 = none := by rw [L3_TreeSays_L1]
theorem L3_TreeSays_L1_s (F g : Nat) (v0 : Int) (v9 : List (List Int)) (v7 : Int) (v10 : Int) : L3_TreeSays_L1 F v0 v9 (g+1) v7 v10 = (if v10 < v0 then ((ix v9 v10).bind fun y9 => (R3_Most F (y9)).bind fun y10 => if v7 < y10 then (ix v9 v10).bind fun y11 => (R3_Most F (y11)).bind fun y12 => L3_TreeSays_L1 F v0 v9 g (y12) ((wrap64 (v10 + 1))) else L3_TreeSays_L1 F v0 v9 g (v7) ((wrap64 (v10 + 1)))) else some (v7, v10)) := by rw [L3_TreeSays_L1]
def L3_TreeSays (F : Nat) (v0 : Int) (v1 : List (Int × Int)) : Option (Bool) := (R3_Tree F (v0) (v1)).bind fun y1 => (tree_Check F (v0) (v1)).bind fun y2 => (mErr (y2) (y1)).bind fun y3 => ((if (y1 == 0) = true then some true else some false).bind fun b5 => if b5 = true then (R3_Middle F (v0) (v1)).bind fun y6 => (R3_Name F (v0) (v1)).bind fun y7 => (R1_Far F (v0) (v1) (true) ((-1))).bind fun y8 => (L3_TreeSays_L1 F (v0) (y8) F (0) (0)).bind fun o13 => some (y6.1, y6.2, o13.1, y7) else some ([], 0, 0, (⟨#[]⟩ : ByteArray))).bind fun o4 => (tree_Middle F (v0) (v1)).bind fun y14 => (((mErr (y14.2.2) (y1)).bind fun y17 => if y17 = true then (SE_Ints F (y14.1) (o4.1)).bind fun y18 => if y18 = true then some true else some false else some false).bind fun b16 => if b16 = true then if (y14.2.1 == o4.2.1) = true then some true else some false else some false).bind fun b15 => (tree_Long F (v0) (v1)).bind fun y19 => ((mErr (y19.2) (y1)).bind fun y21 => if y21 = true then if (y19.1 == o4.2.2.1) = true then some true else some false else some false).bind fun b20 => (tree_Name F (v0) (v1)).bind fun y22 => ((((if y3 = true then if b15 = true then some true else some false else some false).bind fun b26 => if b26 = true then if b20 = true then some true else some false else some false).bind fun b25 => if b25 = true then (mErr (y22.2) (y1)).bind fun y27 => if y27 = true then some true else some false else some false).bind fun b24 => if b24 = true then if ((y22.1).toList == (o4.2.2.2).toList) = true then some true else some false else some false).bind fun b23 => some (b23)
set_option maxRecDepth 100000 in
set_option maxHeartbeats 4000000 in
theorem L3_TreeSays_ok {F : Nat} {v0 : Int} {v1 : List (Int × Int)} {A1 : Option Addr} {r : Bool} (w : World) (htc : TyCell w) (cap1 : Nat) (hr1 : ReadsL w w.heap.size A1 v1) (h : L3_TreeSays F v0 v1 = some r) :
    Calls Tryd.prog 3 #[.int .i64 v0, .slice A1 v1.length cap1] w fun e w' => e = .returned (.bool r) ∧ Below w.heap.size w w' := by
  have HTC := Lib.hid htc; clear htc
  have HR1 := Lib.hid hr1; clear hr1
  have HD := Lib.hid (Below.refl w.heap.size w)
  have HOA := Lib.hid (HP.nil (W := w) (B := w.heap.size))
  unfold L3_TreeSays at h
  have HM := Lib.hid h; clear h
  go_enter Tryd.func3, Tryd.ntmps3
  obtain ⟨y3, hy1, hm⟩ := obind HM.out
  replace HM := Lib.hid hm; clear hm
  have HC2 := R3_Tree_ok w cap1 (rdL HD.out HR1.out) hy1
  clear hy1
  replace HC2 := Lib.hid HC2
  go_wp2_with fail
  refine HC2.out.mono ?_; rintro e W4 ⟨rfl, hd⟩
  replace HOA := Lib.hid (HOA.out.below hd)
  replace HD := Lib.hid (HD.out.trans (hd.mono HD.out.size))
  clear hd
  obtain ⟨y7, hy5, hm⟩ := obind HM.out
  replace HM := Lib.hid hm; clear hm
  have HC6 := tree_Check_ok W4 cap1 (rdL HD.out HR1.out) hy5
  clear hy5
  replace HC6 := Lib.hid HC6
  go_wp2_with fail
  refine HC6.out.mono ?_; rintro e W8 ⟨rfl, hd⟩
  replace HOA := Lib.hid (HOA.out.below hd)
  replace HD := Lib.hid (HD.out.trans (hd.mono HD.out.size))
  clear hd
  obtain ⟨y11, hy9, hm⟩ := obind HM.out
  replace HM := Lib.hid hm; clear hm
  have HC10 := mErr_ok W8 (HTC.out.go HD.out)  hy9
  clear hy9
  replace HC10 := Lib.hid HC10
  go_wp2_with fail
  refine HC10.out.mono ?_; rintro e W12 ⟨rfl, hd⟩
  replace HOA := Lib.hid (HOA.out.below hd)
  replace HD := Lib.hid (HD.out.trans (hd.mono HD.out.size))
  clear hd
  replace HOA := Lib.hid (show HP _ _ (.fl (owI (.slice none 0 0) ([])) :: _) from HOA.out.pushNil _ _)
  go_upto_region 7 with (fail)
  obtain ⟨⟨x14, x15, x16, x17⟩, ho, hm⟩ := obind HM.out
  try simp only [] at hm
  replace HM := Lib.hid hm; have HJ18 := Lib.hid ho; clear hm ho
  obtain ⟨b19, hb, hm⟩ := obind HJ18.out
  replace HJ18 := Lib.hid hm; have HB20 := Lib.hid hb; clear hm hb
  go_cut [28] (fun uq wr => uq = .bool b19 ∧ Hid (Below W12.heap.size W12 wr))
  case first =>
    have HWC21 := Lib.hid (Below.refl W12.heap.size W12)
    rcases Bool.eq_false_or_eq_true (y3 == 0) with hc22 | hc22
    · replace HB20 := Lib.hid (ifT hc22 HB20.out)
      have HK23 := Lib.hid hc22
      cases Option.some.inj HB20.out
      try go_wp2_with fail
      go_meet
      case rel => exact ⟨rfl, HWC21⟩
    · replace HB20 := Lib.hid (ifF (bF hc22) HB20.out)
      have HK23 := Lib.hid hc22
      cases Option.some.inj HB20.out
      try go_wp2_with fail
      go_meet
      case rel => exact ⟨rfl, HWC21⟩
  case rest =>
    as_aux_lemma =>
      obtain ⟨rfl, HWC21⟩ := hcut
      rename World => W24
      have hd := HWC21.out
      replace HOA := Lib.hid (HOA.out.below hd)
      replace HD := Lib.hid (HD.out.trans (hd.mono HD.out.size))
      clear hd
      go_upto_if 28 with (fail)
      go_cut [7, 8, 9, 10] (fun q26 q27 q28 q29 wr => ∃ (V25 : Value), V25 = q26 ∧ q27 = .int .i64 x15 ∧ q28 = .int .i64 x16 ∧ q29 = .string x17 ∧ Hid (Below w.heap.size w wr) ∧ Hid (HP wr w.heap.size [.fl (owI V25 (x14))]) ∧ Hid (Below W24.heap.size W24 wr))
      case first =>
        have HWC30 := Lib.hid (Below.refl W24.heap.size W24)
        cases b19
        · replace HJ18 := Lib.hid (ifF Bool.false_ne_true HJ18.out)
          try go_wp2_with fail
          cases Option.some.inj HJ18.out
          go_meet
          case rel => exact ⟨(.slice none 0 0), rfl, rfl, rfl, rfl, HD, HOA, HWC30⟩
        · replace HJ18 := Lib.hid (ifT rfl HJ18.out)
          obtain ⟨⟨y33, y34⟩, hy31, hm⟩ := obind HJ18.out
          dsimp only at hm
          replace HJ18 := Lib.hid hm; clear hm
          have HC32 := R3_Middle_ok W24 cap1 (rdL HD.out HR1.out) hy31
          clear hy31
          replace HC32 := Lib.hid HC32
          go_wp2_with fail
          refine HC32.out.mono ?_; rintro e W35 ⟨V36, rfl, ho, hd⟩
          replace HOA := Lib.hid (HOA.out.call hd HD.out.size ho); clear ho
          replace HD := Lib.hid (HD.out.trans (hd.mono HD.out.size))
          replace HWC30 := Lib.hid (HWC30.out.trans (hd.mono HWC30.out.size))
          clear hd
          obtain ⟨y40, hy38, hm⟩ := obind HJ18.out
          replace HJ18 := Lib.hid hm; clear hm
          have HC39 := R3_Name_ok W35 cap1 (rdL HD.out HR1.out) hy38
          clear hy38
          replace HC39 := Lib.hid HC39
          go_wp2_with fail
          refine HC39.out.mono ?_; rintro e W41 ⟨rfl, hd⟩
          replace HOA := Lib.hid (HOA.out.below hd)
          replace HD := Lib.hid (HD.out.trans (hd.mono HD.out.size))
          replace HWC30 := Lib.hid (HWC30.out.trans (hd.mono HWC30.out.size))
          clear hd
          obtain ⟨y44, hy42, hm⟩ := obind HJ18.out
          replace HJ18 := Lib.hid hm; clear hm
          have HC43 := R1_Far_ok W41 cap1 (rdL HD.out HR1.out) hy42
          clear hy42
          replace HC43 := Lib.hid HC43
          go_wp2_with fail
          refine HC43.out.mono ?_; rintro e W45 ⟨V46, rfl, ho, hd⟩
          replace HOA := Lib.hid (HOA.out.callR hd HD.out.size ho); clear ho
          replace HD := Lib.hid (HD.out.trans (hd.mono HD.out.size))
          replace HWC30 := Lib.hid (HWC30.out.trans (hd.mono HWC30.out.size))
          clear hd
          go_wp2_with fail
          obtain ⟨o48, ho, hm⟩ := obind HJ18.out
          replace HJ18 := Lib.hid hm; have HL1 := Lib.hid ho; clear hm ho
          go_loopg [9, 12] F (fun gg ux51 ux52 wr => ∃ (x49 : Int) (x50 : Int), ux51 = .int .i64 x49 ∧ ux52 = .int .i64 x50 ∧ Hid (Below W45.heap.size W45 wr) ∧ Hid (L3_TreeSays_L1 F (v0) (y44) gg x49 x50 = some o48))
          case atStart => exact ⟨0, 0, rfl, rfl, (Lib.hid (Below.refl _ _)), HL1⟩
          case round =>
            obtain ⟨x49, x50, rfl, rfl, HW1, HL1⟩ := hrel
            rename World => W53
            have hd := HW1.out
            replace HOA := Lib.hid (HOA.out.below hd)
            replace HD := Lib.hid (HD.out.trans (hd.mono HD.out.size))
            replace HWC30 := Lib.hid (HWC30.out.trans (hd.mono HWC30.out.size))
            clear hd
            cases gk with
            | zero => exact absurd ((L3_TreeSays_L1_0 ..).symm.trans HL1.out) (by intro h; cases h)
            | succ g1 =>
              replace HL1 := Lib.hid ((L3_TreeSays_L1_s ..).symm.trans HL1.out)
              by_cases hc54 : x50 < v0
              · replace HL1 := Lib.hid (ifT hc54 HL1.out)
                have HK55 := Lib.hid hc54
                obtain ⟨A58, cap59, he, _⟩ := HP.open_R HOA.out (List.Mem.head _)
                subst he
                obtain ⟨y56, hy57, hm⟩ := obind HL1.out
                replace HL1 := Lib.hid hm; clear hm
                obtain ⟨b60, o61, A67, cap68, ea62, _, f63, f64, f65, hrr, hrc⟩ := ReadsR.ixc (HP.rd_R HOA.out (List.Mem.head _)) hy57
                cases ea62
                have HR69c := Lib.hid hrc; clear hrc
                try simp only [Nat.zero_add, Nat.add_zero, Int.toNat_natCast, Int.toNat_zero, Int.toNat_one] at f65
                have HR69 := Lib.hid hrr; clear hrr
                try rw [← HP.len_R HOA.out (List.Mem.head _)] at f64
                have HY70 := Lib.hid hy57; clear hy57
                obtain ⟨y73, hy71, hm⟩ := obind HL1.out
                replace HL1 := Lib.hid hm; clear hm
                have HC72 := R3_Most_ok W53 cap68 HR69.out hy71
                clear hy71
                replace HC72 := Lib.hid HC72
                by_cases hc74 : x49 < y73
                · replace HL1 := Lib.hid (ifT hc74 HL1.out)
                  have HK75 := Lib.hid hc74
                  obtain ⟨y76, hy77, hm⟩ := obind HL1.out
                  replace HL1 := Lib.hid hm; clear hm
                  obtain rfl := Option.some.inj (HY70.out.symm.trans hy77)
                  clear hy77
                  obtain ⟨y80, hy78, hm⟩ := obind HL1.out
                  replace HL1 := Lib.hid hm; clear hm
                  have HC79 := R3_Most_ok W53 cap68 HR69.out hy78
                  clear hy78
                  replace HC79 := Lib.hid HC79
                  go_wp2_with fail
                  refine HC72.out.mono ?_; rintro e w' ⟨rfl, rfl⟩
                  go_wp2_with fail
                  refine HC79.out.mono ?_; rintro e w' ⟨rfl, rfl⟩
                  go_wp2_with fail
                  try clear hc54 f63 f64 f65 hc74
                  go_roundg g1
                  case measure => omega
                  case rel => exact ⟨y80, (wrap64 (x50 + 1)), rfl, rfl, HW1, HL1⟩
                · replace HL1 := Lib.hid (ifF hc74 HL1.out)
                  have hc74d := decide_eq_false hc74
                  have HK75 := Lib.hid hc74
                  go_wp2_with fail
                  refine HC72.out.mono ?_; rintro e w' ⟨rfl, rfl⟩
                  go_wp2_with fail
                  try clear hc54 f63 f64 f65 hc74 hc74d
                  go_roundg g1
                  case measure => omega
                  case rel => exact ⟨x49, (wrap64 (x50 + 1)), rfl, rfl, HW1, HL1⟩
              · replace HL1 := Lib.hid (ifF hc54 HL1.out)
                have hc54d := decide_eq_false hc54
                have HK55 := Lib.hid hc54
                obtain rfl := Option.some.inj HL1.out
                have hm := HJ18.out; try dsimp only at hm
                replace HJ18 := Lib.hid hm; clear hm
                try go_wp2_with fail
                try clear hc54 hc54d
                replace HOA := Lib.hid (HOA.out.sub (.cons _ (.cons₂ _ (.cons _ .slnil))))
                cases Option.some.inj HJ18.out
                go_meet
                case rel => exact ⟨V36, rfl, rfl, rfl, rfl, HD, HOA, HWC30⟩
      case rest =>
        as_aux_lemma =>
          obtain ⟨V25, rfl, rfl, rfl, rfl, HD, HOA, HWC30⟩ := hcut
          rename World => W81
          have hd := HWC30.out
          clear hd
          obtain ⟨⟨y84, y85, y86⟩, hy82, hm⟩ := obind HM.out
          dsimp only at hm
          replace HM := Lib.hid hm; clear hm
          have HC83 := tree_Middle_ok W81 cap1 (rdL HD.out HR1.out) hy82
          clear hy82
          replace HC83 := Lib.hid HC83
          go_wp2_with fail
          refine HC83.out.mono ?_; rintro e W87 ⟨V88, rfl, ho, hd⟩
          replace HOA := Lib.hid (HOA.out.call hd HD.out.size ho); clear ho
          replace HD := Lib.hid (HD.out.trans (hd.mono HD.out.size))
          clear hd
          go_upto_region 17 with (fail)
          obtain ⟨b90, hb, hm⟩ := obind HM.out
          replace HM := Lib.hid hm; have HB91 := Lib.hid hb; clear hm hb
          go_cut [16] (fun uq wr => uq = .bool b90 ∧ Hid (Below W87.heap.size W87 wr))
          case first =>
            have HWC92 := Lib.hid (Below.refl W87.heap.size W87)
            obtain ⟨b93, hb, hm⟩ := obind HB91.out
            replace HB91 := Lib.hid hm; have HB94 := Lib.hid hb; clear hm hb
            obtain ⟨y97, hy95, hm⟩ := obind HB94.out
            replace HB94 := Lib.hid hm; clear hm
            have HC96 := mErr_ok W87 (HTC.out.go HD.out)  hy95
            clear hy95
            replace HC96 := Lib.hid HC96
            go_wp2_with fail
            refine HC96.out.mono ?_; rintro e W98 ⟨rfl, hd⟩
            replace HOA := Lib.hid (HOA.out.below hd)
            replace HD := Lib.hid (HD.out.trans (hd.mono HD.out.size))
            replace HWC92 := Lib.hid (HWC92.out.trans (hd.mono HWC92.out.size))
            clear hd
            cases y97
            · replace HB94 := Lib.hid (ifF Bool.false_ne_true HB94.out)
              obtain rfl := Option.some.inj HB94.out
              replace HB91 := Lib.hid (ifF (by first | exact Bool.false_ne_true | exact not_false) HB91.out)
              cases Option.some.inj HB91.out
              try go_wp2_with fail
              go_meet
              case rel => exact ⟨rfl, HWC92⟩
            · replace HB94 := Lib.hid (ifT rfl HB94.out)
              obtain ⟨y101, hy99, hm⟩ := obind HB94.out
              replace HB94 := Lib.hid hm; clear hm
              obtain ⟨A102, cap103, he, _⟩ := HP.open_I HOA.out (List.Mem.head _)
              subst he
              obtain ⟨A104, cap105, he, _⟩ := HP.open_I HOA.out (List.Mem.tail _ (List.Mem.head _))
              subst he
              have HC100 := SE_Ints_ok W98 cap103 (HP.rd_I HOA.out (List.Mem.head _)) cap105 (HP.rd_I HOA.out (List.Mem.tail _ (List.Mem.head _))) hy99
              clear hy99
              replace HC100 := Lib.hid HC100
              go_wp2_with fail
              refine HC100.out.mono ?_; rintro e W106 ⟨rfl, hd⟩
              replace HOA := Lib.hid (HOA.out.below (hd.below _))
              replace HD := Lib.hid (HD.out.trans ((hd.below _).mono HD.out.size))
              replace HWC92 := Lib.hid (HWC92.out.trans ((hd.below _).mono HWC92.out.size))
              clear hd
              cases y101
              · replace HB94 := Lib.hid (ifF Bool.false_ne_true HB94.out)
                obtain rfl := Option.some.inj HB94.out
                replace HB91 := Lib.hid (ifF (by first | exact Bool.false_ne_true | exact not_false) HB91.out)
                cases Option.some.inj HB91.out
                try go_wp2_with fail
                go_meet
                case rel => exact ⟨rfl, HWC92⟩
              · replace HB94 := Lib.hid (ifT rfl HB94.out)
                obtain rfl := Option.some.inj HB94.out
                replace HB91 := Lib.hid (ifT (by first | rfl | trivial) HB91.out)
                rcases Bool.eq_false_or_eq_true (y85 == x15) with hc107 | hc107
                · replace HB91 := Lib.hid (ifT hc107 HB91.out)
                  have HK108 := Lib.hid hc107
                  cases Option.some.inj HB91.out
                  try go_wp2_with fail
                  go_meet
                  case rel => exact ⟨rfl, HWC92⟩
                · replace HB91 := Lib.hid (ifF (bF hc107) HB91.out)
                  have HK108 := Lib.hid hc107
                  cases Option.some.inj HB91.out
                  try go_wp2_with fail
                  go_meet
                  case rel => exact ⟨rfl, HWC92⟩
          case rest =>
            as_aux_lemma =>
              obtain ⟨rfl, HWC92⟩ := hcut
              rename World => W109
              have hd := HWC92.out
              replace HOA := Lib.hid (HOA.out.below hd)
              replace HD := Lib.hid (HD.out.trans (hd.mono HD.out.size))
              clear hd
              obtain ⟨⟨y112, y113⟩, hy110, hm⟩ := obind HM.out
              dsimp only at hm
              replace HM := Lib.hid hm; clear hm
              have HC111 := tree_Long_ok W109 cap1 (rdL HD.out HR1.out) hy110
              clear hy110
              replace HC111 := Lib.hid HC111
              go_wp2_with fail
              refine HC111.out.mono ?_; rintro e W114 ⟨rfl, hd⟩
              replace HOA := Lib.hid (HOA.out.below hd)
              replace HD := Lib.hid (HD.out.trans (hd.mono HD.out.size))
              clear hd
              go_upto_region 19 with (fail)
              obtain ⟨b115, hb, hm⟩ := obind HM.out
              replace HM := Lib.hid hm; have HB116 := Lib.hid hb; clear hm hb
              go_cut [17] (fun uq wr => uq = .bool b115 ∧ Hid (Below W114.heap.size W114 wr))
              case first =>
                have HWC117 := Lib.hid (Below.refl W114.heap.size W114)
                obtain ⟨y120, hy118, hm⟩ := obind HB116.out
                replace HB116 := Lib.hid hm; clear hm
                have HC119 := mErr_ok W114 (HTC.out.go HD.out)  hy118
                clear hy118
                replace HC119 := Lib.hid HC119
                go_wp2_with fail
                refine HC119.out.mono ?_; rintro e W121 ⟨rfl, hd⟩
                replace HOA := Lib.hid (HOA.out.below hd)
                replace HD := Lib.hid (HD.out.trans (hd.mono HD.out.size))
                replace HWC117 := Lib.hid (HWC117.out.trans (hd.mono HWC117.out.size))
                clear hd
                cases y120
                · replace HB116 := Lib.hid (ifF Bool.false_ne_true HB116.out)
                  cases Option.some.inj HB116.out
                  try go_wp2_with fail
                  go_meet
                  case rel => exact ⟨rfl, HWC117⟩
                · replace HB116 := Lib.hid (ifT rfl HB116.out)
                  rcases Bool.eq_false_or_eq_true (y112 == x16) with hc122 | hc122
                  · replace HB116 := Lib.hid (ifT hc122 HB116.out)
                    have HK123 := Lib.hid hc122
                    cases Option.some.inj HB116.out
                    try go_wp2_with fail
                    go_meet
                    case rel => exact ⟨rfl, HWC117⟩
                  · replace HB116 := Lib.hid (ifF (bF hc122) HB116.out)
                    have HK123 := Lib.hid hc122
                    cases Option.some.inj HB116.out
                    try go_wp2_with fail
                    go_meet
                    case rel => exact ⟨rfl, HWC117⟩
              case rest =>
                as_aux_lemma =>
                  obtain ⟨rfl, HWC117⟩ := hcut
                  rename World => W124
                  have hd := HWC117.out
                  replace HOA := Lib.hid (HOA.out.below hd)
                  replace HD := Lib.hid (HD.out.trans (hd.mono HD.out.size))
                  clear hd
                  obtain ⟨⟨y127, y128⟩, hy125, hm⟩ := obind HM.out
                  dsimp only at hm
                  replace HM := Lib.hid hm; clear hm
                  have HC126 := tree_Name_ok W124 cap1 (rdL HD.out HR1.out) hy125
                  clear hy125
                  replace HC126 := Lib.hid HC126
                  go_wp2_with fail
                  refine HC126.out.mono ?_; rintro e W129 ⟨rfl, hd⟩
                  replace HOA := Lib.hid (HOA.out.below hd)
                  replace HD := Lib.hid (HD.out.trans (hd.mono HD.out.size))
                  clear hd
                  obtain ⟨b130, hb, hm⟩ := obind HM.out
                  replace HM := Lib.hid hm; have HB131 := Lib.hid hb; clear hm hb
                  obtain ⟨b132, hb, hm⟩ := obind HB131.out
                  replace HB131 := Lib.hid hm; have HB133 := Lib.hid hb; clear hm hb
                  obtain ⟨b134, hb, hm⟩ := obind HB133.out
                  replace HB133 := Lib.hid hm; have HB135 := Lib.hid hb; clear hm hb
                  obtain ⟨b136, hb, hm⟩ := obind HB135.out
                  replace HB135 := Lib.hid hm; have HB137 := Lib.hid hb; clear hm hb
                  cases y11
                  · replace HB137 := Lib.hid (ifF Bool.false_ne_true HB137.out)
                    obtain rfl := Option.some.inj HB137.out
                    replace HB135 := Lib.hid (ifF (by first | exact Bool.false_ne_true | exact not_false) HB135.out)
                    obtain rfl := Option.some.inj HB135.out
                    replace HB133 := Lib.hid (ifF (by first | exact Bool.false_ne_true | exact not_false) HB133.out)
                    obtain rfl := Option.some.inj HB133.out
                    replace HB131 := Lib.hid (ifF (by first | exact Bool.false_ne_true | exact not_false) HB131.out)
                    obtain rfl := Option.some.inj HB131.out
                    obtain rfl := Option.some.inj HM.out
                    go_wp2_with fail
                    go_ret
                    exact ⟨rfl, HD.out⟩
                  · replace HB137 := Lib.hid (ifT rfl HB137.out)
                    cases b90
                    · replace HB137 := Lib.hid (ifF Bool.false_ne_true HB137.out)
                      obtain rfl := Option.some.inj HB137.out
                      replace HB135 := Lib.hid (ifF (by first | exact Bool.false_ne_true | exact not_false) HB135.out)
                      obtain rfl := Option.some.inj HB135.out
                      replace HB133 := Lib.hid (ifF (by first | exact Bool.false_ne_true | exact not_false) HB133.out)
                      obtain rfl := Option.some.inj HB133.out
                      replace HB131 := Lib.hid (ifF (by first | exact Bool.false_ne_true | exact not_false) HB131.out)
                      obtain rfl := Option.some.inj HB131.out
                      obtain rfl := Option.some.inj HM.out
                      go_wp2_with fail
                      go_ret
                      exact ⟨rfl, HD.out⟩
                    · replace HB137 := Lib.hid (ifT rfl HB137.out)
                      obtain rfl := Option.some.inj HB137.out
                      replace HB135 := Lib.hid (ifT (by first | rfl | trivial) HB135.out)
                      cases b115
                      · replace HB135 := Lib.hid (ifF Bool.false_ne_true HB135.out)
                        obtain rfl := Option.some.inj HB135.out
                        replace HB133 := Lib.hid (ifF (by first | exact Bool.false_ne_true | exact not_false) HB133.out)
                        obtain rfl := Option.some.inj HB133.out
                        replace HB131 := Lib.hid (ifF (by first | exact Bool.false_ne_true | exact not_false) HB131.out)
                        obtain rfl := Option.some.inj HB131.out
                        obtain rfl := Option.some.inj HM.out
                        go_wp2_with fail
                        go_ret
                        exact ⟨rfl, HD.out⟩
                      · replace HB135 := Lib.hid (ifT rfl HB135.out)
                        obtain rfl := Option.some.inj HB135.out
                        replace HB133 := Lib.hid (ifT (by first | rfl | trivial) HB133.out)
                        obtain ⟨y140, hy138, hm⟩ := obind HB133.out
                        replace HB133 := Lib.hid hm; clear hm
                        have HC139 := mErr_ok W129 (HTC.out.go HD.out)  hy138
                        clear hy138
                        replace HC139 := Lib.hid HC139
                        go_wp2_with fail
                        refine HC139.out.mono ?_; rintro e W141 ⟨rfl, hd⟩
                        replace HOA := Lib.hid (HOA.out.below hd)
                        replace HD := Lib.hid (HD.out.trans (hd.mono HD.out.size))
                        clear hd
                        cases y140
                        · replace HB133 := Lib.hid (ifF Bool.false_ne_true HB133.out)
                          obtain rfl := Option.some.inj HB133.out
                          replace HB131 := Lib.hid (ifF (by first | exact Bool.false_ne_true | exact not_false) HB131.out)
                          obtain rfl := Option.some.inj HB131.out
                          obtain rfl := Option.some.inj HM.out
                          go_wp2_with fail
                          go_ret
                          exact ⟨rfl, HD.out⟩
                        · replace HB133 := Lib.hid (ifT rfl HB133.out)
                          obtain rfl := Option.some.inj HB133.out
                          replace HB131 := Lib.hid (ifT (by first | rfl | trivial) HB131.out)
                          rcases Bool.eq_false_or_eq_true (((y127).toList == (x17).toList)) with hc142 | hc142
                          · replace HB131 := Lib.hid (ifT hc142 HB131.out)
                            have HK143 := Lib.hid hc142
                            obtain rfl := Option.some.inj HB131.out
                            obtain rfl := Option.some.inj HM.out
                            go_wp2_with fail
                            go_ret
                            exact ⟨(by first | rfl | (refine congrArg (fun b => Ending.returned (Value.bool b)) ?_; first | (exact decide_eq_true (by omega)) | (exact decide_eq_false (by omega)) | (have q := hc142; rw [bne_iff_ne] at q ⊢; omega) | (have q := hc142; rw [bne_eq_false_iff_eq] at q ⊢; omega) | (have q := hc142; rw [beq_iff_eq] at q ⊢; omega) | (have q := hc142; rw [beq_eq_false_iff_ne] at q ⊢; omega) | exact hc142 | (rw [hc142]; rfl))), HD.out⟩
                          · replace HB131 := Lib.hid (ifF (bF hc142) HB131.out)
                            have HK143 := Lib.hid hc142
                            obtain rfl := Option.some.inj HB131.out
                            obtain rfl := Option.some.inj HM.out
                            go_wp2_with fail
                            go_ret
                            exact ⟨(by first | rfl | (refine congrArg (fun b => Ending.returned (Value.bool b)) ?_; first | (exact decide_eq_true (by omega)) | (exact decide_eq_false (by omega)) | (have q := hc142; rw [bne_iff_ne] at q ⊢; omega) | (have q := hc142; rw [bne_eq_false_iff_eq] at q ⊢; omega) | (have q := hc142; rw [beq_iff_eq] at q ⊢; omega) | (have q := hc142; rw [beq_eq_false_iff_ne] at q ⊢; omega) | exact hc142 | (rw [hc142]; rfl))), HD.out⟩
end Go.Proofs.YtgnbholhgcbhfaaDoor
