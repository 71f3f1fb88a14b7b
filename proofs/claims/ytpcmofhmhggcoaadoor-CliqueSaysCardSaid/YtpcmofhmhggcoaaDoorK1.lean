import Derived.Test.YtpcmofhmhggcoaaDoorGR
import Derived.Test.YtpcmofhmhggcoaaDoorBro
set_option linter.all false
set_option maxRecDepth 100000
namespace Go.Proofs.YtpcmofhmhggcoaaDoor
open Go.RowKit
def R3_Cliques_L2 (F : Nat) (v0 : Int) (v1 : List (Int × Int)) (v5 : List Int) : Nat → (Bool) → (Int) → Option (Bool × Int)
  | 0, _, _ => none
  | g+1, v6, v7 => (if v7 < v0 then if v6 = true then some true else some false else some false).bind fun b4 => if b4 = true then (((R1_Has F (v5) (v7)).bind fun y6 => if y6 = true then some false else (R1_Behind F (v5) (v7)).bind fun y7 => (R3_Together F (v1) (y7) (true)).bind fun y8 => if y8 = true then some true else some false).bind fun b5 => if b5 = true then R3_Cliques_L2 F v0 v1 v5 g (false) ((wrap64 (v7 + 1))) else R3_Cliques_L2 F v0 v1 v5 g (v6) ((wrap64 (v7 + 1)))) else some (v6, v7)
theorem R3_Cliques_L2_0 (F : Nat) (v0 : Int) (v1 : List (Int × Int)) (v5 : List Int) (v6 : Bool) (v7 : Int) : R3_Cliques_L2 F v0 v1 v5 0 v6 v7 = none := by rw [R3_Cliques_L2]
theorem R3_Cliques_L2_s (F g : Nat) (v0 : Int) (v1 : List (Int × Int)) (v5 : List Int) (v6 : Bool) (v7 : Int) : R3_Cliques_L2 F v0 v1 v5 (g+1) v6 v7 = ((if v7 < v0 then if v6 = true then some true else some false else some false).bind fun b4 => if b4 = true then (((R1_Has F (v5) (v7)).bind fun y6 => if y6 = true then some false else (R1_Behind F (v5) (v7)).bind fun y7 => (R3_Together F (v1) (y7) (true)).bind fun y8 => if y8 = true then some true else some false).bind fun b5 => if b5 = true then R3_Cliques_L2 F v0 v1 v5 g (false) ((wrap64 (v7 + 1))) else R3_Cliques_L2 F v0 v1 v5 g (v6) ((wrap64 (v7 + 1)))) else some (v6, v7)) := by rw [R3_Cliques_L2]
def R3_Cliques_L1 (F : Nat) (v0 : Int) (v1 : List (Int × Int)) : Nat → (List (List Int)) → (Int) → Option (List (List Int) × Int)
  | 0, _, _ => none
  | g+1, v3, v4 => (R3_Power F (v0)).bind fun y1 => if v4 < y1 then (R3_Members F (v4)).bind fun y2 => (R3_Together F (v1) (y2) (true)).bind fun y3 => (R3_Cliques_L2 F (v0) (v1) (y2) F (y3) (0)).bind fun o9 => (if o9.1 = true then (app v3 y2).bind fun y10 => R3_Cliques_L1 F v0 v1 g (y10) ((wrap64 (v4 + 1))) else R3_Cliques_L1 F v0 v1 g (v3) ((wrap64 (v4 + 1)))) else some (v3, v4)
theorem R3_Cliques_L1_0 (F : Nat) (v0 : Int) (v1 : List (Int × Int)) (v3 : List (List Int)) (v4 : Int) : R3_Cliques_L1 F v0 v1 0 v3 v4 = none := by rw [R3_Cliques_L1]
theorem R3_Cliques_L1_s (F g : Nat) (v0 : Int) (v1 : List (Int × Int)) (v3 : List (List Int)) (v4 : Int) : R3_Cliques_L1 F v0 v1 (g+1) v3 v4 = ((R3_Power F (v0)).bind fun y1 => if v4 < y1 then (R3_Members F (v4)).bind fun y2 => (R3_Together F (v1) (y2) (true)).bind fun y3 => (R3_Cliques_L2 F (v0) (v1) (y2) F (y3) (0)).bind fun o9 => (if o9.1 = true then (app v3 y2).bind fun y10 => R3_Cliques_L1 F v0 v1 g (y10) ((wrap64 (v4 + 1))) else R3_Cliques_L1 F v0 v1 g (v3) ((wrap64 (v4 + 1)))) else some (v3, v4)) := by rw [R3_Cliques_L1]
def R3_Cliques_L4 (F : Nat) (v3 : List (List Int)) (v9 : List Bool) : Nat → (Int) → (Int) → Option (Int × Int)
  | 0, _, _ => none
  | g+1, v11, v12 => if v12 < ((v3).length : Int) then (((ix v9 v12).bind fun y14 => if y14 = true then some false else if v11 < 0 then some true else (ix v3 v12).bind fun y15 => (ix v3 v11).bind fun y16 => (R3_Ahead F (y15) (y16)).bind fun y17 => if y17 = true then some true else some false).bind fun b13 => if b13 = true then R3_Cliques_L4 F v3 v9 g (v12) ((wrap64 (v12 + 1))) else R3_Cliques_L4 F v3 v9 g (v11) ((wrap64 (v12 + 1)))) else some (v11, v12)
theorem R3_Cliques_L4_0 (F : Nat) (v3 : List (List Int)) (v9 : List Bool) (v11 : Int) (v12 : Int) : R3_Cliques_L4 F v3 v9 0 v11 v12 = none := by rw [R3_Cliques_L4]
theorem R3_Cliques_L4_s (F g : Nat) (v3 : List (List Int)) (v9 : List Bool) (v11 : Int) (v12 : Int) : R3_Cliques_L4 F v3 v9 (g+1) v11 v12 = (if v12 < ((v3).length : Int) then (((ix v9 v12).bind fun y14 => if y14 = true then some false else if v11 < 0 then some true else (ix v3 v12).bind fun y15 => (ix v3 v11).bind fun y16 => (R3_Ahead F (y15) (y16)).bind fun y17 => if y17 = true then some true else some false).bind fun b13 => if b13 = true then R3_Cliques_L4 F v3 v9 g (v12) ((wrap64 (v12 + 1))) else R3_Cliques_L4 F v3 v9 g (v11) ((wrap64 (v12 + 1)))) else some (v11, v12)) := by rw [R3_Cliques_L4]
def R3_Cliques_L3 (F : Nat) (v3 : List (List Int)) : Nat → (List (List Int)) → (List Bool) → (Int) → Option (List (List Int) × List Bool × Int)
  | 0, _, _, _ => none
  | g+1, v8, v9, v10 => if v10 < ((v3).length : Int) then (R3_Cliques_L4 F (v3) (v9) F ((-1)) (0)).bind fun o18 => (st v9 o18.1 true).bind fun y19 => (ix v3 o18.1).bind fun y21 => (app v8 y21).bind fun y20 => R3_Cliques_L3 F v3 g (y20) (y19) ((wrap64 (v10 + 1))) else some (v8, v9, v10)
theorem R3_Cliques_L3_0 (F : Nat) (v3 : List (List Int)) (v8 : List (List Int)) (v9 : List Bool) (v10 : Int) : R3_Cliques_L3 F v3 0 v8 v9 v10 = none := by rw [R3_Cliques_L3]
theorem R3_Cliques_L3_s (F g : Nat) (v3 : List (List Int)) (v8 : List (List Int)) (v9 : List Bool) (v10 : Int) : R3_Cliques_L3 F v3 (g+1) v8 v9 v10 = (if v10 < ((v3).length : Int) then (R3_Cliques_L4 F (v3) (v9) F ((-1)) (0)).bind fun o18 => (st v9 o18.1 true).bind fun y19 => (ix v3 o18.1).bind fun y21 => (app v8 y21).bind fun y20 => R3_Cliques_L3 F v3 g (y20) (y19) ((wrap64 (v10 + 1))) else some (v8, v9, v10)) := by rw [R3_Cliques_L3]
def R3_Cliques (F : Nat) (v0 : Int) (v1 : List (Int × Int)) : Option (List (List Int)) := (R3_Cliques_L1 F (v0) (v1) F ([]) (1)).bind fun o11 => (mkB ((o11.1).length : Int)).bind fun y12 => (R3_Cliques_L3 F (o11.1) F ([]) (y12) (0)).bind fun o22 => some (o22.1)
set_option maxRecDepth 100000 in
set_option maxHeartbeats 4000000 in
theorem R3_Cliques_ok {F : Nat} {v0 : Int} {v1 : List (Int × Int)} {A1 : Option Addr} {r : List (List Int)} (w : World) (cap1 : Nat) (hr1 : ReadsL w w.heap.size A1 v1) (h : R3_Cliques F v0 v1 = some r) :
    Calls Tryd.prog 6 #[.int .i64 v0, .slice A1 v1.length cap1] w fun e w' => ∃ A cap, e = .returned (.slice A r.length cap) ∧ ReadsR w' w'.heap.size A r ∧ Below w.heap.size w w' := by
  have HR1 := Lib.hid hr1; clear hr1
  have HD := Lib.hid (Below.refl w.heap.size w)
  have HOA := Lib.hid (HP.nil (W := w) (B := w.heap.size))
  unfold R3_Cliques at h
  have HM := Lib.hid h; clear h
  go_enter Tryd.func6, Tryd.ntmps6
  replace HOA := Lib.hid (show HP _ _ (.ro (.slice none 0 0) ([]) :: _) from HOA.out.pushNilR)
  go_wp2_with fail
  obtain ⟨o2, ho, hm⟩ := obind HM.out
  replace HM := Lib.hid hm; have HL1 := Lib.hid ho; clear hm ho
  go_loopg [5, 6] F (fun gg ux5 ux6 wr => ∃ (x3 : List (List Int)) (x4 : Int) (V7 : Value), V7 = ux5 ∧ ux6 = .int .i64 x4 ∧ Hid (Below w.heap.size w wr) ∧ Hid (HP wr w.heap.size [.ro V7 (x3)]) ∧ Hid (R3_Cliques_L1 F (v0) (v1) gg x3 x4 = some o2))
  case atStart => exact ⟨[], 1, (.slice none 0 0), rfl, rfl, HD, HOA, HL1⟩
  case round =>
    obtain ⟨x3, x4, V7, rfl, rfl, HD, HOA, HL1⟩ := hrel
    rename World => W8
    cases gk with
    | zero => exact absurd ((R3_Cliques_L1_0 ..).symm.trans HL1.out) (by intro h; cases h)
    | succ g1 =>
      replace HL1 := Lib.hid ((R3_Cliques_L1_s ..).symm.trans HL1.out)
      obtain ⟨y11, hy9, hm⟩ := obind HL1.out
      replace HL1 := Lib.hid hm; clear hm
      have HC10 := R3_Power_ok W8  hy9
      clear hy9
      replace HC10 := Lib.hid HC10
      by_cases hc12 : x4 < y11
      · replace HL1 := Lib.hid (ifT hc12 HL1.out)
        have HK13 := Lib.hid hc12
        obtain ⟨y16, hy14, hm⟩ := obind HL1.out
        replace HL1 := Lib.hid hm; clear hm
        have HC15 := R3_Members_ok W8  hy14
        clear hy14
        replace HC15 := Lib.hid HC15
        go_wp2_with fail
        refine HC10.out.mono ?_; rintro e w' ⟨rfl, rfl⟩
        go_wp2_with fail
        refine HC15.out.mono ?_; rintro e W17 ⟨V18, rfl, ho, hd⟩
        try clear hc12
        replace HOA := Lib.hid (HOA.out.call hd HD.out.size ho); clear ho
        replace HD := Lib.hid (HD.out.trans (hd.mono HD.out.size))
        clear hd
        obtain ⟨y22, hy20, hm⟩ := obind HL1.out
        replace HL1 := Lib.hid hm; clear hm
        obtain ⟨A23, cap24, he, _⟩ := HP.open_I HOA.out (List.Mem.head _)
        subst he
        have HC21 := R3_Together_ok W17 cap1 (rdL HD.out HR1.out) cap24 (HP.rd_I HOA.out (List.Mem.head _)) hy20
        clear hy20
        replace HC21 := Lib.hid HC21
        go_wp2_with fail
        refine HC21.out.mono ?_; rintro e W25 ⟨rfl, hd⟩
        replace HOA := Lib.hid (HOA.out.below (hd.below _))
        replace HD := Lib.hid (HD.out.trans ((hd.below _).mono HD.out.size))
        clear hd
        go_wp2_with fail
        obtain ⟨o26, ho, hm⟩ := obind HL1.out
        replace HL1 := Lib.hid hm; have HL2 := Lib.hid ho; clear hm ho
        go_loopg [8, 9] F (fun gg ux29 ux30 wr => ∃ (x27 : Bool) (x28 : Int), ux29 = .bool x27 ∧ ux30 = .int .i64 x28 ∧ Hid (Below W25.heap.size W25 wr) ∧ Hid (R3_Cliques_L2 F (v0) (v1) (y16) gg x27 x28 = some o26))
        case atStart => exact ⟨y22, 0, rfl, rfl, (Lib.hid (Below.refl _ _)), HL2⟩
        case round =>
          obtain ⟨x27, x28, rfl, rfl, HW2, HL2⟩ := hrel
          rename World => W31
          have hd := HW2.out
          replace HOA := Lib.hid (HOA.out.below hd)
          replace HD := Lib.hid (HD.out.trans (hd.mono HD.out.size))
          clear hd
          cases gk with
          | zero => exact absurd ((R3_Cliques_L2_0 ..).symm.trans HL2.out) (by intro h; cases h)
          | succ g2 =>
            replace HL2 := Lib.hid ((R3_Cliques_L2_s ..).symm.trans HL2.out)
            obtain ⟨b32, hb, hm⟩ := obind HL2.out
            replace HL2 := Lib.hid hm; have HB33 := Lib.hid hb; clear hm hb
            by_cases hc34 : x28 < v0
            · replace HB33 := Lib.hid (ifT hc34 HB33.out)
              have HK35 := Lib.hid hc34
              cases x27
              · replace HB33 := Lib.hid (ifF Bool.false_ne_true HB33.out)
                obtain rfl := Option.some.inj HB33.out
                replace HL2 := Lib.hid (ifF (by first | exact Bool.false_ne_true | exact not_false) HL2.out)
                obtain rfl := Option.some.inj HL2.out
                have hm := HL1.out; try dsimp only at hm
                replace HL1 := Lib.hid hm; clear hm
                replace HL1 := Lib.hid (ifF (by first | exact Bool.false_ne_true | exact not_false) HL1.out)
                go_wp2_with fail
                try clear hc34
                replace HOA := Lib.hid (HOA.out.sub (.cons _ (.cons₂ _ .slnil)))
                go_roundg g1
                case measure => omega
                case rel => exact ⟨x3, (wrap64 (x4 + 1)), V7, rfl, rfl, HD, HOA, HL1⟩
              · replace HB33 := Lib.hid (ifT rfl HB33.out)
                obtain rfl := Option.some.inj HB33.out
                replace HL2 := Lib.hid (ifT (by first | rfl | trivial) HL2.out)
                obtain ⟨b36, hb, hm⟩ := obind HL2.out
                replace HL2 := Lib.hid hm; have HB37 := Lib.hid hb; clear hm hb
                obtain ⟨y40, hy38, hm⟩ := obind HB37.out
                replace HB37 := Lib.hid hm; clear hm
                have HC39 := R1_Has_ok W31 cap24 (HP.rd_I HOA.out (List.Mem.head _)) hy38
                clear hy38
                replace HC39 := Lib.hid HC39
                cases y40
                · replace HB37 := Lib.hid (ifF Bool.false_ne_true HB37.out)
                  obtain ⟨y43, hy41, hm⟩ := obind HB37.out
                  replace HB37 := Lib.hid hm; clear hm
                  have HC42 := R1_Behind_ok W31 cap24 (HP.rd_I HOA.out (List.Mem.head _)) hy41
                  clear hy41
                  replace HC42 := Lib.hid HC42
                  go_wp2_with fail
                  refine HC39.out.mono ?_; rintro e w' ⟨rfl, rfl⟩
                  go_wp2_with fail
                  refine HC42.out.mono ?_; rintro e W44 ⟨V45, rfl, ho, hd⟩
                  try clear hc34
                  replace HOA := Lib.hid (HOA.out.call hd HD.out.size ho); clear ho
                  replace HD := Lib.hid (HD.out.trans (hd.mono HD.out.size))
                  replace HW2 := Lib.hid (HW2.out.trans (hd.mono HW2.out.size))
                  clear hd
                  obtain ⟨y49, hy47, hm⟩ := obind HB37.out
                  replace HB37 := Lib.hid hm; clear hm
                  obtain ⟨A50, cap51, he, _⟩ := HP.open_I HOA.out (List.Mem.head _)
                  subst he
                  have HC48 := R3_Together_ok W44 cap1 (rdL HD.out HR1.out) cap51 (HP.rd_I HOA.out (List.Mem.head _)) hy47
                  clear hy47
                  replace HC48 := Lib.hid HC48
                  go_wp2_with fail
                  refine HC48.out.mono ?_; rintro e W52 ⟨rfl, hd⟩
                  replace HOA := Lib.hid (HOA.out.below (hd.below _))
                  replace HD := Lib.hid (HD.out.trans ((hd.below _).mono HD.out.size))
                  replace HW2 := Lib.hid (HW2.out.trans ((hd.below _).mono HW2.out.size))
                  clear hd
                  cases y49
                  · replace HB37 := Lib.hid (ifF Bool.false_ne_true HB37.out)
                    obtain rfl := Option.some.inj HB37.out
                    replace HL2 := Lib.hid (ifF (by first | exact Bool.false_ne_true | exact not_false) HL2.out)
                    go_wp2_with fail
                    go_roundg g2
                    case measure => omega
                    case rel => exact ⟨true, (wrap64 (x28 + 1)), rfl, rfl, HW2, HL2⟩
                  · replace HB37 := Lib.hid (ifT rfl HB37.out)
                    obtain rfl := Option.some.inj HB37.out
                    replace HL2 := Lib.hid (ifT (by first | rfl | trivial) HL2.out)
                    go_wp2_with fail
                    go_roundg g2
                    case measure => omega
                    case rel => exact ⟨false, (wrap64 (x28 + 1)), rfl, rfl, HW2, HL2⟩
                · replace HB37 := Lib.hid (ifT rfl HB37.out)
                  obtain rfl := Option.some.inj HB37.out
                  replace HL2 := Lib.hid (ifF (by first | exact Bool.false_ne_true | exact not_false) HL2.out)
                  go_wp2_with fail
                  refine HC39.out.mono ?_; rintro e w' ⟨rfl, rfl⟩
                  go_wp2_with fail
                  try clear hc34
                  go_roundg g2
                  case measure => omega
                  case rel => exact ⟨true, (wrap64 (x28 + 1)), rfl, rfl, HW2, HL2⟩
            · replace HB33 := Lib.hid (ifF hc34 HB33.out)
              have hc34d := decide_eq_false hc34
              have HK35 := Lib.hid hc34
              obtain rfl := Option.some.inj HB33.out
              replace HL2 := Lib.hid (ifF (by first | exact Bool.false_ne_true | exact not_false) HL2.out)
              obtain rfl := Option.some.inj HL2.out
              have hm := HL1.out; try dsimp only at hm
              replace HL1 := Lib.hid hm; clear hm
              cases x27
              · replace HL1 := Lib.hid (ifF Bool.false_ne_true HL1.out)
                go_wp2_with fail
                try clear hc34 hc34d
                replace HOA := Lib.hid (HOA.out.sub (.cons _ (.cons₂ _ .slnil)))
                go_roundg g1
                case measure => omega
                case rel => exact ⟨x3, (wrap64 (x4 + 1)), V7, rfl, rfl, HD, HOA, HL1⟩
              · replace HL1 := Lib.hid (ifT rfl HL1.out)
                obtain ⟨y53, hy54, hm⟩ := obind HL1.out
                replace HL1 := Lib.hid hm; clear hm
                obtain ⟨f55, hy54⟩ := app_some hy54; subst hy54
                have HF58 := Lib.hid f55; clear f55
                have hfr := Lib.hid (HP.front (its1 := []) HOA.out)
                go_upto_region 4 with (at_builtin; refine hp_appR _ (.tmp 46) (.tmp 48) 24 Tryd.underlying24 rfl rfl (its1 := []) hfr.out rfl rfl HF58.out HD.out.size ?_; intro V56 W57 hoa hd)
                clear hfr
                try clear hc34 hc34d
                replace HOA := Lib.hid (show HP W57 w.heap.size [.ro V56 ((x3 ++ [y16]))] from hoa); clear hoa
                replace HD := Lib.hid (HD.out.trans hd); clear hd
                go_wp2_with fail
                go_roundg g1
                case measure => omega
                case rel => exact ⟨(x3 ++ [y16]), (wrap64 (x4 + 1)), V56, rfl, rfl, HD, HOA, HL1⟩
      · replace HL1 := Lib.hid (ifF hc12 HL1.out)
        have hc12d := decide_eq_false hc12
        have HK13 := Lib.hid hc12
        obtain rfl := Option.some.inj HL1.out
        have hm := HM.out; try dsimp only at hm
        replace HM := Lib.hid hm; clear hm
        go_wp2_with fail
        refine HC10.out.mono ?_; rintro e w' ⟨rfl, rfl⟩
        go_wp2_with fail
        try clear hc12 hc12d
        obtain ⟨A59, cap60, he, _⟩ := HP.open_R HOA.out (List.Mem.head _)
        subst he
        have HRP := Lib.hid (HP.rd_R HOA.out (List.Mem.head _))
        replace HR1 := Lib.hid (rdL HD.out HR1.out)
        have HD0 := HD; clear HD HOA
        have HD := Lib.hid (Below.refl W8.heap.size W8)
        have HOA := Lib.hid (HP.nil (W := W8) (B := W8.heap.size))
        replace HOA := Lib.hid (show HP _ _ (.fl (owV (.slice none 0 0) []) :: _) from HOA.out.pushNil _ _)
        have HSH := Lib.hid (Shr.nil W8)
        obtain ⟨y62, hy63, hm⟩ := obind HM.out
        replace HM := Lib.hid hm; clear hm
        obtain ⟨f64, hy63⟩ := mkB_some hy63
        obtain ⟨N68, hN69⟩ : ∃ N, Int.toNat ((x3).length : Int) = N := ⟨_, rfl⟩
        rw [hN69] at hy63; subst hy63
        have hmk65 := run_makeB f64; simp only [hN69] at hmk65
        have hd : Below W8.heap.size W8 (W8.alloc (.cells (Array.replicate N68 (Value.bool false)) 4)) := (Below.refl _ _).alloc (Nat.le_refl _) _
        have ho := mkB_ok W8 f64; rw [hN69] at ho; clear hN69
        go_upto_region 16 with (refine upon_go ?_; go_simp)
        generalize hW : World.alloc W8 _ = W66 at *
        clear hW hmk65 f64
        replace HOA := Lib.hid (HOA.out.call hd HD.out.size ho); clear ho
        replace HD := Lib.hid (HD.out.trans (hd.mono HD.out.size))
        clear hd
        go_wp2_with fail
        obtain ⟨o70, ho, hm⟩ := obind HM.out
        replace HM := Lib.hid hm; have HL3 := Lib.hid ho; clear hm ho
        go_loopg [10, 12] F (fun gg ux74 ux75 wr => ∃ (x71 : List (List Int)) (x72 : List Bool) (x73 : Int) (V76 : Value) (vs77 : List Value), V76 = ux74 ∧ ux75 = .int .i64 x73 ∧ Hid (Below W8.heap.size W8 wr) ∧ Hid (HP wr W8.heap.size [.fl (owB (.slice (some ⟨W8.heap.size, 0, none⟩) N68 N68) (x72)), .fl (owV V76 (vs77))]) ∧ Hid (Shr W8 vs77 x71) ∧ Hid (R3_Cliques_L3 F (x3) gg x71 x72 x73 = some o70))
        case atStart => exact ⟨[], (List.replicate N68 false), 0, (.slice none 0 0), _, rfl, rfl, HD, HOA, HSH, HL3⟩
        case round =>
          obtain ⟨x71, x72, x73, V76, vs77, rfl, rfl, HD, HOA, HSH, HL3⟩ := hrel
          rename World => W78
          cases gk with
          | zero => exact absurd ((R3_Cliques_L3_0 ..).symm.trans HL3.out) (by intro h; cases h)
          | succ g3 =>
            replace HL3 := Lib.hid ((R3_Cliques_L3_s ..).symm.trans HL3.out)
            by_cases hc79 : x73 < ((x3).length : Int)
            · replace HL3 := Lib.hid (ifT hc79 HL3.out)
              have HK80 := Lib.hid hc79
              go_wp2_with fail
              try clear hc79
              obtain ⟨o81, ho, hm⟩ := obind HL3.out
              replace HL3 := Lib.hid hm; have HL4 := Lib.hid ho; clear hm ho
              go_loopg [13, 14] F (fun gg ux84 ux85 wr => ∃ (x82 : Int) (x83 : Int), ux84 = .int .i64 x82 ∧ ux85 = .int .i64 x83 ∧ Hid (Below W78.heap.size W78 wr) ∧ Hid (R3_Cliques_L4 F (x3) (x72) gg x82 x83 = some o81))
              case atStart => exact ⟨(-1), 0, rfl, rfl, (Lib.hid (Below.refl _ _)), HL4⟩
              case round =>
                obtain ⟨x82, x83, rfl, rfl, HW4, HL4⟩ := hrel
                rename World => W86
                have hd := HW4.out
                replace HOA := Lib.hid (HOA.out.below hd)
                replace HD := Lib.hid (HD.out.trans (hd.mono HD.out.size))
                clear hd
                cases gk with
                | zero => exact absurd ((R3_Cliques_L4_0 ..).symm.trans HL4.out) (by intro h; cases h)
                | succ g4 =>
                  replace HL4 := Lib.hid ((R3_Cliques_L4_s ..).symm.trans HL4.out)
                  by_cases hc87 : x83 < ((x3).length : Int)
                  · replace HL4 := Lib.hid (ifT hc87 HL4.out)
                    have HK88 := Lib.hid hc87
                    try go_wp2_with fail
                    try clear hc87
                    obtain ⟨b89, hb, hm⟩ := obind HL4.out
                    replace HL4 := Lib.hid hm; have HB90 := Lib.hid hb; clear hm hb
                    obtain ⟨y91, hy92, hm⟩ := obind HB90.out
                    replace HB90 := Lib.hid hm; clear hm
                    obtain ⟨b93, o94, ea95, _, f96, f97, f98⟩ := ReadsB.ix (HP.rd_B HOA.out (List.Mem.head _)) hy92
                    cases ea95
                    try simp only [Nat.zero_add, Nat.add_zero, Int.toNat_natCast, Int.toNat_zero, Int.toNat_one] at f98
                    try rw [← HP.len_B HOA.out (List.Mem.head _)] at f97
                    have HY100 := Lib.hid hy92; clear hy92
                    cases y91
                    · replace HB90 := Lib.hid (ifF Bool.false_ne_true HB90.out)
                      by_cases hc101 : x82 < 0
                      · replace HB90 := Lib.hid (ifT hc101 HB90.out)
                        have HK102 := Lib.hid hc101
                        obtain rfl := Option.some.inj HB90.out
                        replace HL4 := Lib.hid (ifT (by first | rfl | trivial) HL4.out)
                        go_quiet (fail)
                        generalize hW : World.drewN W86 _ = W103
                        have hd : Dr W86 W103 := ⟨_, hW.symm⟩
                        clear hW
                        try clear f96 f97 f98 hc101
                        replace HOA := Lib.hid (HOA.out.below (hd.below _))
                        replace HD := Lib.hid (HD.out.trans ((hd.below _).mono HD.out.size))
                        replace HW4 := Lib.hid (HW4.out.trans ((hd.below _).mono HW4.out.size))
                        clear hd
                        go_wp2_with fail
                        go_roundg g4
                        case measure => omega
                        case rel => exact ⟨x83, (wrap64 (x83 + 1)), rfl, rfl, HW4, HL4⟩
                      · replace HB90 := Lib.hid (ifF hc101 HB90.out)
                        have hc101d := decide_eq_false hc101
                        have HK102 := Lib.hid hc101
                        obtain ⟨y104, hy105, hm⟩ := obind HB90.out
                        replace HB90 := Lib.hid hm; clear hm
                        obtain ⟨b106, o107, A113, cap114, ea108, _, f109, f110, f111, hrr⟩ := ReadsR.ix (rdR HD.out HRP.out) hy105
                        cases ea108
                        try simp only [Nat.zero_add, Nat.add_zero, Int.toNat_natCast, Int.toNat_zero, Int.toNat_one] at f111
                        have HR115 := Lib.hid hrr; clear hrr
                        have HY116 := Lib.hid hy105; clear hy105
                        obtain ⟨y117, hy118, hm⟩ := obind HB90.out
                        replace HB90 := Lib.hid hm; clear hm
                        obtain ⟨b119, o120, A126, cap127, ea121, _, f122, f123, f124, hrr⟩ := ReadsR.ix (rdR HD.out HRP.out) hy118
                        cases ea121
                        try simp only [Nat.zero_add, Nat.add_zero, Int.toNat_natCast, Int.toNat_zero, Int.toNat_one] at f124
                        have HR128 := Lib.hid hrr; clear hrr
                        have HY129 := Lib.hid hy118; clear hy118
                        obtain ⟨y132, hy130, hm⟩ := obind HB90.out
                        replace HB90 := Lib.hid hm; clear hm
                        have HC131 := Lib.hid (fun m => R3_Ahead_ok (W86.drewN m) cap114 (ReadsI.drewN' HR115.out m) cap127 (ReadsI.drewN' HR128.out m) hy130)
                        clear hy130
                        cases y132
                        · replace HB90 := Lib.hid (ifF Bool.false_ne_true HB90.out)
                          obtain rfl := Option.some.inj HB90.out
                          replace HL4 := Lib.hid (ifF (by first | exact Bool.false_ne_true | exact not_false) HL4.out)
                          go_quiet (first | (go_at_call 23; exact quiet_dr (HC131.out _)))
                          generalize hW : World.drewN W86 _ = W133
                          have hd : Dr W86 W133 := ⟨_, hW.symm⟩
                          clear hW
                          try clear f96 f97 f98 hc101 hc101d f109 f110 f111 f122 f123 f124
                          replace HOA := Lib.hid (HOA.out.below (hd.below _))
                          replace HR115 := Lib.hid (rdI (hd.below _) HR115.out)
                          replace HR128 := Lib.hid (rdI (hd.below _) HR128.out)
                          replace HD := Lib.hid (HD.out.trans ((hd.below _).mono HD.out.size))
                          replace HW4 := Lib.hid (HW4.out.trans ((hd.below _).mono HW4.out.size))
                          clear hd
                          go_wp2_with fail
                          go_roundg g4
                          case measure => omega
                          case rel => exact ⟨x82, (wrap64 (x83 + 1)), rfl, rfl, HW4, HL4⟩
                        · replace HB90 := Lib.hid (ifT rfl HB90.out)
                          obtain rfl := Option.some.inj HB90.out
                          replace HL4 := Lib.hid (ifT (by first | rfl | trivial) HL4.out)
                          go_quiet (first | (go_at_call 23; exact quiet_dr (HC131.out _)))
                          generalize hW : World.drewN W86 _ = W134
                          have hd : Dr W86 W134 := ⟨_, hW.symm⟩
                          clear hW
                          try clear f96 f97 f98 hc101 hc101d f109 f110 f111 f122 f123 f124
                          replace HOA := Lib.hid (HOA.out.below (hd.below _))
                          replace HR115 := Lib.hid (rdI (hd.below _) HR115.out)
                          replace HR128 := Lib.hid (rdI (hd.below _) HR128.out)
                          replace HD := Lib.hid (HD.out.trans ((hd.below _).mono HD.out.size))
                          replace HW4 := Lib.hid (HW4.out.trans ((hd.below _).mono HW4.out.size))
                          clear hd
                          go_wp2_with fail
                          go_roundg g4
                          case measure => omega
                          case rel => exact ⟨x83, (wrap64 (x83 + 1)), rfl, rfl, HW4, HL4⟩
                    · replace HB90 := Lib.hid (ifT rfl HB90.out)
                      obtain rfl := Option.some.inj HB90.out
                      replace HL4 := Lib.hid (ifF (by first | exact Bool.false_ne_true | exact not_false) HL4.out)
                      go_quiet (fail)
                      generalize hW : World.drewN W86 _ = W135
                      have hd : Dr W86 W135 := ⟨_, hW.symm⟩
                      clear hW
                      try clear f96 f97 f98
                      replace HOA := Lib.hid (HOA.out.below (hd.below _))
                      replace HD := Lib.hid (HD.out.trans ((hd.below _).mono HD.out.size))
                      replace HW4 := Lib.hid (HW4.out.trans ((hd.below _).mono HW4.out.size))
                      clear hd
                      go_wp2_with fail
                      go_roundg g4
                      case measure => omega
                      case rel => exact ⟨x82, (wrap64 (x83 + 1)), rfl, rfl, HW4, HL4⟩
                  · replace HL4 := Lib.hid (ifF hc87 HL4.out)
                    have hc87d := decide_eq_false hc87
                    have HK88 := Lib.hid hc87
                    obtain rfl := Option.some.inj HL4.out
                    have hm := HL3.out; try dsimp only at hm
                    replace HL3 := Lib.hid hm; clear hm
                    obtain ⟨y138, hy137, hm⟩ := obind HL3.out
                    replace HL3 := Lib.hid hm; clear hm
                    obtain ⟨f139, hy137⟩ := st_some hy137; subst hy137
                    obtain ⟨g145, ea, f142, ⟨ux144, f143⟩, hp, hb⟩ := HP.setB (x := true) (its1 := []) HOA.out f139
                    cases ea
                    obtain ⟨q0, q1⟩ := f139
                    try rw [← HP.len_B HOA.out (List.Mem.head _)] at q1
                    have HP_ := Lib.hid hp; have HB_ := Lib.hid hb; clear hp hb
                    go_upto_region 26 with (fail)
                    have hp := HP_.out; have hb := HB_.out; clear HP_ HB_
                    generalize hW : World.setCell W86 _ _ = W136 at *
                    clear hW
                    try clear f142 f143 q0 q1 hc87 hc87d
                    replace HOA := Lib.hid (show HP W136 W8.heap.size [.fl (owB (.slice (some ⟨W8.heap.size, 0, none⟩) N68 N68) ((List.set x72 (Int.toNat x82) true))), .fl (owV V76 (vs77))] from hp); clear hp
                    replace HD := Lib.hid (HD.out.trans hb); clear hb
                    obtain ⟨y149, hy150, hm⟩ := obind HL3.out
                    replace HL3 := Lib.hid hm; clear hm
                    obtain ⟨b151, o152, A158, cap159, ea153, _, f154, f155, f156, hrr⟩ := ReadsR.ix (rdR HD.out HRP.out) hy150
                    cases ea153
                    try simp only [Nat.zero_add, Nat.add_zero, Int.toNat_natCast, Int.toNat_zero, Int.toNat_one] at f156
                    have HR160 := Lib.hid hrr; clear hrr
                    have HY161 := Lib.hid hy150; clear hy150
                    obtain ⟨y162, hy163, hm⟩ := obind HL3.out
                    replace HL3 := Lib.hid hm; clear hm
                    obtain ⟨f164, hy163⟩ := app_some hy163; subst hy163
                    have HF167 := Lib.hid f164; clear f164
                    have hsh := Shr.snoc HD.out HRP.out HY161.out rfl (by first | exact f156 | simpa using f156) HSH.out
                    replace HSH := Lib.hid hsh; clear hsh
                    skip
                    have hl_ := Lib.hid (Shr.len HSH.out)
                    go_upto_region 18 with (at_builtin; refine hp_appV _ (.tmp 89) (.tmp 94) 24 Tryd.underlying24 rfl rfl (its1 := [_]) HOA.out rfl rfl rfl (by have q := hl_.out; have q2 := HF167.out; simp only [List.length_append, List.length_cons, List.length_nil] at q; omega) HD.out.size ?_; intro V165 W166 hoa hd)
                    clear hl_
                    try clear f154 f155 f156
                    replace HOA := Lib.hid (show HP W166 W8.heap.size [.fl (owB (.slice (some ⟨W8.heap.size, 0, none⟩) N68 N68) ((List.set x72 (Int.toNat x82) true))), .fl (owV V165 (vs77 ++ [(.slice A158 y149.length cap159)]))] from hoa); clear hoa
                    replace HD := Lib.hid (HD.out.trans hd); clear hd
                    go_wp2_with fail
                    go_roundg g3
                    case measure => omega
                    case rel => exact ⟨(x71 ++ [y149]), (List.set x72 (Int.toNat x82) true), (wrap64 (x73 + 1)), V165, _, rfl, rfl, HD, HOA, HSH, HL3⟩
            · replace HL3 := Lib.hid (ifF hc79 HL3.out)
              have hc79d := decide_eq_false hc79
              have HK80 := Lib.hid hc79
              obtain rfl := Option.some.inj HL3.out
              have hm := HM.out; try dsimp only at hm
              replace HM := Lib.hid hm; clear hm
              obtain rfl := Option.some.inj HM.out
              obtain ⟨A_, cap_, rfl, hr_⟩ := HSH.out.reads HOA.out HD.out (List.Mem.tail _ (List.Mem.head _))
              go_wp2_with fail
              try clear hc79 hc79d
              go_ret
              have hbb := HD0.out.trans (HD.out.mono HD0.out.size)
              first | exact ⟨_, ⟨_, rfl⟩, hr_, hbb⟩ | exact ⟨_, _, rfl, hr_, hbb⟩ | exact ⟨_, _, ⟨rfl, rfl⟩, hr_, hbb⟩ | exact ⟨_, hr_, hbb⟩ | exact ⟨hr_, hbb⟩ | exact ⟨_, ⟨_, rfl, hr_⟩, hbb⟩ | (simp only []; exact ⟨_, _, rfl, hr_, hbb⟩)
def R3_Biggest_L1 (F : Nat) (v0 : Int) (v1 : List (Int × Int)) (v2 : Bool) : Nat → (Int) → (Int) → Option (Int × Int)
  | 0, _, _ => none
  | g+1, v4, v5 => (R3_Power F (v0)).bind fun y1 => if v5 < y1 then (R3_Members F (v5)).bind fun y2 => ((if v4 < ((y2).length : Int) then (R3_Together F (v1) (y2) (v2)).bind fun y4 => if y4 = true then some true else some false else some false).bind fun b3 => if b3 = true then R3_Biggest_L1 F v0 v1 v2 g (((y2).length : Int)) ((wrap64 (v5 + 1))) else R3_Biggest_L1 F v0 v1 v2 g (v4) ((wrap64 (v5 + 1)))) else some (v4, v5)
theorem R3_Biggest_L1_0 (F : Nat) (v0 : Int) (v1 : List (Int × Int)) (v2 : Bool) (v4 : Int) (v5 : Int) : R3_Biggest_L1 F v0 v1 v2 0 v4 v5 = none := by rw [R3_Biggest_L1]
theorem R3_Biggest_L1_s (F g : Nat) (v0 : Int) (v1 : List (Int × Int)) (v2 : Bool) (v4 : Int) (v5 : Int) : R3_Biggest_L1 F v0 v1 v2 (g+1) v4 v5 = ((R3_Power F (v0)).bind fun y1 => if v5 < y1 then (R3_Members F (v5)).bind fun y2 => ((if v4 < ((y2).length : Int) then (R3_Together F (v1) (y2) (v2)).bind fun y4 => if y4 = true then some true else some false else some false).bind fun b3 => if b3 = true then R3_Biggest_L1 F v0 v1 v2 g (((y2).length : Int)) ((wrap64 (v5 + 1))) else R3_Biggest_L1 F v0 v1 v2 g (v4) ((wrap64 (v5 + 1)))) else some (v4, v5)) := by rw [R3_Biggest_L1]
def R3_Biggest (F : Nat) (v0 : Int) (v1 : List (Int × Int)) (v2 : Bool) : Option (Int) := (R3_Biggest_L1 F (v0) (v1) (v2) F (0) (0)).bind fun o5 => some (o5.1)
set_option maxRecDepth 100000 in
set_option maxHeartbeats 4000000 in
theorem R3_Biggest_ok {F : Nat} {v0 : Int} {v1 : List (Int × Int)} {A1 : Option Addr} {v2 : Bool} {r : Int} (w : World) (cap1 : Nat) (hr1 : ReadsL w w.heap.size A1 v1) (h : R3_Biggest F v0 v1 v2 = some r) :
    Calls Tryd.prog 7 #[.int .i64 v0, .slice A1 v1.length cap1, .bool v2] w fun e w' => e = .returned (.int .i64 r) ∧ Below w.heap.size w w' := by
  have HR1 := Lib.hid hr1; clear hr1
  have HD := Lib.hid (Below.refl w.heap.size w)
  have HOA := Lib.hid (HP.nil (W := w) (B := w.heap.size))
  unfold R3_Biggest at h
  have HM := Lib.hid h; clear h
  go_enter Tryd.func7, Tryd.ntmps7
  go_wp2_with fail
  obtain ⟨o1, ho, hm⟩ := obind HM.out
  replace HM := Lib.hid hm; have HL1 := Lib.hid ho; clear hm ho
  go_loopg [7, 8] F (fun gg ux4 ux5 wr => ∃ (x2 : Int) (x3 : Int), ux4 = .int .i64 x2 ∧ ux5 = .int .i64 x3 ∧ Hid (Below w.heap.size w wr) ∧ Hid (R3_Biggest_L1 F (v0) (v1) (v2) gg x2 x3 = some o1))
  case atStart => exact ⟨0, 0, rfl, rfl, (Lib.hid (Below.refl _ _)), HL1⟩
  case round =>
    obtain ⟨x2, x3, rfl, rfl, HW1, HL1⟩ := hrel
    rename World => W6
    have hd := HW1.out
    replace HOA := Lib.hid (HOA.out.below hd)
    replace HD := Lib.hid (HD.out.trans (hd.mono HD.out.size))
    clear hd
    cases gk with
    | zero => exact absurd ((R3_Biggest_L1_0 ..).symm.trans HL1.out) (by intro h; cases h)
    | succ g1 =>
      replace HL1 := Lib.hid ((R3_Biggest_L1_s ..).symm.trans HL1.out)
      obtain ⟨y9, hy7, hm⟩ := obind HL1.out
      replace HL1 := Lib.hid hm; clear hm
      have HC8 := R3_Power_ok W6  hy7
      clear hy7
      replace HC8 := Lib.hid HC8
      by_cases hc10 : x3 < y9
      · replace HL1 := Lib.hid (ifT hc10 HL1.out)
        have HK11 := Lib.hid hc10
        obtain ⟨y14, hy12, hm⟩ := obind HL1.out
        replace HL1 := Lib.hid hm; clear hm
        have HC13 := R3_Members_ok W6  hy12
        clear hy12
        replace HC13 := Lib.hid HC13
        go_wp2_with fail
        refine HC8.out.mono ?_; rintro e w' ⟨rfl, rfl⟩
        go_wp2_with fail
        refine HC13.out.mono ?_; rintro e W15 ⟨V16, rfl, ho, hd⟩
        try clear hc10
        replace HOA := Lib.hid (HOA.out.call hd HD.out.size ho); clear ho
        replace HD := Lib.hid (HD.out.trans (hd.mono HD.out.size))
        replace HW1 := Lib.hid (HW1.out.trans (hd.mono HW1.out.size))
        clear hd
        obtain ⟨b18, hb, hm⟩ := obind HL1.out
        replace HL1 := Lib.hid hm; have HB19 := Lib.hid hb; clear hm hb
        obtain ⟨A20, cap21, he, _⟩ := HP.open_I HOA.out (List.Mem.head _)
        subst he
        by_cases hc22 : x2 < ((y14).length : Int)
        · replace HB19 := Lib.hid (ifT hc22 HB19.out)
          have HK23 := Lib.hid hc22
          obtain ⟨y26, hy24, hm⟩ := obind HB19.out
          replace HB19 := Lib.hid hm; clear hm
          have HC25 := R3_Together_ok W15 cap1 (rdL HD.out HR1.out) cap21 (HP.rd_I HOA.out (List.Mem.head _)) hy24
          clear hy24
          replace HC25 := Lib.hid HC25
          go_wp2_with fail
          refine HC25.out.mono ?_; rintro e W27 ⟨rfl, hd⟩
          try clear hc22
          replace HOA := Lib.hid (HOA.out.below (hd.below _))
          replace HD := Lib.hid (HD.out.trans ((hd.below _).mono HD.out.size))
          replace HW1 := Lib.hid (HW1.out.trans ((hd.below _).mono HW1.out.size))
          clear hd
          cases y26
          · replace HB19 := Lib.hid (ifF Bool.false_ne_true HB19.out)
            obtain rfl := Option.some.inj HB19.out
            replace HL1 := Lib.hid (ifF (by first | exact Bool.false_ne_true | exact not_false) HL1.out)
            go_wp2_with fail
            go_roundg g1
            case measure => omega
            case rel => exact ⟨x2, (wrap64 (x3 + 1)), rfl, rfl, HW1, HL1⟩
          · replace HB19 := Lib.hid (ifT rfl HB19.out)
            obtain rfl := Option.some.inj HB19.out
            replace HL1 := Lib.hid (ifT (by first | rfl | trivial) HL1.out)
            go_wp2_with fail
            go_roundg g1
            case measure => omega
            case rel => exact ⟨((y14).length : Int), (wrap64 (x3 + 1)), rfl, rfl, HW1, HL1⟩
        · replace HB19 := Lib.hid (ifF hc22 HB19.out)
          have hc22d := decide_eq_false hc22
          have HK23 := Lib.hid hc22
          obtain rfl := Option.some.inj HB19.out
          replace HL1 := Lib.hid (ifF (by first | exact Bool.false_ne_true | exact not_false) HL1.out)
          go_wp2_with fail
          try clear hc22 hc22d
          go_roundg g1
          case measure => omega
          case rel => exact ⟨x2, (wrap64 (x3 + 1)), rfl, rfl, HW1, HL1⟩
      · replace HL1 := Lib.hid (ifF hc10 HL1.out)
        have hc10d := decide_eq_false hc10
        have HK11 := Lib.hid hc10
        obtain rfl := Option.some.inj HL1.out
        have hm := HM.out; try dsimp only at hm
        replace HM := Lib.hid hm; clear hm
        obtain rfl := Option.some.inj HM.out
        go_wp2_with fail
        refine HC8.out.mono ?_; rintro e w' ⟨rfl, rfl⟩
        go_wp2_with fail
        try clear hc10 hc10d
        go_ret
        exact ⟨rfl, HD.out⟩
def SE_Rows_L1 (F : Nat) (v0 : List (List Int)) (v1 : List (List Int)) : Nat → (Int) → Option ((Int) ⊕ (Bool))
  | 0, _ => none
  | g+1, v3 => if v3 < ((v0).length : Int) then ((ix v0 v3).bind fun y1 => (ix v1 v3).bind fun y2 => (SE_Ints F (y1) (y2)).bind fun y3 => if y3 = true then SE_Rows_L1 F v0 v1 g ((wrap64 (v3 + 1))) else some (.inr (false))) else some (.inl (v3))
theorem SE_Rows_L1_0 (F : Nat) (v0 : List (List Int)) (v1 : List (List Int)) (v3 : Int) : SE_Rows_L1 F v0 v1 0 v3 = none := by rw [SE_Rows_L1]
theorem SE_Rows_L1_s (F g : Nat) (v0 : List (List Int)) (v1 : List (List Int)) (v3 : Int) : SE_Rows_L1 F v0 v1 (g+1) v3 = (if v3 < ((v0).length : Int) then ((ix v0 v3).bind fun y1 => (ix v1 v3).bind fun y2 => (SE_Ints F (y1) (y2)).bind fun y3 => if y3 = true then SE_Rows_L1 F v0 v1 g ((wrap64 (v3 + 1))) else some (.inr (false))) else some (.inl (v3))) := by rw [SE_Rows_L1]
def SE_Rows (F : Nat) (v0 : List (List Int)) (v1 : List (List Int)) : Option (Bool) := (if (((v0).length : Int) != ((v1).length : Int)) = true then some (false) else (SE_Rows_L1 F (v0) (v1) F (0)).bind fun o4 => match o4 with | .inr r => some (r) | .inl o4 => some (true))
set_option maxRecDepth 100000 in
set_option maxHeartbeats 4000000 in
theorem SE_Rows_ok {F : Nat} {v0 : List (List Int)} {A0 : Option Addr} {v1 : List (List Int)} {A1 : Option Addr} {r : Bool} (w : World) (cap0 : Nat) (hr0 : ReadsR w w.heap.size A0 v0) (cap1 : Nat) (hr1 : ReadsR w w.heap.size A1 v1) (h : SE_Rows F v0 v1 = some r) :
    Calls Tryd.prog 10 #[.slice A0 v0.length cap0, .slice A1 v1.length cap1] w fun e w' => e = .returned (.bool r) ∧ Dr w w' := by
  have HR0 := Lib.hid hr0; clear hr0
  have HR1 := Lib.hid hr1; clear hr1
  have HD := Lib.hid (Dr.refl w)
  unfold SE_Rows at h
  have HM := Lib.hid h; clear h
  go_enter Tryd.func10, Tryd.ntmps10
  rcases Bool.eq_false_or_eq_true (((v0).length : Int) != ((v1).length : Int)) with hc1 | hc1
  · replace HM := Lib.hid (ifT hc1 HM.out)
    have HK2 := Lib.hid hc1
    obtain rfl := Option.some.inj HM.out
    go_wp2_with fail
    go_ret
    exact ⟨(by first | rfl | (refine congrArg (fun b => Ending.returned (Value.bool b)) ?_; first | (exact decide_eq_true (by omega)) | (exact decide_eq_false (by omega)) | (have q := hc1; rw [bne_iff_ne] at q ⊢; omega) | (have q := hc1; rw [bne_eq_false_iff_eq] at q ⊢; omega) | (have q := hc1; rw [beq_iff_eq] at q ⊢; omega) | (have q := hc1; rw [beq_eq_false_iff_ne] at q ⊢; omega))), HD.out⟩
  · replace HM := Lib.hid (ifF (bF hc1) HM.out)
    have HK2 := Lib.hid hc1
    go_wp2_with fail
    try clear hc1
    obtain ⟨o3, ho, hm⟩ := obind HM.out
    replace HM := Lib.hid hm; have HL1 := Lib.hid ho; clear hm ho
    go_loopg [5] F (fun gg ux5 wr => ∃ (x4 : Int), ux5 = .int .i64 x4 ∧ Hid (Dr w wr) ∧ Hid (SE_Rows_L1 F (v0) (v1) gg x4 = some o3))
    case atStart => exact ⟨0, rfl, HD, HL1⟩
    case round =>
      obtain ⟨x4, rfl, HD, HL1⟩ := hrel
      rename World => W6
      cases gk with
      | zero => exact absurd ((SE_Rows_L1_0 ..).symm.trans HL1.out) (by intro h; cases h)
      | succ g1 =>
        replace HL1 := Lib.hid ((SE_Rows_L1_s ..).symm.trans HL1.out)
        by_cases hc7 : x4 < ((v0).length : Int)
        · replace HL1 := Lib.hid (ifT hc7 HL1.out)
          have HK8 := Lib.hid hc7
          try go_wp2_with fail
          try clear hc7
          obtain ⟨y9, hy10, hm⟩ := obind HL1.out
          replace HL1 := Lib.hid hm; clear hm
          obtain ⟨b11, o12, A18, cap19, ea13, _, f14, f15, f16, hrr⟩ := ReadsR.ix (rdR (HD.out.below _) HR0.out) hy10
          cases ea13
          try simp only [Nat.zero_add, Nat.add_zero, Int.toNat_natCast, Int.toNat_zero, Int.toNat_one] at f16
          have HR20 := Lib.hid hrr; clear hrr
          have HY21 := Lib.hid hy10; clear hy10
          obtain ⟨y22, hy23, hm⟩ := obind HL1.out
          replace HL1 := Lib.hid hm; clear hm
          obtain ⟨b24, o25, A31, cap32, ea26, _, f27, f28, f29, hrr⟩ := ReadsR.ix (rdR (HD.out.below _) HR1.out) hy23
          cases ea26
          try simp only [Nat.zero_add, Nat.add_zero, Int.toNat_natCast, Int.toNat_zero, Int.toNat_one] at f29
          have HR33 := Lib.hid hrr; clear hrr
          have HY34 := Lib.hid hy23; clear hy23
          obtain ⟨y37, hy35, hm⟩ := obind HL1.out
          replace HL1 := Lib.hid hm; clear hm
          have HC36 := Lib.hid (fun m => SE_Ints_ok (W6.drewN m) cap19 (ReadsI.drewN' HR20.out m) cap32 (ReadsI.drewN' HR33.out m) hy35)
          clear hy35
          cases y37
          · replace HL1 := Lib.hid (ifF Bool.false_ne_true HL1.out)
            go_quiet (first | (go_at_call 31; exact quiet_dr (HC36.out _)))
            generalize hW : World.drewN W6 _ = W38
            have hd : Dr W6 W38 := ⟨_, hW.symm⟩
            clear hW
            try clear f14 f15 f16 f27 f28 f29
            replace HD := Lib.hid (HD.out.trans hd); clear hd
            obtain rfl := Option.some.inj HL1.out
            have hm := HM.out; try dsimp only at hm
            replace HM := Lib.hid hm; clear hm
            obtain rfl := Option.some.inj HM.out
            go_wp2_with fail
            go_ret
            exact ⟨rfl, HD.out⟩
          · replace HL1 := Lib.hid (ifT rfl HL1.out)
            go_quiet (first | (go_at_call 31; exact quiet_dr (HC36.out _)))
            generalize hW : World.drewN W6 _ = W39
            have hd : Dr W6 W39 := ⟨_, hW.symm⟩
            clear hW
            try clear f14 f15 f16 f27 f28 f29
            replace HD := Lib.hid (HD.out.trans hd); clear hd
            go_wp2_with fail
            go_roundg g1
            case measure => omega
            case rel => exact ⟨(wrap64 (x4 + 1)), rfl, HD, HL1⟩
        · replace HL1 := Lib.hid (ifF hc7 HL1.out)
          have hc7d := decide_eq_false hc7
          have HK8 := Lib.hid hc7
          obtain rfl := Option.some.inj HL1.out
          have hm := HM.out; try dsimp only at hm
          replace HM := Lib.hid hm; clear hm
          obtain rfl := Option.some.inj HM.out
          go_wp2_with fail
          go_ret
          exact ⟨(by first | rfl | (refine congrArg (fun b => Ending.returned (Value.bool b)) ?_; first | (exact decide_eq_true (by omega)) | (exact decide_eq_false (by omega)) | (have q := hc7; rw [bne_iff_ne] at q ⊢; omega) | (have q := hc7; rw [bne_eq_false_iff_eq] at q ⊢; omega) | (have q := hc7; rw [beq_iff_eq] at q ⊢; omega) | (have q := hc7; rw [beq_eq_false_iff_ne] at q ⊢; omega) | (have q := hc7d; rw [bne_iff_ne] at q ⊢; omega) | (have q := hc7d; rw [bne_eq_false_iff_eq] at q ⊢; omega) | (have q := hc7d; rw [beq_iff_eq] at q ⊢; omega) | (have q := hc7d; rw [beq_eq_false_iff_ne] at q ⊢; omega))), HD.out⟩
end Go.Proofs.YtpcmofhmhggcoaaDoor
