import Derived.Test.YtcbalejnkhnppaaDoorGR
import Derived.Test.YtcbalejnkhnppaaDoorSlc
import Derived.Test.YtcbalejnkhnppaaDoorCh
import Derived.Test.YtcbalejnkhnppaaDoorCh2
import Derived.Test.YtcbalejnkhnppaaDoorBox
set_option linter.all false
set_option maxRecDepth 100000
namespace Go.Proofs.YtcbalejnkhnppaaDoor
open Go.RowKit
attribute [local go_sem] Oper.semAt_some
def chordal_Simple_L1 (F : Nat) (v0 : Int) (v5 : List Nat) : Nat → (Int) → (List Int) → Option (List Int)
  | 0, _, _ => none
  | g+1, j, v6 => if j < v0 then ((sBelow (v0)).bind fun y3 => (chordal_simple F (v5) (j) (y3)).bind fun y4 => if y4 = true then (app v6 j).bind fun y5 => chordal_Simple_L1 F v0 v5 g (wrap64 (j + 1)) (y5) else chordal_Simple_L1 F v0 v5 g (wrap64 (j + 1)) (v6)) else some (v6)
theorem chordal_Simple_L1_0 (F : Nat) (v0 : Int) (v5 : List Nat) (v6 : List Int) (j : Int) : chordal_Simple_L1 F v0 v5 0 j v6 = none := by rw [chordal_Simple_L1]
theorem chordal_Simple_L1_s (F g : Nat) (v0 : Int) (v5 : List Nat) (v6 : List Int) (j : Int) : chordal_Simple_L1 F v0 v5 (g+1) j v6 = (if j < v0 then ((sBelow (v0)).bind fun y3 => (chordal_simple F (v5) (j) (y3)).bind fun y4 => if y4 = true then (app v6 j).bind fun y5 => chordal_Simple_L1 F v0 v5 g (wrap64 (j + 1)) (y5) else chordal_Simple_L1 F v0 v5 g (wrap64 (j + 1)) (v6)) else some (v6)) := by rw [chordal_Simple_L1]
def chordal_Simple (F : Nat) (v0 : Int) (v1 : List (Int × Int)) : Option (List Int × Int) := (mCheck (v0) (v1)).bind fun y1 => (if (y1 != 0) = true then some (([], y1)) else (mBeside (v0) (v1)).bind fun y2 => (chordal_Simple_L1 F (v0) (y2) F (0) ([])).bind fun o6 => some ((o6, 0)))
set_option maxRecDepth 100000 in
set_option maxHeartbeats 4000000 in
theorem chordal_Simple_ok {F : Nat} {v0 : Int} {v1 : List (Int × Int)} {A1 : Option Addr} {r : List Int × Int} (w : World) (cap1 : Nat) (hr1 : ReadsL w w.heap.size A1 v1) (h : chordal_Simple F v0 v1 = some r) :
    Calls Tryd.prog 16 #[.int .i64 v0, .slice A1 v1.length cap1] w (PostG (fun v => (.tuple #[v, (errV 57 r.2)])) (fun v => owI v r.1) w.heap.size w) := by
  have HR1 := Lib.hid hr1; clear hr1
  have HD := Lib.hid (Below.refl w.heap.size w)
  have HOA := Lib.hid (HP.nil (W := w) (B := w.heap.size))
  unfold chordal_Simple at h
  have HM := Lib.hid h; clear h
  go_enter Tryd.func16, Tryd.ntmps16
  obtain ⟨y3, hy1, hm⟩ := obind HM.out
  replace HM := Lib.hid hm; clear hm
  have HC2 := mCheck_ok w cap1 (rdL HD.out HR1.out) hy1
  clear hy1
  by_cases hz4 : y3 = 0
  · subst hz4
    rw [errV_zero] at HC2; replace HC2 := Lib.hid HC2
    go_wp2_with fail
    refine HC2.out.mono ?_; rintro e W5 ⟨rfl, hd⟩
    replace HOA := Lib.hid (HOA.out.below hd)
    replace HD := Lib.hid (HD.out.trans (hd.mono HD.out.size))
    clear hd
    replace HM := Lib.hid (ifF (by decide) HM.out)
    obtain ⟨y10, hy8, hm⟩ := obind HM.out
    replace HM := Lib.hid hm; clear hm
    have HC9 := mBeside_ok W5 cap1 (rdL HD.out HR1.out) hy8
    clear hy8
    replace HC9 := Lib.hid HC9
    go_wp2_with fail
    refine HC9.out.mono ?_; rintro e W11 ⟨V12, rfl, ho, hd⟩
    replace HOA := Lib.hid (HOA.out.call hd HD.out.size ho); clear ho
    replace HD := Lib.hid (HD.out.trans (hd.mono HD.out.size))
    clear hd
    replace HOA := Lib.hid (show HP _ _ (.fl (owI (.slice none 0 0) ([])) :: _) from HOA.out.pushNil _ _)
    go_wp2_with fail
    obtain ⟨o15, ho, hm⟩ := obind HM.out
    replace HM := Lib.hid hm; have HL1 := Lib.hid ho; clear hm ho
    go_loopg [20, 8] F (fun gg uj ux17 wr => ∃ (j19 : Int) (x16 : List Int) (V18 : Value), uj = .int .i64 j19 ∧ V18 = ux17 ∧ Hid (Below w.heap.size w wr) ∧ Hid (HP wr w.heap.size [.fl (owI V18 (x16)), .fl (owM V12 (y10))]) ∧ Hid (chordal_Simple_L1 F (v0) (y10) gg j19 x16 = some o15))
    case atStart => exact ⟨0, [], (.slice none 0 0), rfl, rfl, HD, HOA, HL1⟩
    case round =>
      obtain ⟨j19, x16, V18, rfl, rfl, HD, HOA, HL1⟩ := hrel
      rename World => W20
      cases gk with
      | zero => exact absurd ((chordal_Simple_L1_0 ..).symm.trans HL1.out) (by intro h; cases h)
      | succ g1 =>
        replace HL1 := Lib.hid ((chordal_Simple_L1_s ..).symm.trans HL1.out)
        by_cases hc21 : j19 < v0
        · replace HL1 := Lib.hid (ifT hc21 HL1.out)
          have HK22 := Lib.hid hc21
          obtain ⟨y25, hy23, hm⟩ := obind HL1.out
          replace HL1 := Lib.hid hm; clear hm
          have HC24 := sBelow_ok W20  hy23
          clear hy23
          replace HC24 := Lib.hid HC24
          obtain ⟨y28, hy26, hm⟩ := obind HL1.out
          replace HL1 := Lib.hid hm; clear hm
          obtain ⟨A29, cap30, he, _⟩ := HP.open_M HOA.out (List.Mem.tail _ (List.Mem.head _))
          subst he
          have HC27 := chordal_simple_ok W20 cap30 (HP.rd_M HOA.out (List.Mem.tail _ (List.Mem.head _))) hy26
          clear hy26
          replace HC27 := Lib.hid HC27
          go_wp2_with fail
          refine HC24.out.mono ?_; rintro e w' ⟨rfl, rfl⟩
          go_wp2_with fail
          refine HC27.out.mono ?_; rintro e W31 ⟨rfl, hd⟩
          try clear hc21
          replace HOA := Lib.hid (HOA.out.below hd)
          replace HD := Lib.hid (HD.out.trans (hd.mono HD.out.size))
          clear hd
          cases y28
          · replace HL1 := Lib.hid (ifF Bool.false_ne_true HL1.out)
            go_wp2_with fail
            go_roundg g1
            case measure => omega
            case rel => exact ⟨(wrap64 (j19 + 1)), x16, V18, rfl, rfl, HD, HOA, HL1⟩
          · replace HL1 := Lib.hid (ifT rfl HL1.out)
            obtain ⟨y32, hy33, hm⟩ := obind HL1.out
            replace HL1 := Lib.hid hm; clear hm
            obtain ⟨f34, hy33⟩ := app_some hy33; subst hy33
            have HF37 := Lib.hid f34; clear f34
            go_wp2_with (at_builtin; refine hp_appI _ (.tmp 28) (.tmp 30) 24 Tryd.underlying24 rfl rfl (L1 := []) HOA.out rfl rfl HF37.out HD.out.size ?_; intro V35 W36 hoa hd)
            replace HOA := Lib.hid (show HP W36 w.heap.size [.fl (owI V35 ((x16 ++ [j19]))), .fl (owM (.slice A29 (y10).length cap30) (y10))] from hoa); clear hoa
            replace HD := Lib.hid (HD.out.trans hd); clear hd
            go_wp2_with fail
            go_roundg g1
            case measure => omega
            case rel => exact ⟨(wrap64 (j19 + 1)), (x16 ++ [j19]), V35, rfl, rfl, HD, HOA, HL1⟩
        · replace HL1 := Lib.hid (ifF hc21 HL1.out)
          have hc21d := decide_eq_false hc21
          have HK22 := Lib.hid hc21
          obtain rfl := Option.some.inj HL1.out
          have hm := HM.out; try dsimp only at hm
          replace HM := Lib.hid hm; clear hm
          obtain rfl := Option.some.inj HM.out
          go_wp2_with fail
          try clear hc21 hc21d
          go_ret2
          exact ⟨_, rfl, HOA.out.get (List.Mem.head _), HD.out⟩
  · rw [errV_pos _ hz4] at HC2; replace HC2 := Lib.hid HC2
    go_wp2_with fail
    refine HC2.out.mono ?_; rintro e W6 ⟨rfl, hd⟩
    replace HOA := Lib.hid (HOA.out.below hd)
    replace HD := Lib.hid (HD.out.trans (hd.mono HD.out.size))
    clear hd
    have HZ7 := Lib.hid hz4; clear hz4
    replace HM := Lib.hid (ifT (bne_iff_ne.2 HZ7.out) HM.out)
    obtain rfl := Option.some.inj HM.out
    go_wp2_with fail
    go_ret2
    exact ⟨_, (by first | (rw [errV_pos _ HZ7.out]; rfl) | rw [errV_pos _ HZ7.out]), World.ownsRow_nil _ _ _ _, HD.out⟩
def R3_Peel_L2 (F : Nat) (v0 : Int) (v4 : List Int) : Nat → (List Int) → (Int) → Option (List Int × Int)
  | 0, _, _ => none
  | g+1, v5, v6 => if v6 < v0 then ((R1_Has F (v4) (v6)).bind fun y1 => if y1 = true then R3_Peel_L2 F v0 v4 g (v5) ((wrap64 (v6 + 1))) else (app v5 v6).bind fun y2 => R3_Peel_L2 F v0 v4 g (y2) ((wrap64 (v6 + 1)))) else some (v5, v6)
theorem R3_Peel_L2_0 (F : Nat) (v0 : Int) (v4 : List Int) (v5 : List Int) (v6 : Int) : R3_Peel_L2 F v0 v4 0 v5 v6 = none := by rw [R3_Peel_L2]
theorem R3_Peel_L2_s (F g : Nat) (v0 : Int) (v4 : List Int) (v5 : List Int) (v6 : Int) : R3_Peel_L2 F v0 v4 (g+1) v5 v6 = (if v6 < v0 then ((R1_Has F (v4) (v6)).bind fun y1 => if y1 = true then R3_Peel_L2 F v0 v4 g (v5) ((wrap64 (v6 + 1))) else (app v5 v6).bind fun y2 => R3_Peel_L2 F v0 v4 g (y2) ((wrap64 (v6 + 1)))) else some (v5, v6)) := by rw [R3_Peel_L2]
def R3_Peel_L3 (F : Nat) (v0 : Int) (v1 : List (Int × Int)) (v5 : List Int) : Nat → (Int) → (Int) → Option (Int × Int)
  | 0, _, _ => none
  | g+1, v7, v8 => if 0 ≤ v8 then ((ix v5 v8).bind fun y4 => (R3_Simple F (v0) (v1) (y4) (v5)).bind fun y5 => if y5 = true then (ix v5 v8).bind fun y6 => R3_Peel_L3 F v0 v1 v5 g (y6) ((wrap64 (v8 - 1))) else R3_Peel_L3 F v0 v1 v5 g (v7) ((wrap64 (v8 - 1)))) else some (v7, v8)
theorem R3_Peel_L3_0 (F : Nat) (v0 : Int) (v1 : List (Int × Int)) (v5 : List Int) (v7 : Int) (v8 : Int) : R3_Peel_L3 F v0 v1 v5 0 v7 v8 = none := by rw [R3_Peel_L3]
theorem R3_Peel_L3_s (F g : Nat) (v0 : Int) (v1 : List (Int × Int)) (v5 : List Int) (v7 : Int) (v8 : Int) : R3_Peel_L3 F v0 v1 v5 (g+1) v7 v8 = (if 0 ≤ v8 then ((ix v5 v8).bind fun y4 => (R3_Simple F (v0) (v1) (y4) (v5)).bind fun y5 => if y5 = true then (ix v5 v8).bind fun y6 => R3_Peel_L3 F v0 v1 v5 g (y6) ((wrap64 (v8 - 1))) else R3_Peel_L3 F v0 v1 v5 g (v7) ((wrap64 (v8 - 1)))) else some (v7, v8)) := by rw [R3_Peel_L3]
def R3_Peel_L1 (F : Nat) (v0 : Int) (v1 : List (Int × Int)) : Nat → (List Int) → Option ((List Int) ⊕ (List Int × Bool))
  | 0, _ => none
  | g+1, v4 => if ((v4).length : Int) < v0 then (R3_Peel_L2 F (v0) (v4) F ([]) (0)).bind fun o3 => (R3_Peel_L3 F (v0) (v1) (o3.1) F ((-1)) ((wrap64 (((o3.1).length : Int) - 1)))).bind fun o7 => (if o7.1 < 0 then some (.inr (([], false))) else (app v4 o7.1).bind fun y8 => R3_Peel_L1 F v0 v1 g (y8)) else some (.inl (v4))
theorem R3_Peel_L1_0 (F : Nat) (v0 : Int) (v1 : List (Int × Int)) (v4 : List Int) : R3_Peel_L1 F v0 v1 0 v4 = none := by rw [R3_Peel_L1]
theorem R3_Peel_L1_s (F g : Nat) (v0 : Int) (v1 : List (Int × Int)) (v4 : List Int) : R3_Peel_L1 F v0 v1 (g+1) v4 = (if ((v4).length : Int) < v0 then (R3_Peel_L2 F (v0) (v4) F ([]) (0)).bind fun o3 => (R3_Peel_L3 F (v0) (v1) (o3.1) F ((-1)) ((wrap64 (((o3.1).length : Int) - 1)))).bind fun o7 => (if o7.1 < 0 then some (.inr (([], false))) else (app v4 o7.1).bind fun y8 => R3_Peel_L1 F v0 v1 g (y8)) else some (.inl (v4))) := by rw [R3_Peel_L1]
def R3_Peel (F : Nat) (v0 : Int) (v1 : List (Int × Int)) : Option (List Int × Bool) := (R3_Peel_L1 F (v0) (v1) F ([])).bind fun o9 => match o9 with | .inr r => some (r) | .inl o9 => some ((o9, true))
set_option maxRecDepth 100000 in
set_option maxHeartbeats 4000000 in
theorem R3_Peel_ok {F : Nat} {v0 : Int} {v1 : List (Int × Int)} {A1 : Option Addr} {r : List Int × Bool} (w : World) (cap1 : Nat) (hr1 : ReadsL w w.heap.size A1 v1) (h : R3_Peel F v0 v1 = some r) :
    Calls Tryd.prog 18 #[.int .i64 v0, .slice A1 v1.length cap1] w (PostG (fun v => (.tuple #[v, (.bool r.2)])) (fun v => owI v r.1) w.heap.size w) := by
  have HR1 := Lib.hid hr1; clear hr1
  have HD := Lib.hid (Below.refl w.heap.size w)
  have HOA := Lib.hid (HP.nil (W := w) (B := w.heap.size))
  unfold R3_Peel at h
  have HM := Lib.hid h; clear h
  go_enter Tryd.func18, Tryd.ntmps18
  replace HOA := Lib.hid (show HP _ _ (.fl (owI (.slice none 0 0) ([])) :: _) from HOA.out.pushNil _ _)
  go_wp2_with fail
  obtain ⟨o2, ho, hm⟩ := obind HM.out
  replace HM := Lib.hid hm; have HL1 := Lib.hid ho; clear hm ho
  go_loopg [6] F (fun gg ux4 wr => ∃ (x3 : List Int) (V5 : Value), V5 = ux4 ∧ Hid (Below w.heap.size w wr) ∧ Hid (HP wr w.heap.size [.fl (owI V5 (x3))]) ∧ Hid (R3_Peel_L1 F (v0) (v1) gg x3 = some o2))
  case atStart => exact ⟨[], (.slice none 0 0), rfl, HD, HOA, HL1⟩
  case round =>
    obtain ⟨x3, V5, rfl, HD, HOA, HL1⟩ := hrel
    rename World => W6
    cases gk with
    | zero => exact absurd ((R3_Peel_L1_0 ..).symm.trans HL1.out) (by intro h; cases h)
    | succ g1 =>
      replace HL1 := Lib.hid ((R3_Peel_L1_s ..).symm.trans HL1.out)
      obtain ⟨A7, cap8, he, _⟩ := HP.open_I HOA.out (List.Mem.head _)
      subst he
      by_cases hc9 : ((x3).length : Int) < v0
      · replace HL1 := Lib.hid (ifT hc9 HL1.out)
        have HK10 := Lib.hid hc9
        replace HOA := Lib.hid (show HP _ _ (.fl (owI (.slice none 0 0) ([])) :: _) from HOA.out.pushNil _ _)
        go_wp2_with fail
        try clear hc9
        obtain ⟨o12, ho, hm⟩ := obind HL1.out
        replace HL1 := Lib.hid hm; have HL2 := Lib.hid ho; clear hm ho
        go_loopg [7, 8] F (fun gg ux15 ux16 wr => ∃ (x13 : List Int) (x14 : Int) (V17 : Value), V17 = ux15 ∧ ux16 = .int .i64 x14 ∧ Hid (Below w.heap.size w wr) ∧ Hid (HP wr w.heap.size [.fl (owI V17 (x13)), .fl (owI (.slice A7 (x3).length cap8) (x3))]) ∧ Hid (R3_Peel_L2 F (v0) (x3) gg x13 x14 = some o12))
        case atStart => exact ⟨[], 0, (.slice none 0 0), rfl, rfl, HD, HOA, HL2⟩
        case round =>
          obtain ⟨x13, x14, V17, rfl, rfl, HD, HOA, HL2⟩ := hrel
          rename World => W18
          cases gk with
          | zero => exact absurd ((R3_Peel_L2_0 ..).symm.trans HL2.out) (by intro h; cases h)
          | succ g2 =>
            replace HL2 := Lib.hid ((R3_Peel_L2_s ..).symm.trans HL2.out)
            by_cases hc19 : x14 < v0
            · replace HL2 := Lib.hid (ifT hc19 HL2.out)
              have HK20 := Lib.hid hc19
              obtain ⟨y23, hy21, hm⟩ := obind HL2.out
              replace HL2 := Lib.hid hm; clear hm
              have HC22 := R1_Has_ok W18 cap8 (HP.rd_I HOA.out (List.Mem.tail _ (List.Mem.head _))) hy21
              clear hy21
              replace HC22 := Lib.hid HC22
              cases y23
              · replace HL2 := Lib.hid (ifF Bool.false_ne_true HL2.out)
                obtain ⟨y24, hy25, hm⟩ := obind HL2.out
                replace HL2 := Lib.hid hm; clear hm
                obtain ⟨f26, hy25⟩ := app_some hy25; subst hy25
                go_wp2_with fail
                refine HC22.out.mono ?_; rintro e w' ⟨rfl, rfl⟩
                have HF29 := Lib.hid f26; clear f26
                go_upto_region 6 with (at_builtin; refine hp_appI _ (.tmp 24) (.tmp 26) 24 Tryd.underlying24 rfl rfl (L1 := []) HOA.out rfl rfl HF29.out HD.out.size ?_; intro V27 W28 hoa hd)
                try clear hc19
                replace HOA := Lib.hid (show HP W28 w.heap.size [.fl (owI V27 ((x13 ++ [x14]))), .fl (owI (.slice A7 (x3).length cap8) (x3))] from hoa); clear hoa
                replace HD := Lib.hid (HD.out.trans hd); clear hd
                go_wp2_with fail
                go_roundg g2
                case measure => omega
                case rel => exact ⟨(x13 ++ [x14]), (wrap64 (x14 + 1)), V27, rfl, rfl, HD, HOA, HL2⟩
              · replace HL2 := Lib.hid (ifT rfl HL2.out)
                go_wp2_with fail
                refine HC22.out.mono ?_; rintro e w' ⟨rfl, rfl⟩
                go_wp2_with fail
                try clear hc19
                go_roundg g2
                case measure => omega
                case rel => exact ⟨x13, (wrap64 (x14 + 1)), V17, rfl, rfl, HD, HOA, HL2⟩
            · replace HL2 := Lib.hid (ifF hc19 HL2.out)
              have hc19d := decide_eq_false hc19
              have HK20 := Lib.hid hc19
              obtain rfl := Option.some.inj HL2.out
              have hm := HL1.out; try dsimp only at hm
              replace HL1 := Lib.hid hm; clear hm
              obtain ⟨A30, cap31, he, _⟩ := HP.open_I HOA.out (List.Mem.head _)
              subst he
              go_wp2_with fail
              try clear hc19 hc19d
              obtain ⟨o32, ho, hm⟩ := obind HL1.out
              replace HL1 := Lib.hid hm; have HL3 := Lib.hid ho; clear hm ho
              go_loopg [9, 10] F (fun gg ux35 ux36 wr => ∃ (x33 : Int) (x34 : Int), ux35 = .int .i64 x33 ∧ ux36 = .int .i64 x34 ∧ Hid (Below W18.heap.size W18 wr) ∧ Hid (R3_Peel_L3 F (v0) (v1) (x13) gg x33 x34 = some o32))
              case atStart => exact ⟨(-1), (wrap64 (((x13).length : Int) - 1)), rfl, rfl, (Lib.hid (Below.refl _ _)), HL3⟩
              case round =>
                obtain ⟨x33, x34, rfl, rfl, HW3, HL3⟩ := hrel
                rename World => W37
                have hd := HW3.out
                replace HOA := Lib.hid (HOA.out.below hd)
                replace HD := Lib.hid (HD.out.trans (hd.mono HD.out.size))
                clear hd
                cases gk with
                | zero => exact absurd ((R3_Peel_L3_0 ..).symm.trans HL3.out) (by intro h; cases h)
                | succ g3 =>
                  replace HL3 := Lib.hid ((R3_Peel_L3_s ..).symm.trans HL3.out)
                  by_cases hc38 : 0 ≤ x34
                  · replace HL3 := Lib.hid (ifT hc38 HL3.out)
                    have HK39 := Lib.hid hc38
                    obtain ⟨y40, hy41, hm⟩ := obind HL3.out
                    replace HL3 := Lib.hid hm; clear hm
                    obtain ⟨b42, o43, ea44, _, f45, f46, f47⟩ := ReadsI.ix (HP.rd_I HOA.out (List.Mem.head _)) hy41
                    cases ea44
                    try simp only [Nat.zero_add, Nat.add_zero, Int.toNat_natCast, Int.toNat_zero, Int.toNat_one] at f47
                    try rw [← HP.len_I HOA.out (List.Mem.head _)] at f46
                    have HY49 := Lib.hid hy41; clear hy41
                    obtain ⟨y52, hy50, hm⟩ := obind HL3.out
                    replace HL3 := Lib.hid hm; clear hm
                    have HC51 := R3_Simple_ok W37 cap1 (rdL HD.out HR1.out) cap31 (HP.rd_I HOA.out (List.Mem.head _)) hy50
                    clear hy50
                    replace HC51 := Lib.hid HC51
                    go_wp2_with fail
                    refine HC51.out.mono ?_; rintro e W53 ⟨rfl, hd⟩
                    try clear hc38 f45 f46 f47
                    replace HOA := Lib.hid (HOA.out.below (hd.below _))
                    replace HD := Lib.hid (HD.out.trans ((hd.below _).mono HD.out.size))
                    replace HW3 := Lib.hid (HW3.out.trans ((hd.below _).mono HW3.out.size))
                    clear hd
                    cases y52
                    · replace HL3 := Lib.hid (ifF Bool.false_ne_true HL3.out)
                      go_wp2_with fail
                      go_roundg g3
                      case measure => omega
                      case rel => exact ⟨x33, (wrap64 (x34 - 1)), rfl, rfl, HW3, HL3⟩
                    · replace HL3 := Lib.hid (ifT rfl HL3.out)
                      obtain ⟨y54, hy55, hm⟩ := obind HL3.out
                      replace HL3 := Lib.hid hm; clear hm
                      obtain ⟨b56, o57, ea58, _, f59, f60, f61⟩ := ReadsI.ix (HP.rd_I HOA.out (List.Mem.head _)) hy55
                      cases ea58
                      try simp only [Nat.zero_add, Nat.add_zero, Int.toNat_natCast, Int.toNat_zero, Int.toNat_one] at f61
                      try rw [← HP.len_I HOA.out (List.Mem.head _)] at f60
                      have HY63 := Lib.hid hy55; clear hy55
                      go_wp2_with fail
                      try clear f59 f60 f61
                      go_roundg g3
                      case measure => omega
                      case rel => exact ⟨y54, (wrap64 (x34 - 1)), rfl, rfl, HW3, HL3⟩
                  · replace HL3 := Lib.hid (ifF hc38 HL3.out)
                    have hc38d := decide_eq_false hc38
                    have HK39 := Lib.hid hc38
                    obtain rfl := Option.some.inj HL3.out
                    have hm := HL1.out; try dsimp only at hm
                    replace HL1 := Lib.hid hm; clear hm
                    by_cases hc64 : x33 < 0
                    · replace HL1 := Lib.hid (ifT hc64 HL1.out)
                      have HK65 := Lib.hid hc64
                      obtain rfl := Option.some.inj HL1.out
                      have hm := HM.out; try dsimp only at hm
                      replace HM := Lib.hid hm; clear hm
                      obtain rfl := Option.some.inj HM.out
                      go_wp2_with fail
                      try clear hc38 hc38d hc64
                      go_ret2
                      exact ⟨_, rfl, World.ownsRow_nil _ _ _ _, HD.out⟩
                    · replace HL1 := Lib.hid (ifF hc64 HL1.out)
                      have hc64d := decide_eq_false hc64
                      have HK65 := Lib.hid hc64
                      obtain ⟨y66, hy67, hm⟩ := obind HL1.out
                      replace HL1 := Lib.hid hm; clear hm
                      obtain ⟨f68, hy67⟩ := app_some hy67; subst hy67
                      have HF71 := Lib.hid f68; clear f68
                      go_wp2_with (at_builtin; refine hp_appI _ (.tmp 49) (.tmp 51) 24 Tryd.underlying24 rfl rfl (L1 := [_]) HOA.out rfl rfl HF71.out HD.out.size ?_; intro V69 W70 hoa hd)
                      try clear hc38 hc38d hc64 hc64d
                      replace HOA := Lib.hid (show HP W70 w.heap.size [.fl (owI (.slice A30 (x13).length cap31) (x13)), .fl (owI V69 ((x3 ++ [x33])))] from hoa); clear hoa
                      replace HD := Lib.hid (HD.out.trans hd); clear hd
                      go_wp2_with fail
                      replace HOA := Lib.hid (HOA.out.sub (.cons _ (.cons₂ _ .slnil)))
                      go_roundg g1
                      case measure => omega
                      case rel => exact ⟨(x3 ++ [x33]), V69, rfl, HD, HOA, HL1⟩
      · replace HL1 := Lib.hid (ifF hc9 HL1.out)
        have hc9d := decide_eq_false hc9
        have HK10 := Lib.hid hc9
        obtain rfl := Option.some.inj HL1.out
        have hm := HM.out; try dsimp only at hm
        replace HM := Lib.hid hm; clear hm
        obtain rfl := Option.some.inj HM.out
        go_wp2_with fail
        try clear hc9 hc9d
        go_ret2
        exact ⟨_, rfl, HOA.out.get (List.Mem.head _), HD.out⟩
end Go.Proofs.YtcbalejnkhnppaaDoor
