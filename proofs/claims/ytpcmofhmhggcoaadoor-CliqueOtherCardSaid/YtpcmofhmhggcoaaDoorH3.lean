import Derived.Test.YtpcmofhmhggcoaaDoorHP2
set_option linter.all false
set_option maxRecDepth 100000
namespace Go.Proofs.YtpcmofhmhggcoaaDoor
open Go.RowKit
def graph_Other_L2 (F : Nat) (v0 : Int) (v5 : List Nat) (v7 : Int) : Nat → (List (Int × Int)) → (Int) → Option (List (Int × Int) × Int)
  | 0, _, _ => none
  | g+1, v6, v8 => if v8 < v0 then ((ix v5 v7).bind fun y3 => (sHas (y3) (v8)).bind fun y4 => if y4 = true then graph_Other_L2 F v0 v5 v7 g (v6) ((wrap64 (v8 + 1))) else (app v6 (v7, v8)).bind fun y5 => graph_Other_L2 F v0 v5 v7 g (y5) ((wrap64 (v8 + 1)))) else some (v6, v8)
theorem graph_Other_L2_0 (F : Nat) (v0 : Int) (v5 : List Nat) (v7 : Int) (v6 : List (Int × Int)) (v8 : Int) : graph_Other_L2 F v0 v5 v7 0 v6 v8 = none := by rw [graph_Other_L2]
theorem graph_Other_L2_s (F g : Nat) (v0 : Int) (v5 : List Nat) (v7 : Int) (v6 : List (Int × Int)) (v8 : Int) : graph_Other_L2 F v0 v5 v7 (g+1) v6 v8 = (if v8 < v0 then ((ix v5 v7).bind fun y3 => (sHas (y3) (v8)).bind fun y4 => if y4 = true then graph_Other_L2 F v0 v5 v7 g (v6) ((wrap64 (v8 + 1))) else (app v6 (v7, v8)).bind fun y5 => graph_Other_L2 F v0 v5 v7 g (y5) ((wrap64 (v8 + 1)))) else some (v6, v8)) := by rw [graph_Other_L2]
def graph_Other_L1 (F : Nat) (v0 : Int) (v5 : List Nat) : Nat → (Int) → (List (Int × Int)) → Option (List (Int × Int))
  | 0, _, _ => none
  | g+1, j, v6 => if j < v0 then (graph_Other_L2 F (v0) (v5) (j) F (v6) ((wrap64 (j + 1)))).bind fun o6 => graph_Other_L1 F v0 v5 g (wrap64 (j + 1)) (o6.1) else some (v6)
theorem graph_Other_L1_0 (F : Nat) (v0 : Int) (v5 : List Nat) (v6 : List (Int × Int)) (j : Int) : graph_Other_L1 F v0 v5 0 j v6 = none := by rw [graph_Other_L1]
theorem graph_Other_L1_s (F g : Nat) (v0 : Int) (v5 : List Nat) (v6 : List (Int × Int)) (j : Int) : graph_Other_L1 F v0 v5 (g+1) j v6 = (if j < v0 then (graph_Other_L2 F (v0) (v5) (j) F (v6) ((wrap64 (j + 1)))).bind fun o6 => graph_Other_L1 F v0 v5 g (wrap64 (j + 1)) (o6.1) else some (v6)) := by rw [graph_Other_L1]
def graph_Other (F : Nat) (v0 : Int) (v1 : List (Int × Int)) : Option (List (Int × Int) × Int) := (mCheck (v0) (v1)).bind fun y1 => (if (y1 != 0) = true then some (([], y1)) else (mBeside (v0) (v1)).bind fun y2 => (graph_Other_L1 F (v0) (y2) F (0) ([])).bind fun o7 => (if 24 < ((o7).length : Int) then some (([], 4)) else some ((o7, 0))))
set_option maxRecDepth 100000 in
set_option maxHeartbeats 1000000 in
theorem graph_Other_ok {F : Nat} {v0 : Int} {v1 : List (Int × Int)} {A1 : Option Addr} {r : List (Int × Int) × Int} (w : World) (cap1 : Nat) (hr1 : ReadsL w w.heap.size A1 v1) (h : graph_Other F v0 v1 = some r) :
    Calls Tryd.prog 16 #[.int .i64 v0, .slice A1 v1.length cap1] w (PostG (fun v => (.tuple #[v, (errV 59 r.2)])) (fun v => owL v r.1) w.heap.size w) := by
  have HR1 := Lib.hid hr1; clear hr1
  have HD := Lib.hid (Below.refl w.heap.size w)
  have HOA := Lib.hid (HP.nil (W := w) (B := w.heap.size))
  unfold graph_Other at h
  have HM := Lib.hid h; clear h
  go_enter Tryd.func16, Tryd.ntmps16
  obtain ⟨y3, hy1, hm⟩ := obind HM.out
  replace HM := Lib.hid hm; clear hm
  have HC2 := mCheck_ok w cap1 (rdL HD.out HR1.out) hy1
  clear hy1
  by_cases hz4 : y3 = 0
  · subst hz4
    rw [errV_zero] at HC2; replace HC2 := Lib.hid HC2
    go_wp2_with fail
    refine HC2.out.mono ?_; rintro e W5 ⟨rfl, hd⟩
    replace HOA := Lib.hid (HOA.out.below hd)
    replace HD := Lib.hid (HD.out.trans (hd.mono HD.out.size))
    clear hd
    replace HM := Lib.hid (ifF (by decide) HM.out)
    obtain ⟨y10, hy8, hm⟩ := obind HM.out
    replace HM := Lib.hid hm; clear hm
    have HC9 := mBeside_ok W5 cap1 (rdL HD.out HR1.out) hy8
    clear hy8
    replace HC9 := Lib.hid HC9
    go_wp2_with fail
    refine HC9.out.mono ?_; rintro e W11 ⟨V12, rfl, ho, hd⟩
    replace HOA := Lib.hid (HOA.out.call hd HD.out.size ho); clear ho
    replace HD := Lib.hid (HD.out.trans (hd.mono HD.out.size))
    clear hd
    replace HOA := Lib.hid (show HP _ _ (.fl (owL (.slice none 0 0) ([])) :: _) from HOA.out.pushNil _ _)
    go_wp2_with fail
    obtain ⟨o15, ho, hm⟩ := obind HM.out
    replace HM := Lib.hid hm; have HL1 := Lib.hid ho; clear hm ho
    go_loopg [21, 8] F (fun gg uj u17 wr => ∃ (j19 : Int) (x16 : List (Int × Int)) (V18 : Value), uj = .int .i64 j19 ∧ V18 = u17 ∧ Hid (Below w.heap.size w wr) ∧ Hid (HP wr w.heap.size [.fl (owL V18 (x16)), .fl (owM V12 (y10))]) ∧ Hid (graph_Other_L1 F (v0) (y10) gg j19 x16 = some o15))
    case atStart => exact ⟨0, [], (.slice none 0 0), rfl, rfl, HD, HOA, HL1⟩
    case round =>
      obtain ⟨j19, x16, V18, rfl, rfl, HD, HOA, HL1⟩ := hrel
      rename World => W20
      cases gk with
      | zero => exact absurd ((graph_Other_L1_0 ..).symm.trans HL1.out) (by intro h; cases h)
      | succ g1 =>
        replace HL1 := Lib.hid ((graph_Other_L1_s ..).symm.trans HL1.out)
        by_cases hc21 : j19 < v0
        · replace HL1 := Lib.hid (ifT hc21 HL1.out)
          go_wp2_with fail
          try clear hc21
          obtain ⟨o22, ho, hm⟩ := obind HL1.out
          replace HL1 := Lib.hid hm; have HL2 := Lib.hid ho; clear hm ho
          go_loopg [8, 10] F (fun gg u25 u26 wr => ∃ (x23 : List (Int × Int)) (x24 : Int) (V27 : Value), V27 = u25 ∧ u26 = .int .i64 x24 ∧ Hid (Below w.heap.size w wr) ∧ Hid (HP wr w.heap.size [.fl (owL V27 (x23)), .fl (owM V12 (y10))]) ∧ Hid (graph_Other_L2 F (v0) (y10) (j19) gg x23 x24 = some o22))
          case atStart => exact ⟨x16, (wrap64 (j19 + 1)), V18, rfl, rfl, HD, HOA, HL2⟩
          case round =>
            obtain ⟨x23, x24, V27, rfl, rfl, HD, HOA, HL2⟩ := hrel
            rename World => W28
            cases gk with
            | zero => exact absurd ((graph_Other_L2_0 ..).symm.trans HL2.out) (by intro h; cases h)
            | succ g2 =>
              replace HL2 := Lib.hid ((graph_Other_L2_s ..).symm.trans HL2.out)
              by_cases hc29 : x24 < v0
              · replace HL2 := Lib.hid (ifT hc29 HL2.out)
                obtain ⟨A32, cap33, he, _⟩ := HP.open_M HOA.out (List.Mem.tail _ (List.Mem.head _))
                subst he
                obtain ⟨y30, hy31, hm⟩ := obind HL2.out
                replace HL2 := Lib.hid hm; clear hm
                obtain ⟨b34, o35, ea36, _, f37, f38, f39⟩ := ReadsM.ix (HP.rd_M HOA.out (List.Mem.tail _ (List.Mem.head _))) hy31
                cases ea36
                try simp only [Nat.zero_add] at f39
                have HY41 := Lib.hid hy31; clear hy31
                obtain ⟨y44, hy42, hm⟩ := obind HL2.out
                replace HL2 := Lib.hid hm; clear hm
                have HC43 := sHas_ok W28  hy42
                clear hy42
                replace HC43 := Lib.hid HC43
                cases y44
                · replace HL2 := Lib.hid (ifF Bool.false_ne_true HL2.out)
                  obtain ⟨y45, hy46, hm⟩ := obind HL2.out
                  replace HL2 := Lib.hid hm; clear hm
                  obtain ⟨f47, hy46⟩ := app_some hy46; subst hy46
                  go_wp2_with fail
                  refine HC43.out.mono ?_; rintro e w' ⟨rfl, rfl⟩
                  have HF50 := Lib.hid f47; clear f47
                  go_wp2_with (at_builtin; refine hp_appL _ (.tmp 38) (.tmp 42) 22 Tryd.underlying22 rfl rfl (L1 := []) HOA.out rfl rfl HF50.out HD.out.size ?_; intro V48 W49 hoa hd)
                  try clear hc29 f37 f38 f39
                  replace HOA := Lib.hid (show HP W49 w.heap.size [.fl (owL V48 ((x23 ++ [(j19, x24)]))), .fl (owM (.slice (some ⟨b34, o35, none⟩) (y10).length cap33) (y10))] from hoa); clear hoa
                  replace HD := Lib.hid (HD.out.trans hd); clear hd
                  go_wp2_with fail
                  go_roundg g2
                  case measure => omega
                  case rel => exact ⟨(x23 ++ [(j19, x24)]), (wrap64 (x24 + 1)), V48, rfl, rfl, HD, HOA, HL2⟩
                · replace HL2 := Lib.hid (ifT rfl HL2.out)
                  go_wp2_with fail
                  refine HC43.out.mono ?_; rintro e w' ⟨rfl, rfl⟩
                  go_wp2_with fail
                  try clear hc29 f37 f38 f39
                  go_roundg g2
                  case measure => omega
                  case rel => exact ⟨x23, (wrap64 (x24 + 1)), V27, rfl, rfl, HD, HOA, HL2⟩
              · replace HL2 := Lib.hid (ifF hc29 HL2.out)
                obtain rfl := Option.some.inj HL2.out
                have hm := HL1.out; try dsimp only at hm
                replace HL1 := Lib.hid hm; clear hm
                go_wp2_with fail
                try clear hc29
                go_roundg g1
                case measure => omega
                case rel => exact ⟨(wrap64 (j19 + 1)), x23, V27, rfl, rfl, HD, HOA, HL1⟩
        · replace HL1 := Lib.hid (ifF hc21 HL1.out)
          obtain rfl := Option.some.inj HL1.out
          have hm := HM.out; try dsimp only at hm
          replace HM := Lib.hid hm; clear hm
          obtain ⟨A51, cap52, he, _⟩ := HP.open_L HOA.out (List.Mem.head _)
          subst he
          by_cases hc53 : 24 < ((x16).length : Int)
          · replace HM := Lib.hid (ifT hc53 HM.out)
            obtain rfl := Option.some.inj HM.out
            go_wp2_with fail
            try clear hc21 hc53
            go_ret2
            exact ⟨_, rfl, World.ownsRow_nil _ _ _ _, HD.out⟩
          · replace HM := Lib.hid (ifF hc53 HM.out)
            obtain rfl := Option.some.inj HM.out
            go_wp2_with fail
            try clear hc21 hc53
            go_ret2
            exact ⟨_, rfl, HOA.out.get (List.Mem.head _), HD.out⟩
  · rw [errV_pos _ hz4] at HC2; replace HC2 := Lib.hid HC2
    go_wp2_with fail
    refine HC2.out.mono ?_; rintro e W6 ⟨rfl, hd⟩
    replace HOA := Lib.hid (HOA.out.below hd)
    replace HD := Lib.hid (HD.out.trans (hd.mono HD.out.size))
    clear hd
    have HZ7 := Lib.hid hz4; clear hz4
    replace HM := Lib.hid (ifT (bne_iff_ne.2 HZ7.out) HM.out)
    obtain rfl := Option.some.inj HM.out
    go_wp2_with fail
    go_ret2
    exact ⟨_, (by first | (rw [errV_pos _ HZ7.out]; rfl) | rw [errV_pos _ HZ7.out]), World.ownsRow_nil _ _ _ _, HD.out⟩
end Go.Proofs.YtpcmofhmhggcoaaDoor
