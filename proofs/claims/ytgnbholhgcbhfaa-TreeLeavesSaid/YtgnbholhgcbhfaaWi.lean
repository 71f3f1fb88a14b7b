import Derived.Test.YtgnbholhgcbhfaaGR
import Derived.Test.YtgnbholhgcbhfaaSlc
import Derived.Test.YtgnbholhgcbhfaaClo
import Derived.Test.YtgnbholhgcbhfaaAst
import Derived.Test.YtgnbholhgcbhfaaBox
set_option linter.all false
set_option maxRecDepth 100000
namespace Go.Proofs.Ytgnbholhgcbhfaa
open Go.RowKit
attribute [local go_sem] Oper.semAt_some
def brambleweir_graph_Without_1 (F : Nat) (v1000 : Int) (v0 : Int) : Option (Int) := (if v1000 < v0 then some ((wrap64 (v0 - 1))) else some (v0))
set_option maxRecDepth 100000 in
set_option maxHeartbeats 4000000 in
theorem brambleweir_graph_Without_1_ok {F : Nat} {v0 : Int} {v1000 : Int} {g1000 : Nat} {r : Int} (w : World) (hx1000 : w.cell? ⟨g1000, 0, none⟩ = some (.int .i64 v1000)) (h : brambleweir_graph_Without_1 F v1000 v0 = some r) :
    Calls Try.prog 39 #[.int .i64 v0, .pointer (some ⟨g1000, 0, none⟩)] w fun e w' => e = .returned (.int .i64 r) ∧ w = w' := by
  have HX1000 := Lib.hid hx1000; clear hx1000
  unfold brambleweir_graph_Without_1 at h
  have HM := Lib.hid h; clear h
  go_enter Try.func39, Try.ntmps39
  have fb1 := HX1000.out
  by_cases hc2 : v1000 < v0
  · replace HM := Lib.hid (ifT hc2 HM.out)
    have HK3 := Lib.hid hc2
    obtain rfl := Option.some.inj HM.out
    go_wp2_with fail
    try clear fb1 hc2
    go_ret
    exact ⟨rfl, rfl⟩
  · replace HM := Lib.hid (ifF hc2 HM.out)
    have hc2d := decide_eq_false hc2
    have HK3 := Lib.hid hc2
    obtain rfl := Option.some.inj HM.out
    go_wp2_with fail
    try clear fb1 hc2 hc2d
    go_ret
    exact ⟨rfl, rfl⟩
def graph_Without_L1 (F : Nat) (v1 : List (Int × Int)) (v2 : Int) (v6 : Int → Option Int) : Nat → (Int) → (List (Int × Int)) → Option (List (Int × Int))
  | 0, _, _ => none
  | g+1, j, v7 => if j < ((v1).length : Int) then (ix v1 j).bind fun y => ((if (y.1 != v2) = true then if (y.2 != v2) = true then some true else some false else some false).bind fun b5 => if b5 = true then (v6 (y.1)).bind fun y7 => (v6 (y.2)).bind fun y8 => (app v7 (y7, y8)).bind fun y6 => graph_Without_L1 F v1 v2 v6 g (wrap64 (j + 1)) (y6) else graph_Without_L1 F v1 v2 v6 g (wrap64 (j + 1)) (v7)) else some (v7)
theorem graph_Without_L1_0 (F : Nat) (v1 : List (Int × Int)) (v2 : Int) (v6 : Int → Option Int) (v7 : List (Int × Int)) (j : Int) : graph_Without_L1 F v1 v2 v6 0 j v7 = none := by rw [graph_Without_L1]
theorem graph_Without_L1_s (F g : Nat) (v1 : List (Int × Int)) (v2 : Int) (v6 : Int → Option Int) (v7 : List (Int × Int)) (j : Int) : graph_Without_L1 F v1 v2 v6 (g+1) j v7 = (if j < ((v1).length : Int) then (ix v1 j).bind fun y => ((if (y.1 != v2) = true then if (y.2 != v2) = true then some true else some false else some false).bind fun b5 => if b5 = true then (v6 (y.1)).bind fun y7 => (v6 (y.2)).bind fun y8 => (app v7 (y7, y8)).bind fun y6 => graph_Without_L1 F v1 v2 v6 g (wrap64 (j + 1)) (y6) else graph_Without_L1 F v1 v2 v6 g (wrap64 (j + 1)) (v7)) else some (v7)) := by rw [graph_Without_L1]
def graph_Without (F : Nat) (v0 : Int) (v1 : List (Int × Int)) (v2 : Int) : Option (List (Int × Int) × Int) := (mCheck (v0) (v1)).bind fun y1 => (if (y1 != 0) = true then some (([], y1)) else ((if (v0 == 1) = true then some true else (core_Within F (v2) (0) ((wrap64 (v0 - 1)))).bind fun y3 => if y3 = true then some false else some true).bind fun b2 => if b2 = true then some (([], 1)) else (graph_Without_L1 F (v1) (v2) ((fun z4 => brambleweir_graph_Without_1 F (v2) z4)) F (0) ([])).bind fun o9 => some ((o9, 0))))
set_option maxRecDepth 100000 in
set_option maxHeartbeats 4000000 in
theorem graph_Without_ok {F : Nat} {v0 : Int} {v1 : List (Int × Int)} {A1 : Option Addr} {v2 : Int} {r : List (Int × Int) × Int} (w : World) (cap1 : Nat) (hr1 : ReadsL w w.heap.size A1 v1) (h : graph_Without F v0 v1 v2 = some r) :
    Calls Try.prog 19 #[.int .i64 v0, .slice A1 v1.length cap1, .int .i64 v2] w (PostG (fun v => (.tuple #[v, (errV 66 r.2)])) (fun v => owL v r.1) w.heap.size w) := by
  have HR1 := Lib.hid hr1; clear hr1
  have HD := Lib.hid (Below.refl w.heap.size w)
  have HOA := Lib.hid (HP.nil (W := w) (B := w.heap.size))
  unfold graph_Without at h
  have HM := Lib.hid h; clear h
  go_enter Try.func19, Try.ntmps19
  go_upto_region 1 with (fail)
  have hd : Below w.heap.size w (w.alloc (.cells #[.int .i64 (v2)] 3)) := (Below.refl _ _).alloc (Nat.le_refl _) _
  have ho := owX_ok w 3 (.int .i64 (v2))
  generalize hW : World.alloc w _ = W1 at *
  clear hW
  replace HOA := Lib.hid (HOA.out.call hd HD.out.size ho); clear ho
  replace HD := Lib.hid (HD.out.trans (hd.mono HD.out.size))
  clear hd
  obtain ⟨y5, hy3, hm⟩ := obind HM.out
  replace HM := Lib.hid hm; clear hm
  have HC4 := mCheck_ok W1 cap1 (rdL HD.out HR1.out) hy3
  clear hy3
  by_cases hz6 : y5 = 0
  · subst hz6
    rw [errV_zero] at HC4; replace HC4 := Lib.hid HC4
    go_wp2_with fail
    refine HC4.out.mono ?_; rintro e W7 ⟨rfl, hd⟩
    replace HOA := Lib.hid (HOA.out.below hd)
    replace HD := Lib.hid (HD.out.trans (hd.mono HD.out.size))
    clear hd
    replace HM := Lib.hid (ifF (by decide) HM.out)
    go_upto_region 4 with (fail)
    obtain ⟨b10, hb, hm⟩ := obind HM.out
    replace HM := Lib.hid hm; have HB11 := Lib.hid hb; clear hm hb
    go_cut [27] (fun uq wr => uq = .bool b10 ∧ Hid (Below W7.heap.size W7 wr))
    case first =>
      have HWC12 := Lib.hid (Below.refl W7.heap.size W7)
      rcases Bool.eq_false_or_eq_true (v0 == 1) with hc13 | hc13
      · replace HB11 := Lib.hid (ifT hc13 HB11.out)
        have HK14 := Lib.hid hc13
        cases Option.some.inj HB11.out
        try go_wp2_with fail
        go_meet
        case rel => exact ⟨rfl, HWC12⟩
      · replace HB11 := Lib.hid (ifF (bF hc13) HB11.out)
        have HK14 := Lib.hid hc13
        have fb15 := HP.bx HOA.out (List.Mem.head _)
        obtain ⟨y18, hy16, hm⟩ := obind HB11.out
        replace HB11 := Lib.hid hm; clear hm
        have HC17 := core_Within_ok W7  hy16
        clear hy16
        replace HC17 := Lib.hid HC17
        cases y18
        · replace HB11 := Lib.hid (ifF Bool.false_ne_true HB11.out)
          cases Option.some.inj HB11.out
          go_wp2_with fail
          refine HC17.out.mono ?_; rintro e w' ⟨rfl, rfl⟩
          try go_wp2_with fail
          go_meet
          case rel => exact ⟨rfl, HWC12⟩
        · replace HB11 := Lib.hid (ifT rfl HB11.out)
          cases Option.some.inj HB11.out
          go_wp2_with fail
          refine HC17.out.mono ?_; rintro e w' ⟨rfl, rfl⟩
          try go_wp2_with fail
          go_meet
          case rel => exact ⟨rfl, HWC12⟩
    case rest =>
      obtain ⟨rfl, HWC12⟩ := hcut
      rename World => W19
      have hd := HWC12.out
      replace HOA := Lib.hid (HOA.out.below hd)
      replace HD := Lib.hid (HD.out.trans (hd.mono HD.out.size))
      clear hd
      cases b10
      · replace HM := Lib.hid (ifF Bool.false_ne_true HM.out)
        replace HOA := Lib.hid (show HP _ _ (.fl (owL (.slice none 0 0) ([])) :: _) from HOA.out.pushNil _ _)
        go_wp2_with fail
        obtain ⟨o21, ho, hm⟩ := obind HM.out
        replace HM := Lib.hid hm; have HL1 := Lib.hid ho; clear hm ho
        go_loopg [32, 10] F (fun gg uj ux23 wr => ∃ (j25 : Int) (x22 : List (Int × Int)) (V24 : Value), uj = .int .i64 j25 ∧ V24 = ux23 ∧ Hid (Below w.heap.size w wr) ∧ Hid (HP wr w.heap.size [.fl (owL V24 (x22)), .fl (owX 3 (some ⟨w.heap.size, 0, none⟩) (.int .i64 (v2)))]) ∧ Hid (graph_Without_L1 F (v1) (v2) ((fun z10 => brambleweir_graph_Without_1 F (v2) z10)) gg j25 x22 = some o21))
        case atStart => exact ⟨0, [], (.slice none 0 0), rfl, rfl, HD, HOA, HL1⟩
        case round =>
          obtain ⟨j25, x22, V24, rfl, rfl, HD, HOA, HL1⟩ := hrel
          rename World => W26
          cases gk with
          | zero => exact absurd ((graph_Without_L1_0 ..).symm.trans HL1.out) (by intro h; cases h)
          | succ g1 =>
            replace HL1 := Lib.hid ((graph_Without_L1_s ..).symm.trans HL1.out)
            by_cases hc27 : j25 < ((v1).length : Int)
            · replace HL1 := Lib.hid (ifT hc27 HL1.out)
              have HK28 := Lib.hid hc27
              obtain ⟨y29, hy30, hm⟩ := obind HL1.out
              replace HL1 := Lib.hid hm; clear hm
              obtain ⟨b31, o32, ea33, _, f34, f35, f36, f37⟩ := ReadsL.ix (rdL HD.out HR1.out) hy30
              cases ea33
              try simp only [Nat.zero_add, Nat.add_zero, Int.toNat_natCast, Int.toNat_zero, Int.toNat_one] at f36 f37
              have HY38 := Lib.hid hy30; clear hy30
              go_upto_region 11 with (fail)
              have hd : Below W26.heap.size W26 (W26.alloc (.cells #[Value.int .i64 y29.1, Value.int .i64 y29.2] 32)) := (Below.refl _ _).alloc (Nat.le_refl _) _
              have ho := boxRL W26 y29
              generalize hW : World.alloc W26 _ = W39 at *
              clear hW
              try clear hc27 f34 f35 f36 f37
              replace HOA := Lib.hid (HOA.out.call hd HD.out.size ho); clear ho
              replace HD := Lib.hid (HD.out.trans (hd.mono HD.out.size))
              clear hd
              obtain ⟨b42, hb, hm⟩ := obind HL1.out
              replace HL1 := Lib.hid hm; have HB43 := Lib.hid hb; clear hm hb
              obtain ⟨f44, f45⟩ := boxL (HP.rd_L HOA.out (List.Mem.head _))
              have fb46 := HP.bx HOA.out (List.Mem.tail _ (List.Mem.tail _ (List.Mem.head _)))
              rcases Bool.eq_false_or_eq_true (y29.1 != v2) with hc47 | hc47
              · replace HB43 := Lib.hid (ifT hc47 HB43.out)
                have HK48 := Lib.hid hc47
                rcases Bool.eq_false_or_eq_true (y29.2 != v2) with hc49 | hc49
                · replace HB43 := Lib.hid (ifT hc49 HB43.out)
                  have HK50 := Lib.hid hc49
                  obtain rfl := Option.some.inj HB43.out
                  replace HL1 := Lib.hid (ifT (by first | rfl | trivial) HL1.out)
                  try go_wp2_with fail
                  try clear f44 f45 fb46 hc47 hc49
                  obtain ⟨f51, f52⟩ := boxL (HP.rd_L HOA.out (List.Mem.head _))
                  obtain ⟨y55, hy53, hm⟩ := obind HL1.out
                  replace HL1 := Lib.hid hm; clear hm
                  have HC54 := Lib.hid (fun m => brambleweir_graph_Without_1_ok (W39.drewN m) (HP.bx HOA.out (List.Mem.tail _ (List.Mem.tail _ (List.Mem.head _)))) hy53); clear hy53
                  obtain ⟨y59, hy57, hm⟩ := obind HL1.out
                  replace HL1 := Lib.hid hm; clear hm
                  have HC58 := Lib.hid (fun m => brambleweir_graph_Without_1_ok (W39.drewN m) (HP.bx HOA.out (List.Mem.tail _ (List.Mem.tail _ (List.Mem.head _)))) hy57); clear hy57
                  obtain ⟨y61, hy62, hm⟩ := obind HL1.out
                  replace HL1 := Lib.hid hm; clear hm
                  obtain ⟨f63, hy62⟩ := app_some hy62; subst hy62
                  have HF66 := Lib.hid f63; clear f63
                  have hd1 := Dr.one W39
                  replace HOA := Lib.hid (HOA.out.dr hd1)
                  replace HD := Lib.hid (HD.out.trans (hd1.below _))
                  clear hd1
                  go_region_law (first | ((try go_simp); refine (HC54.out 1).mono ?_; rintro e w' ⟨rfl, rfl⟩) | ((try go_simp); refine (HC58.out 1).mono ?_; rintro e w' ⟨rfl, rfl⟩) | (refine hp_appL_st (World.drew W39) (.tmp 46) (.tmp 56) 22 Try.underlying22 rfl rfl (L1 := [_]) HOA.out (by simp [Act.eval, Act.put]) (by simp [Act.eval, Act.put]) HF66.out HD.out.size ?_; intro g67 cap68 W65 hoa hd; have HOA2 := Lib.hid hoa; have HD2 := Lib.hid hd; clear hoa hd))
                  all_goals
                    try clear f51 f52
                    replace HOA := Lib.hid (show HP W65 w.heap.size [.fl (owL (.slice (some ⟨W26.heap.size, 0, none⟩) 1 1) ([y29])), .fl (owL (.slice (some ⟨g67, 0, none⟩) ((x22).length + 1) cap68) ((x22 ++ [(y55, y59)]))), .fl (owX 3 (some ⟨w.heap.size, 0, none⟩) (.int .i64 (v2)))] from by have q := HOA2.out; (try simp only [i64w] at q); exact q); clear HOA2
                    replace HD := Lib.hid (HD.out.trans HD2.out); clear HD2
                    go_wp2_with fail
                    replace HOA := Lib.hid (HOA.out.sub (.cons _ (.cons₂ _ (.cons₂ _ .slnil))))
                    go_roundg g1
                    case measure => omega
                    case rel => exact ⟨(wrap64 (j25 + 1)), (x22 ++ [(y55, y59)]), (.slice (some ⟨g67, 0, none⟩) ((x22).length + 1) cap68), rfl, rfl, HD, HOA, HL1⟩
                · replace HB43 := Lib.hid (ifF (bF hc49) HB43.out)
                  have HK50 := Lib.hid hc49
                  obtain rfl := Option.some.inj HB43.out
                  replace HL1 := Lib.hid (ifF (by first | exact Bool.false_ne_true | exact not_false) HL1.out)
                  go_wp2_with fail
                  try clear f44 f45 fb46 hc47 hc49
                  replace HOA := Lib.hid (HOA.out.sub (.cons _ (.cons₂ _ (.cons₂ _ .slnil))))
                  go_roundg g1
                  case measure => omega
                  case rel => exact ⟨(wrap64 (j25 + 1)), x22, V24, rfl, rfl, HD, HOA, HL1⟩
              · replace HB43 := Lib.hid (ifF (bF hc47) HB43.out)
                have HK48 := Lib.hid hc47
                obtain rfl := Option.some.inj HB43.out
                replace HL1 := Lib.hid (ifF (by first | exact Bool.false_ne_true | exact not_false) HL1.out)
                go_wp2_with fail
                try clear f44 f45 fb46 hc47
                replace HOA := Lib.hid (HOA.out.sub (.cons _ (.cons₂ _ (.cons₂ _ .slnil))))
                go_roundg g1
                case measure => omega
                case rel => exact ⟨(wrap64 (j25 + 1)), x22, V24, rfl, rfl, HD, HOA, HL1⟩
            · replace HL1 := Lib.hid (ifF hc27 HL1.out)
              have hc27d := decide_eq_false hc27
              have HK28 := Lib.hid hc27
              obtain rfl := Option.some.inj HL1.out
              have hm := HM.out; try dsimp only at hm
              replace HM := Lib.hid hm; clear hm
              obtain rfl := Option.some.inj HM.out
              go_wp2_with fail
              try clear hc27 hc27d
              go_ret2
              exact ⟨_, rfl, HOA.out.get (List.Mem.head _), HD.out⟩
      · replace HM := Lib.hid (ifT rfl HM.out)
        obtain rfl := Option.some.inj HM.out
        go_wp2_with fail
        go_ret2
        exact ⟨_, rfl, World.ownsRow_nil _ _ _ _, HD.out⟩
  · rw [errV_pos _ hz6] at HC4; replace HC4 := Lib.hid HC4
    go_wp2_with fail
    refine HC4.out.mono ?_; rintro e W8 ⟨rfl, hd⟩
    replace HOA := Lib.hid (HOA.out.below hd)
    replace HD := Lib.hid (HD.out.trans (hd.mono HD.out.size))
    clear hd
    have HZ9 := Lib.hid hz6; clear hz6
    replace HM := Lib.hid (ifT (bne_iff_ne.2 HZ9.out) HM.out)
    obtain rfl := Option.some.inj HM.out
    go_wp2_with fail
    go_ret2
    exact ⟨_, (by first | (rw [errV_pos _ HZ9.out]; rfl) | rw [errV_pos _ HZ9.out]), World.ownsRow_nil _ _ _ _, HD.out⟩
end Go.Proofs.Ytgnbholhgcbhfaa
