import Derived.Test.YtabkmceajgpdjaaDoorGR
import Derived.Test.YtabkmceajgpdjaaDoorSlM
import Derived.Test.YtabkmceajgpdjaaDoorBox
set_option linter.all false
set_option maxRecDepth 100000
namespace Go.Proofs.YtabkmceajgpdjaaDoor
open Go.RowKit
attribute [local go_sem] Oper.semAt_some
def tourn_Check_L2 (F : Nat) (v4 : List Nat) (v5 : Int) : Nat → (Int) → Option ((Unit) ⊕ (Int))
  | 0, _ => none
  | g+1, j => if j < v5 then ((ix v4 v5).bind fun y3 => (sHas (y3) (j)).bind fun y4 => (ix v4 j).bind fun y5 => (sHas (y5) (v5)).bind fun y6 => if (y4 == y6) = true then some (.inr (6)) else tourn_Check_L2 F v4 v5 g (wrap64 (j + 1))) else some (.inl ())
theorem tourn_Check_L2_0 (F : Nat) (v4 : List Nat) (v5 : Int) (j : Int) : tourn_Check_L2 F v4 v5 0 j = none := by rw [tourn_Check_L2]
theorem tourn_Check_L2_s (F g : Nat) (v4 : List Nat) (v5 : Int) (j : Int) : tourn_Check_L2 F v4 v5 (g+1) j = (if j < v5 then ((ix v4 v5).bind fun y3 => (sHas (y3) (j)).bind fun y4 => (ix v4 j).bind fun y5 => (sHas (y5) (v5)).bind fun y6 => if (y4 == y6) = true then some (.inr (6)) else tourn_Check_L2 F v4 v5 g (wrap64 (j + 1))) else some (.inl ())) := by rw [tourn_Check_L2]
def tourn_Check_L1 (F : Nat) (v0 : Int) (v4 : List Nat) : Nat → (Int) → Option ((Unit) ⊕ (Int))
  | 0, _ => none
  | g+1, j => if j < v0 then (tourn_Check_L2 F (v4) (j) F (0)).bind fun o7 => match o7 with | .inr r => some (.inr (r)) | .inl o7 => tourn_Check_L1 F v0 v4 g (wrap64 (j + 1)) else some (.inl ())
theorem tourn_Check_L1_0 (F : Nat) (v0 : Int) (v4 : List Nat) (j : Int) : tourn_Check_L1 F v0 v4 0 j = none := by rw [tourn_Check_L1]
theorem tourn_Check_L1_s (F g : Nat) (v0 : Int) (v4 : List Nat) (j : Int) : tourn_Check_L1 F v0 v4 (g+1) j = (if j < v0 then (tourn_Check_L2 F (v4) (j) F (0)).bind fun o7 => match o7 with | .inr r => some (.inr (r)) | .inl o7 => tourn_Check_L1 F v0 v4 g (wrap64 (j + 1)) else some (.inl ())) := by rw [tourn_Check_L1]
def tourn_Check (F : Nat) (v0 : Int) (v1 : List (Int × Int)) : Option (Int) := (mCheck (v0) (v1)).bind fun y1 => (if (y1 != 0) = true then some (y1) else (mOut (v0) (v1)).bind fun y2 => (tourn_Check_L1 F (v0) (y2) F (0)).bind fun o8 => match o8 with | .inr r => some (r) | .inl o8 => (if (((v1).length : Int) != (wrap64 (Int.tdiv (wrap64 (v0 * (wrap64 (v0 - 1)))) 2))) = true then some (6) else some (0)))
set_option maxRecDepth 100000 in
set_option maxHeartbeats 4000000 in
theorem tourn_Check_ok {F : Nat} {v0 : Int} {v1 : List (Int × Int)} {A1 : Option Addr} {r : Int} (w : World) (cap1 : Nat) (hr1 : ReadsL w w.heap.size A1 v1) (h : tourn_Check F v0 v1 = some r) :
    Calls Tryd.prog 6 #[.int .i64 v0, .slice A1 v1.length cap1] w fun e w' => e = .returned (errV 39 r) ∧ Below w.heap.size w w' := by
  have HR1 := Lib.hid hr1; clear hr1
  have HD := Lib.hid (Below.refl w.heap.size w)
  have HOA := Lib.hid (HP.nil (W := w) (B := w.heap.size))
  unfold tourn_Check at h
  have HM := Lib.hid h; clear h
  go_enter Tryd.func6, Tryd.ntmps6
  obtain ⟨y3, hy1, hm⟩ := obind HM.out
  replace HM := Lib.hid hm; clear hm
  have HC2 := mCheck_ok w cap1 (rdL HD.out HR1.out) hy1
  clear hy1
  by_cases hz4 : y3 = 0
  · subst hz4
    rw [errV_zero] at HC2; replace HC2 := Lib.hid HC2
    go_wp2_with fail
    refine HC2.out.mono ?_; rintro e W5 ⟨rfl, hd⟩
    replace HOA := Lib.hid (HOA.out.below hd)
    replace HD := Lib.hid (HD.out.trans (hd.mono HD.out.size))
    clear hd
    replace HM := Lib.hid (ifF (by decide) HM.out)
    obtain ⟨y10, hy8, hm⟩ := obind HM.out
    replace HM := Lib.hid hm; clear hm
    have HC9 := mOut_ok W5 cap1 (rdL HD.out HR1.out) hy8
    clear hy8
    replace HC9 := Lib.hid HC9
    go_wp2_with fail
    refine HC9.out.mono ?_; rintro e W11 ⟨V12, rfl, ho, hd⟩
    replace HOA := Lib.hid (HOA.out.call hd HD.out.size ho); clear ho
    replace HD := Lib.hid (HD.out.trans (hd.mono HD.out.size))
    clear hd
    go_wp2_with fail
    obtain ⟨o14, ho, hm⟩ := obind HM.out
    replace HM := Lib.hid hm; have HL1 := Lib.hid ho; clear hm ho
    go_loopg [19] F (fun gg uj wr => ∃ (j15 : Int), uj = .int .i64 j15 ∧ Hid (Below W11.heap.size W11 wr) ∧ Hid (tourn_Check_L1 F (v0) (y10) gg j15 = some o14))
    case atStart => exact ⟨0, rfl, (Lib.hid (Below.refl _ _)), HL1⟩
    case round =>
      obtain ⟨j15, rfl, HW1, HL1⟩ := hrel
      rename World => W16
      have hd := HW1.out
      replace HOA := Lib.hid (HOA.out.below hd)
      replace HD := Lib.hid (HD.out.trans (hd.mono HD.out.size))
      clear hd
      cases gk with
      | zero => exact absurd ((tourn_Check_L1_0 ..).symm.trans HL1.out) (by intro h; cases h)
      | succ g1 =>
        replace HL1 := Lib.hid ((tourn_Check_L1_s ..).symm.trans HL1.out)
        by_cases hc17 : j15 < v0
        · replace HL1 := Lib.hid (ifT hc17 HL1.out)
          have HK18 := Lib.hid hc17
          go_wp2_with fail
          try clear hc17
          obtain ⟨o19, ho, hm⟩ := obind HL1.out
          replace HL1 := Lib.hid hm; have HL2 := Lib.hid ho; clear hm ho
          go_loopg [23] F (fun gg uj wr => ∃ (j20 : Int), uj = .int .i64 j20 ∧ Hid (Below W16.heap.size W16 wr) ∧ Hid (tourn_Check_L2 F (y10) (j15) gg j20 = some o19))
          case atStart => exact ⟨0, rfl, (Lib.hid (Below.refl _ _)), HL2⟩
          case round =>
            obtain ⟨j20, rfl, HW2, HL2⟩ := hrel
            rename World => W21
            have hd := HW2.out
            replace HOA := Lib.hid (HOA.out.below hd)
            replace HD := Lib.hid (HD.out.trans (hd.mono HD.out.size))
            replace HW1 := Lib.hid (HW1.out.trans (hd.mono HW1.out.size))
            clear hd
            cases gk with
            | zero => exact absurd ((tourn_Check_L2_0 ..).symm.trans HL2.out) (by intro h; cases h)
            | succ g2 =>
              replace HL2 := Lib.hid ((tourn_Check_L2_s ..).symm.trans HL2.out)
              by_cases hc22 : j20 < j15
              · replace HL2 := Lib.hid (ifT hc22 HL2.out)
                have HK23 := Lib.hid hc22
                try go_wp2_with fail
                try clear hc22
                obtain ⟨A26, cap27, he, _⟩ := HP.open_M HOA.out (List.Mem.head _)
                subst he
                obtain ⟨y24, hy25, hm⟩ := obind HL2.out
                replace HL2 := Lib.hid hm; clear hm
                obtain ⟨b28, o29, ea30, _, f31, f32, f33⟩ := ReadsM.ix (HP.rd_M HOA.out (List.Mem.head _)) hy25
                cases ea30
                try simp only [Nat.zero_add, Nat.add_zero, Int.toNat_natCast, Int.toNat_zero, Int.toNat_one] at f33
                try rw [← HP.len_M HOA.out (List.Mem.head _)] at f32
                have HY35 := Lib.hid hy25; clear hy25
                obtain ⟨y38, hy36, hm⟩ := obind HL2.out
                replace HL2 := Lib.hid hm; clear hm
                have HC37 := Lib.hid (fun m => sHas_ok (W21.drewN m)  hy36)
                clear hy36
                obtain ⟨y39, hy40, hm⟩ := obind HL2.out
                replace HL2 := Lib.hid hm; clear hm
                obtain ⟨b41, o42, ea43, _, f44, f45, f46⟩ := ReadsM.ix (HP.rd_M HOA.out (List.Mem.head _)) hy40
                cases ea43
                try simp only [Nat.zero_add, Nat.add_zero, Int.toNat_natCast, Int.toNat_zero, Int.toNat_one] at f46
                try rw [← HP.len_M HOA.out (List.Mem.head _)] at f45
                have HY48 := Lib.hid hy40; clear hy40
                obtain ⟨y51, hy49, hm⟩ := obind HL2.out
                replace HL2 := Lib.hid hm; clear hm
                have HC50 := Lib.hid (fun m => sHas_ok (W21.drewN m)  hy49)
                clear hy49
                cases y38
                · cases y51
                  · replace HL2 := Lib.hid (ifT (by decide) HL2.out)
                    go_quiet (first | (go_at_call 20; with_reducible exact quiet_left (HC37.out _)) | (go_at_call 20; with_reducible exact quiet_left (HC50.out _)))
                    generalize hW : World.drewN W21 _ = W52
                    have hd : Dr W21 W52 := ⟨_, hW.symm⟩
                    clear hW
                    try clear f31 f32 f33 f44 f45 f46
                    replace HOA := Lib.hid (HOA.out.below (hd.below _))
                    replace HD := Lib.hid (HD.out.trans ((hd.below _).mono HD.out.size))
                    replace HW1 := Lib.hid (HW1.out.trans ((hd.below _).mono HW1.out.size))
                    replace HW2 := Lib.hid (HW2.out.trans ((hd.below _).mono HW2.out.size))
                    clear hd
                    obtain rfl := Option.some.inj HL2.out
                    have hm := HL1.out; try dsimp only at hm
                    replace HL1 := Lib.hid hm; clear hm
                    obtain rfl := Option.some.inj HL1.out
                    have hm := HM.out; try dsimp only at hm
                    replace HM := Lib.hid hm; clear hm
                    obtain rfl := Option.some.inj HM.out
                    go_wp2_with fail
                    go_ret
                    exact ⟨rfl, HD.out⟩
                  · replace HL2 := Lib.hid (ifF (by decide) HL2.out)
                    go_quiet (first | (go_at_call 20; with_reducible exact quiet_left (HC37.out _)) | (go_at_call 20; with_reducible exact quiet_left (HC50.out _)))
                    generalize hW : World.drewN W21 _ = W53
                    have hd : Dr W21 W53 := ⟨_, hW.symm⟩
                    clear hW
                    try clear f31 f32 f33 f44 f45 f46
                    replace HOA := Lib.hid (HOA.out.below (hd.below _))
                    replace HD := Lib.hid (HD.out.trans ((hd.below _).mono HD.out.size))
                    replace HW1 := Lib.hid (HW1.out.trans ((hd.below _).mono HW1.out.size))
                    replace HW2 := Lib.hid (HW2.out.trans ((hd.below _).mono HW2.out.size))
                    clear hd
                    go_wp2_with fail
                    go_roundg g2
                    case measure => omega
                    case rel => exact ⟨(wrap64 (j20 + 1)), rfl, HW2, HL2⟩
                · cases y51
                  · replace HL2 := Lib.hid (ifF (by decide) HL2.out)
                    go_quiet (first | (go_at_call 20; with_reducible exact quiet_left (HC37.out _)) | (go_at_call 20; with_reducible exact quiet_left (HC50.out _)))
                    generalize hW : World.drewN W21 _ = W54
                    have hd : Dr W21 W54 := ⟨_, hW.symm⟩
                    clear hW
                    try clear f31 f32 f33 f44 f45 f46
                    replace HOA := Lib.hid (HOA.out.below (hd.below _))
                    replace HD := Lib.hid (HD.out.trans ((hd.below _).mono HD.out.size))
                    replace HW1 := Lib.hid (HW1.out.trans ((hd.below _).mono HW1.out.size))
                    replace HW2 := Lib.hid (HW2.out.trans ((hd.below _).mono HW2.out.size))
                    clear hd
                    go_wp2_with fail
                    go_roundg g2
                    case measure => omega
                    case rel => exact ⟨(wrap64 (j20 + 1)), rfl, HW2, HL2⟩
                  · replace HL2 := Lib.hid (ifT (by decide) HL2.out)
                    go_quiet (first | (go_at_call 20; with_reducible exact quiet_left (HC37.out _)) | (go_at_call 20; with_reducible exact quiet_left (HC50.out _)))
                    generalize hW : World.drewN W21 _ = W55
                    have hd : Dr W21 W55 := ⟨_, hW.symm⟩
                    clear hW
                    try clear f31 f32 f33 f44 f45 f46
                    replace HOA := Lib.hid (HOA.out.below (hd.below _))
                    replace HD := Lib.hid (HD.out.trans ((hd.below _).mono HD.out.size))
                    replace HW1 := Lib.hid (HW1.out.trans ((hd.below _).mono HW1.out.size))
                    replace HW2 := Lib.hid (HW2.out.trans ((hd.below _).mono HW2.out.size))
                    clear hd
                    obtain rfl := Option.some.inj HL2.out
                    have hm := HL1.out; try dsimp only at hm
                    replace HL1 := Lib.hid hm; clear hm
                    obtain rfl := Option.some.inj HL1.out
                    have hm := HM.out; try dsimp only at hm
                    replace HM := Lib.hid hm; clear hm
                    obtain rfl := Option.some.inj HM.out
                    go_wp2_with fail
                    go_ret
                    exact ⟨rfl, HD.out⟩
              · replace HL2 := Lib.hid (ifF hc22 HL2.out)
                have hc22d := decide_eq_false hc22
                have HK23 := Lib.hid hc22
                obtain rfl := Option.some.inj HL2.out
                have hm := HL1.out; try dsimp only at hm
                replace HL1 := Lib.hid hm; clear hm
                go_wp2_with fail
                try clear hc22 hc22d
                go_roundg g1
                case measure => omega
                case rel => exact ⟨(wrap64 (j15 + 1)), rfl, HW1, HL1⟩
        · replace HL1 := Lib.hid (ifF hc17 HL1.out)
          have hc17d := decide_eq_false hc17
          have HK18 := Lib.hid hc17
          obtain rfl := Option.some.inj HL1.out
          have hm := HM.out; try dsimp only at hm
          replace HM := Lib.hid hm; clear hm
          rcases Bool.eq_false_or_eq_true (((v1).length : Int) != (wrap64 (Int.tdiv (wrap64 (v0 * (wrap64 (v0 - 1)))) 2))) with hc56 | hc56
          · replace HM := Lib.hid (ifT hc56 HM.out)
            have HK57 := Lib.hid hc56
            obtain rfl := Option.some.inj HM.out
            go_wp2_with fail
            try clear hc17 hc17d hc56
            go_ret
            exact ⟨rfl, HD.out⟩
          · replace HM := Lib.hid (ifF (bF hc56) HM.out)
            have HK57 := Lib.hid hc56
            obtain rfl := Option.some.inj HM.out
            go_wp2_with fail
            try clear hc17 hc17d hc56
            go_ret
            exact ⟨rfl, HD.out⟩
  · rw [errV_pos _ hz4] at HC2; replace HC2 := Lib.hid HC2
    go_wp2_with fail
    refine HC2.out.mono ?_; rintro e W6 ⟨rfl, hd⟩
    replace HOA := Lib.hid (HOA.out.below hd)
    replace HD := Lib.hid (HD.out.trans (hd.mono HD.out.size))
    clear hd
    have HZ7 := Lib.hid hz4; clear hz4
    replace HM := Lib.hid (ifT (bne_iff_ne.2 HZ7.out) HM.out)
    obtain rfl := Option.some.inj HM.out
    go_wp2_with fail
    go_ret
    exact ⟨(by first | (rw [errV_pos _ HZ7.out]; rfl) | rw [errV_pos _ HZ7.out]), HD.out⟩
def tourn_Scores_L1 (F : Nat) (v8 : List Nat) : Nat → (Int) → (List Int) → Option (List Int)
  | 0, _, _ => none
  | g+1, j, v5 => if j < ((v8).length : Int) then (ix v8 j).bind fun y => (sLen (y)).bind fun y4 => (app v5 y4).bind fun y3 => tourn_Scores_L1 F v8 g (wrap64 (j + 1)) (y3) else some (v5)
theorem tourn_Scores_L1_0 (F : Nat) (v8 : List Nat) (v5 : List Int) (j : Int) : tourn_Scores_L1 F v8 0 j v5 = none := by rw [tourn_Scores_L1]
theorem tourn_Scores_L1_s (F g : Nat) (v8 : List Nat) (v5 : List Int) (j : Int) : tourn_Scores_L1 F v8 (g+1) j v5 = (if j < ((v8).length : Int) then (ix v8 j).bind fun y => (sLen (y)).bind fun y4 => (app v5 y4).bind fun y3 => tourn_Scores_L1 F v8 g (wrap64 (j + 1)) (y3) else some (v5)) := by rw [tourn_Scores_L1]
def tourn_Scores (F : Nat) (v0 : Int) (v1 : List (Int × Int)) : Option (List Int × Int) := (tourn_Check F (v0) (v1)).bind fun y1 => (if (y1 != 0) = true then some (([], y1)) else (mOut (v0) (v1)).bind fun y2 => (tourn_Scores_L1 F (y2) F (0) ([])).bind fun o5 => some ((o5, 0)))
set_option maxRecDepth 100000 in
set_option maxHeartbeats 4000000 in
theorem tourn_Scores_ok {F : Nat} {v0 : Int} {v1 : List (Int × Int)} {A1 : Option Addr} {r : List Int × Int} (w : World) (cap1 : Nat) (hr1 : ReadsL w w.heap.size A1 v1) (h : tourn_Scores F v0 v1 = some r) :
    Calls Tryd.prog 8 #[.int .i64 v0, .slice A1 v1.length cap1] w (PostG (fun v => (.tuple #[v, (errV 39 r.2)])) (fun v => owI v r.1) w.heap.size w) := by
  have HR1 := Lib.hid hr1; clear hr1
  have HD := Lib.hid (Below.refl w.heap.size w)
  have HOA := Lib.hid (HP.nil (W := w) (B := w.heap.size))
  unfold tourn_Scores at h
  have HM := Lib.hid h; clear h
  go_enter Tryd.func8, Tryd.ntmps8
  obtain ⟨y3, hy1, hm⟩ := obind HM.out
  replace HM := Lib.hid hm; clear hm
  have HC2 := tourn_Check_ok w cap1 (rdL HD.out HR1.out) hy1
  clear hy1
  by_cases hz4 : y3 = 0
  · subst hz4
    rw [errV_zero] at HC2; replace HC2 := Lib.hid HC2
    go_wp2_with fail
    refine HC2.out.mono ?_; rintro e W5 ⟨rfl, hd⟩
    replace HOA := Lib.hid (HOA.out.below hd)
    replace HD := Lib.hid (HD.out.trans (hd.mono HD.out.size))
    clear hd
    replace HM := Lib.hid (ifF (by decide) HM.out)
    replace HOA := Lib.hid (show HP _ _ (.fl (owI (.slice none 0 0) ([])) :: _) from HOA.out.pushNil _ _)
    obtain ⟨y11, hy9, hm⟩ := obind HM.out
    replace HM := Lib.hid hm; clear hm
    have HC10 := mOut_ok W5 cap1 (rdL HD.out HR1.out) hy9
    clear hy9
    replace HC10 := Lib.hid HC10
    go_wp2_with fail
    refine HC10.out.mono ?_; rintro e W12 ⟨V13, rfl, ho, hd⟩
    replace HOA := Lib.hid (HOA.out.call hd HD.out.size ho); clear ho
    replace HD := Lib.hid (HD.out.trans (hd.mono HD.out.size))
    clear hd
    obtain ⟨A15, cap16, he, _⟩ := HP.open_M HOA.out (List.Mem.head _)
    subst he
    go_wp2_with fail
    obtain ⟨o17, ho, hm⟩ := obind HM.out
    replace HM := Lib.hid hm; have HL1 := Lib.hid ho; clear hm ho
    go_loopg [20, 7] F (fun gg uj ux19 wr => ∃ (j21 : Int) (x18 : List Int) (V20 : Value), uj = .int .i64 j21 ∧ V20 = ux19 ∧ Hid (Below w.heap.size w wr) ∧ Hid (HP wr w.heap.size [.fl (owM (.slice A15 (y11).length cap16) (y11)), .fl (owI V20 (x18))]) ∧ Hid (tourn_Scores_L1 F (y11) gg j21 x18 = some o17))
    case atStart => exact ⟨0, [], (.slice none 0 0), rfl, rfl, HD, HOA, HL1⟩
    case round =>
      obtain ⟨j21, x18, V20, rfl, rfl, HD, HOA, HL1⟩ := hrel
      rename World => W22
      cases gk with
      | zero => exact absurd ((tourn_Scores_L1_0 ..).symm.trans HL1.out) (by intro h; cases h)
      | succ g1 =>
        replace HL1 := Lib.hid ((tourn_Scores_L1_s ..).symm.trans HL1.out)
        by_cases hc23 : j21 < ((y11).length : Int)
        · replace HL1 := Lib.hid (ifT hc23 HL1.out)
          have HK24 := Lib.hid hc23
          try rw [← HP.len_M HOA.out (List.Mem.head _)] at hc23
          obtain ⟨y25, hy26, hm⟩ := obind HL1.out
          replace HL1 := Lib.hid hm; clear hm
          obtain ⟨b27, o28, ea29, _, f30, f31, f32⟩ := ReadsM.ix (HP.rd_M HOA.out (List.Mem.head _)) hy26
          cases ea29
          try simp only [Nat.zero_add, Nat.add_zero, Int.toNat_natCast, Int.toNat_zero, Int.toNat_one] at f32
          try rw [← HP.len_M HOA.out (List.Mem.head _)] at f31
          have HY34 := Lib.hid hy26; clear hy26
          obtain ⟨y37, hy35, hm⟩ := obind HL1.out
          replace HL1 := Lib.hid hm; clear hm
          have HC36 := sLen_ok W22  hy35
          clear hy35
          replace HC36 := Lib.hid HC36
          go_wp2_with fail
          refine HC36.out.mono ?_; rintro e W38 ⟨rfl, hd⟩
          try clear hc23 f30 f31 f32
          replace HOA := Lib.hid (HOA.out.below hd)
          replace HD := Lib.hid (HD.out.trans (hd.mono HD.out.size))
          clear hd
          obtain ⟨y39, hy40, hm⟩ := obind HL1.out
          replace HL1 := Lib.hid hm; clear hm
          obtain ⟨f41, hy40⟩ := app_some hy40; subst hy40
          have HF44 := Lib.hid f41; clear f41
          go_wp2_with (at_builtin; refine hp_appI _ (.tmp 24) (.tmp 27) 23 Tryd.underlying23 rfl rfl (L1 := [_]) HOA.out rfl rfl HF44.out HD.out.size ?_; intro V42 W43 hoa hd)
          replace HOA := Lib.hid (show HP W43 w.heap.size [.fl (owM (.slice (some ⟨b27, o28, none⟩) (y11).length cap16) (y11)), .fl (owI V42 ((x18 ++ [y37])))] from hoa); clear hoa
          replace HD := Lib.hid (HD.out.trans hd); clear hd
          go_wp2_with fail
          go_roundg g1
          case measure => omega
          case rel => exact ⟨(wrap64 (j21 + 1)), (x18 ++ [y37]), V42, rfl, rfl, HD, HOA, HL1⟩
        · replace HL1 := Lib.hid (ifF hc23 HL1.out)
          have hc23d := decide_eq_false hc23
          have HK24 := Lib.hid hc23
          try rw [← HP.len_M HOA.out (List.Mem.head _)] at hc23
          obtain rfl := Option.some.inj HL1.out
          have hm := HM.out; try dsimp only at hm
          replace HM := Lib.hid hm; clear hm
          obtain rfl := Option.some.inj HM.out
          go_wp2_with fail
          try clear hc23 hc23d
          go_ret2
          exact ⟨_, rfl, HOA.out.get (List.Mem.tail _ (List.Mem.head _)), HD.out⟩
  · rw [errV_pos _ hz4] at HC2; replace HC2 := Lib.hid HC2
    go_wp2_with fail
    refine HC2.out.mono ?_; rintro e W6 ⟨rfl, hd⟩
    replace HOA := Lib.hid (HOA.out.below hd)
    replace HD := Lib.hid (HD.out.trans (hd.mono HD.out.size))
    clear hd
    have HZ7 := Lib.hid hz4; clear hz4
    replace HM := Lib.hid (ifT (bne_iff_ne.2 HZ7.out) HM.out)
    obtain rfl := Option.some.inj HM.out
    go_wp2_with fail
    go_ret2
    exact ⟨_, (by first | (rw [errV_pos _ HZ7.out]; rfl) | rw [errV_pos _ HZ7.out]), World.ownsRow_nil _ _ _ _, HD.out⟩
def tourn_Kings_L2 (F : Nat) (v5 : List Nat) : List Nat → (Nat) → Option (Nat)
  | [], v8 => some (v8)
  | x :: xs, v8 => (ix v5 (x : Int)).bind fun y5 => (sOr v8 y5).bind fun y6 => tourn_Kings_L2 F v5 xs (y6)
theorem tourn_Kings_L2_n (F : Nat) (v5 : List Nat) (v8 : Nat) : tourn_Kings_L2 F v5 [] v8 = some (v8) := by rw [tourn_Kings_L2]
theorem tourn_Kings_L2_c (F : Nat) (v5 : List Nat) (v8 : Nat) (x : Nat) (xs : List Nat) : tourn_Kings_L2 F v5 (x :: xs) v8 = ((ix v5 (x : Int)).bind fun y5 => (sOr v8 y5).bind fun y6 => tourn_Kings_L2 F v5 xs (y6)) := by rw [tourn_Kings_L2]
def tourn_Kings_L1 (F : Nat) (v0 : Int) (v5 : List Nat) : Nat → (Int) → (List Int) → Option (List Int)
  | 0, _, _ => none
  | g+1, j, v6 => if j < v0 then (ix v5 j).bind fun y3 => (sWith (y3) (j)).bind fun y4 => (ix v5 j).bind fun y9 => (sEach y9).bind fun y8 => (tourn_Kings_L2 F (v5) y8 (y4)).bind fun o7 => ((sBelow (v0)).bind fun y10 => if (o7 == y10) = true then (app v6 j).bind fun y11 => tourn_Kings_L1 F v0 v5 g (wrap64 (j + 1)) (y11) else tourn_Kings_L1 F v0 v5 g (wrap64 (j + 1)) (v6)) else some (v6)
theorem tourn_Kings_L1_0 (F : Nat) (v0 : Int) (v5 : List Nat) (v6 : List Int) (j : Int) : tourn_Kings_L1 F v0 v5 0 j v6 = none := by rw [tourn_Kings_L1]
theorem tourn_Kings_L1_s (F g : Nat) (v0 : Int) (v5 : List Nat) (v6 : List Int) (j : Int) : tourn_Kings_L1 F v0 v5 (g+1) j v6 = (if j < v0 then (ix v5 j).bind fun y3 => (sWith (y3) (j)).bind fun y4 => (ix v5 j).bind fun y9 => (sEach y9).bind fun y8 => (tourn_Kings_L2 F (v5) y8 (y4)).bind fun o7 => ((sBelow (v0)).bind fun y10 => if (o7 == y10) = true then (app v6 j).bind fun y11 => tourn_Kings_L1 F v0 v5 g (wrap64 (j + 1)) (y11) else tourn_Kings_L1 F v0 v5 g (wrap64 (j + 1)) (v6)) else some (v6)) := by rw [tourn_Kings_L1]
def tourn_Kings (F : Nat) (v0 : Int) (v1 : List (Int × Int)) : Option (List Int × Int) := (tourn_Check F (v0) (v1)).bind fun y1 => (if (y1 != 0) = true then some (([], y1)) else (mOut (v0) (v1)).bind fun y2 => (tourn_Kings_L1 F (v0) (y2) F (0) ([])).bind fun o12 => some ((o12, 0)))
set_option maxRecDepth 100000 in
set_option maxHeartbeats 4000000 in
theorem tourn_Kings_ok {F : Nat} {v0 : Int} {v1 : List (Int × Int)} {A1 : Option Addr} {r : List Int × Int} (w : World) (cap1 : Nat) (hr1 : ReadsL w w.heap.size A1 v1) (h : tourn_Kings F v0 v1 = some r) :
    Calls Tryd.prog 11 #[.int .i64 v0, .slice A1 v1.length cap1] w (PostG (fun v => (.tuple #[v, (errV 39 r.2)])) (fun v => owI v r.1) w.heap.size w) := by
  have HR1 := Lib.hid hr1; clear hr1
  have HD := Lib.hid (Below.refl w.heap.size w)
  have HOA := Lib.hid (HP.nil (W := w) (B := w.heap.size))
  unfold tourn_Kings at h
  have HM := Lib.hid h; clear h
  have HMK := Lib.hid (Marks.nil w.heap.size w)
  refine (callsIn_wide (n := 5)).1 ?_
  refine callsIn_of_wp_marks Tryd.func11 rfl trivial ?_ rfl
  simp only [Tryd.ntmps11, List.size_toArray, List.length_cons, List.length_nil, Nat.reduceAdd, Nat.reduceSub, Array.replicate_succ, Array.replicate_zero, List.push_toArray, List.append_toArray, List.nil_append, List.cons_append]
  refine wpIn_wide.2 ?_
  obtain ⟨y3, hy1, hm⟩ := obind HM.out
  replace HM := Lib.hid hm; clear hm
  have HC2 := tourn_Check_ok w cap1 (rdL HD.out HR1.out) hy1
  clear hy1
  by_cases hz4 : y3 = 0
  · subst hz4
    rw [errV_zero] at HC2; replace HC2 := Lib.hid HC2
    go_wp2_with fail
    refine HC2.out.mono ?_; rintro e W5 ⟨rfl, hd⟩
    replace HOA := Lib.hid (HOA.out.below hd)
    replace HD := Lib.hid (HD.out.trans (hd.mono HD.out.size))
    replace HMK := Lib.hid (HMK.out.nc (NC.of_below hd))
    clear hd
    replace HM := Lib.hid (ifF (by decide) HM.out)
    obtain ⟨y10, hy8, hm⟩ := obind HM.out
    replace HM := Lib.hid hm; clear hm
    have HC9 := mOut_ok W5 cap1 (rdL HD.out HR1.out) hy8
    clear hy8
    replace HC9 := Lib.hid HC9
    go_wp2_with fail
    refine HC9.out.mono ?_; rintro e W11 ⟨V12, rfl, ho, hd⟩
    replace HOA := Lib.hid (HOA.out.call hd HD.out.size ho); clear ho
    replace HD := Lib.hid (HD.out.trans (hd.mono HD.out.size))
    replace HMK := Lib.hid (HMK.out.nc (NC.of_below hd))
    clear hd
    obtain ⟨A14, cap15, he, _⟩ := HP.open_M HOA.out (List.Mem.head _)
    subst he
    go_upto_region 5 with (fail)
    have hd : Below W11.heap.size W11 (W11.alloc (.cells #[(.slice A14 (y10).length cap15)] 41)) := (Below.refl _ _).alloc (Nat.le_refl _) _
    have ho := owX_ok W11 41 ((.slice A14 (y10).length cap15))
    generalize hW : World.alloc W11 _ = W16 at *
    clear hW
    replace HOA := Lib.hid (HOA.out.call hd HD.out.size ho); clear ho
    replace HD := Lib.hid (HD.out.trans (hd.mono HD.out.size))
    replace HMK := Lib.hid (HMK.out.nc (NC.of_below hd))
    clear hd
    replace HOA := Lib.hid (show HP _ _ (.fl (owI (.slice none 0 0) ([])) :: _) from HOA.out.pushNil _ _)
    go_wp2_with fail
    obtain ⟨o19, ho, hm⟩ := obind HM.out
    replace HM := Lib.hid hm; have HL1 := Lib.hid ho; clear hm ho
    refine wp_loop_marks _ [false, false, false, false, false, false, false, false, true, true, true, true, false, false, false, false, false, false, false, false, false, false, true, true, true, true, true, true, true, true, true, true, true, true, true, true, false, true, true, true, true, true, true, true, true, true, true, true, true, true, true, true, false] (fun gg fk1 dsk1 wr => ∃ (j22 : Int) (x20 : List Int) (V21 : Value), (fk1 22) = .int .i64 j22 ∧ (fk1 8) = V21 ∧ Hid (Below w.heap.size w wr) ∧ Hid (HP wr w.heap.size [.fl (owI V21 (x20)), .fl (owX 41 (some ⟨W11.heap.size, 0, none⟩) ((.slice A14 (y10).length cap15))), .fl (owM (.slice A14 (y10).length cap15) (y10))]) ∧ Hid (Marks w.heap.size dsk1 wr) ∧ Hid (tourn_Kings_L1 F (v0) (y10) gg j22 x20 = some o19)) F _ (by simp only [agreeB, and_self, true_and]) ⟨0, [], (.slice none 0 0), rfl, rfl, HD, HOA, HMK, HL1⟩ ?round
    case round =>
      intro gk fk1 dsk1 wr hrel _ _ hJ1 _
      obtain ⟨j22, x20, V21, hf23, hf24, HD, HOA, HMK, HL1⟩ := hrel
      simp only [setB, Nat.reduceAdd, hf23, hf24]
      clear hf23 hf24
      rename World => W25
      cases gk with
      | zero => exact absurd ((tourn_Kings_L1_0 ..).symm.trans HL1.out) (by intro h; cases h)
      | succ g1 =>
        replace HL1 := Lib.hid ((tourn_Kings_L1_s ..).symm.trans HL1.out)
        by_cases hc26 : j22 < v0
        · replace HL1 := Lib.hid (ifT hc26 HL1.out)
          have HK27 := Lib.hid hc26
          have fb28 := HP.bx HOA.out (List.Mem.tail _ (List.Mem.head _))
          obtain ⟨y29, hy30, hm⟩ := obind HL1.out
          replace HL1 := Lib.hid hm; clear hm
          obtain ⟨b31, o32, ea33, _, f34, f35, f36⟩ := ReadsM.ix (HP.rd_M HOA.out (List.Mem.tail _ (List.Mem.tail _ (List.Mem.head _)))) hy30
          cases ea33
          try simp only [Nat.zero_add, Nat.add_zero, Int.toNat_natCast, Int.toNat_zero, Int.toNat_one] at f36
          try rw [← HP.len_M HOA.out (List.Mem.tail _ (List.Mem.tail _ (List.Mem.head _)))] at f35
          have HY38 := Lib.hid hy30; clear hy30
          obtain ⟨y41, hy39, hm⟩ := obind HL1.out
          replace HL1 := Lib.hid hm; clear hm
          have HC40 := sWith_ok W25  hy39
          clear hy39
          replace HC40 := Lib.hid HC40
          go_wp2_with fail
          refine HC40.out.mono ?_; rintro e w' ⟨rfl, rfl⟩
          go_upto_region 10 with (fail)
          have hd : Below W25.heap.size W25 (W25.alloc (.cells #[.int .u64 (((y41) : Nat) : Int)] 44)) := (Below.refl _ _).alloc (Nat.le_refl _) _
          have ho := owX_ok W25 44 (.int .u64 (((y41) : Nat) : Int))
          generalize hW : World.alloc W25 _ = W42 at *
          clear hW
          try clear hc26 fb28 f34 f35 f36
          replace HOA := Lib.hid (HOA.out.call hd HD.out.size ho); clear ho
          replace HD := Lib.hid (HD.out.trans (hd.mono HD.out.size))
          replace HMK := Lib.hid (HMK.out.nc (NC.of_below hd))
          clear hd
          have fb44 := HP.bx HOA.out (List.Mem.tail _ (List.Mem.tail _ (List.Mem.head _)))
          obtain ⟨y45, hy46, hm⟩ := obind HL1.out
          replace HL1 := Lib.hid hm; clear hm
          obtain ⟨b47, o48, ea49, _, f50, f51, f52⟩ := ReadsM.ix (HP.rd_M HOA.out (List.Mem.tail _ (List.Mem.tail _ (List.Mem.tail _ (List.Mem.head _))))) hy46
          cases ea49
          try simp only [Nat.zero_add, Nat.add_zero, Int.toNat_natCast, Int.toNat_zero, Int.toNat_one] at f52
          try rw [← HP.len_M HOA.out (List.Mem.tail _ (List.Mem.tail _ (List.Mem.tail _ (List.Mem.head _))))] at f51
          have HY54 := Lib.hid hy46; clear hy46
          obtain ⟨y55, hy56, hm⟩ := obind HL1.out
          replace HL1 := Lib.hid hm; clear hm
          obtain ⟨hlt, hml⟩ := s_of hy56
          have HLT58 := Lib.hid hlt; have HML59 := Lib.hid hml; clear hlt hml hy56
          obtain ⟨o57, ho, hm⟩ := obind HL1.out
          replace HL1 := Lib.hid hm; have HL2 := Lib.hid ho; clear hm ho
          go_wp2_with fail
          refine (each_any _ _).mono ?_; rintro e w' ⟨rfl, rfl⟩
          go_wp2_with fail
          try clear fb44 f50 f51 f52
          have hd : Below W42.heap.size W42 (W42.alloc (.cells #[.int .u64 (((y45) : Nat) : Int)] 44)) := (Below.refl _ _).alloc (Nat.le_refl _) _
          have ho := owX_ok W42 44 (.int .u64 (((y45) : Nat) : Int))
          generalize hW : World.alloc W42 _ = W60 at *
          clear hW
          replace HOA := Lib.hid (HOA.out.call hd HD.out.size ho); clear ho
          replace HD := Lib.hid (HD.out.trans (hd.mono HD.out.size))
          replace HMK := Lib.hid (HMK.out.nc (NC.of_below hd))
          clear hd
          have HDk63 := HD
          refine (wpIn_wide (n := 5)).1 (wp_each2 (m := y45) (Bs := W42.heap.size) (by omega) HLT58.out rfl (HP.bx HOA.out (List.Mem.head _)) rfl (fun rest W => ∃ (x62 : Nat), Hid (Below w.heap.size w W) ∧ Hid (NC W60 W) ∧ Hid (HP W w.heap.size [.fl (owX 44 (some ⟨W42.heap.size, 0, none⟩) (.int .u64 (((y45) : Nat) : Int))), .fl (owX 44 (some ⟨W25.heap.size, 0, none⟩) (.int .u64 (((x62) : Nat) : Int))), .fl (owI V21 (x20)), .fl (owX 41 (some ⟨W11.heap.size, 0, none⟩) ((.slice (some ⟨b31, o32, none⟩) (y10).length cap15))), .fl (owM (.slice (some ⟨b31, o32, none⟩) (y10).length cap15) (y10))]) ∧ Hid (tourn_Kings_L2 F (y10) rest x62 = some o57)) (fun _ _ => False) ?hI_q101 ?hIx_q101 ⟨y41, HD, Lib.hid (NC.refl _), HOA, by rw [HML59.out]; exact HL2⟩ ?a1_q101 ?assign_q101 ?body_q101 ?done_q101 ?stop_q101)
          case hI_q101 =>
            rintro rest W W' ⟨x62, hd, hn, hh, hl⟩ hk
            exact ⟨x62, Lib.hid (hk.below hd.out HDk63.out.size (Nat.le_refl _)), Lib.hid (hn.out.keepC hk (Nat.le_refl _)), Lib.hid (hh.out.keepC hk), hl⟩
          case hIx_q101 => exact fun _ _ _ h _ => h
          case assign_q101 =>
            intro l x W K hK
            gi_wp2
            exact hK
          case body_q101 =>
            rintro l64 xn65 rest W66 hx ⟨x62, HD, HN, HOA, HL2⟩ _ _ _ hJ68 hJx69 _ hQ67
            replace HL2 := Lib.hid ((tourn_Kings_L2_c ..).symm.trans HL2.out)
            have HNB := Lib.hid (NC.refl W66)
            try gi_wp2_with fail
            have fb70 := HP.bx HOA.out (List.Mem.tail _ (List.Mem.head _))
            have fb71 := HP.bx HOA.out (List.Mem.tail _ (List.Mem.tail _ (List.Mem.tail _ (List.Mem.head _))))
            obtain ⟨y72, hy73, hm⟩ := obind HL2.out
            replace HL2 := Lib.hid hm; clear hm
            obtain ⟨b74, o75, ea76, _, f77, f78, f79⟩ := ReadsM.ix (HP.rd_M HOA.out (List.Mem.tail _ (List.Mem.tail _ (List.Mem.tail _ (List.Mem.tail _ (List.Mem.head _)))))) hy73
            cases ea76
            try simp only [Nat.zero_add, Nat.add_zero, Int.toNat_natCast, Int.toNat_zero, Int.toNat_one] at f79
            try rw [← HP.len_M HOA.out (List.Mem.tail _ (List.Mem.tail _ (List.Mem.tail _ (List.Mem.tail _ (List.Mem.head _)))))] at f78
            have HY81 := Lib.hid hy73; clear hy73
            obtain ⟨y82, hy83, hm⟩ := obind HL2.out
            replace HL2 := Lib.hid hm; clear hm
            obtain ⟨f84, hy83⟩ := sOr_some hy83; subst hy83
            obtain ⟨q0, q1, hp, hb⟩ := HP.setBx (its1 := [_]) HOA.out (.int .u64 ((((x62 ||| y72)) : Nat) : Int))
            have HP_ := Lib.hid hp; have HB_ := Lib.hid hb; clear hp hb
            refine wpIn_region_still_tail (open_round l64) 6 (by kernel_rfl) (by kernel_rfl) (by kernel_rfl) ?_; simp only [List.take_succ_cons, List.take_zero, List.drop_succ_cons, List.drop_zero]; repeat still_step; try refine wpStill_nil ?_
            change wpListIn _ _ _ _ _ _ _ (World.drew W66)
            gi_wp2_with fail
            have hp := HP_.out.dr (Dr.one _); have hb := HB_.out.trans ((Dr.one _).below _); clear HP_ HB_
            replace HNB := Lib.hid (HNB.out.trans ((NC.setCell W66 ⟨W25.heap.size, 0, none⟩ (.int .u64 ((((x62 ||| y72)) : Nat) : Int))).trans (NC.drew _)))
            generalize hW : World.drew (World.setCell W66 _ _) = W85 at *
            clear hW
            try clear q0 q1 fb70 fb71 f77 f78 f79 f84
            replace HOA := Lib.hid (show HP W85 w.heap.size [.fl (owX 44 (some ⟨W42.heap.size, 0, none⟩) (.int .u64 (((y45) : Nat) : Int))), .fl (owX 44 (some ⟨W25.heap.size, 0, none⟩) (.int .u64 ((((x62 ||| y72)) : Nat) : Int))), .fl (owI V21 (x20)), .fl (owX 41 (some ⟨W11.heap.size, 0, none⟩) ((.slice (some ⟨b31, o32, none⟩) (y10).length cap15))), .fl (owM (.slice (some ⟨b31, o32, none⟩) (y10).length cap15) (y10))] from hp); clear hp
            replace HD := Lib.hid (HD.out.trans hb); clear hb
            gi_wp2_with fail
            exact ⟨HNB.out, HP.bx HOA.out (List.Mem.head _), hJ68 _ ⟨(x62 ||| y72), HD, Lib.hid (HN.out.trans HNB.out), HOA, HL2⟩⟩
          case done_q101 =>
            rintro D86 W87 hD ⟨x62, HD, HN, HOA, HL2⟩ hK
            have hov := Option.some.inj ((tourn_Kings_L2_n ..).symm.trans HL2.out)
            replace HMK := Lib.hid (HMK.out.push HN.out hD HDk63.out.size hK); clear hK hD HN
            subst hov
            have hm := HL1.out; try dsimp only at hm
            replace HL1 := Lib.hid hm; clear hm
            try go_wp2_with fail
            have fb88 := HP.bx HOA.out (List.Mem.tail _ (List.Mem.head _))
            obtain ⟨y91, hy89, hm⟩ := obind HL1.out
            replace HL1 := Lib.hid hm; clear hm
            have HC90 := Lib.hid (fun m => sBelow_ok (W87.drewN m)  hy89)
            clear hy89
            rcases Bool.eq_false_or_eq_true (x62 == y91) with hc92 | hc92
            · replace HL1 := Lib.hid (ifT hc92 HL1.out)
              have HK93 := Lib.hid hc92
              have hc92z := (natBeq x62 y91).trans hc92
              go_quiet (first | (go_at_call 26; exact quiet_left (HC90.out _)))
              generalize hW : World.drewN W87 _ = W94
              have hd : Dr W87 W94 := ⟨_, hW.symm⟩
              clear hW
              try clear fb88 hc92
              replace HOA := Lib.hid (HOA.out.below (hd.below _))
              replace HD := Lib.hid (HD.out.trans ((hd.below _).mono HD.out.size))
              replace HMK := Lib.hid (HMK.out.nc (NC.of_below (hd.below _)))
              clear hd
              obtain ⟨y95, hy96, hm⟩ := obind HL1.out
              replace HL1 := Lib.hid hm; clear hm
              obtain ⟨f97, hy96⟩ := app_some hy96; subst hy96
              obtain ⟨V98, W99, hrun, hoa, hb, hn⟩ := run_appI (e' := 3) (y := j22) (L1 := [_, _]) W94 23 23 Tryd.underlying23 HOA.out f97 HD.out.size
              have HP_ := Lib.hid hoa; clear hoa
              have HR_ := Lib.hid hrun; have HN_ := Lib.hid hn; have HOB := Lib.hid hb; clear hrun hn hb
              go_wp2_with (at_builtin; refine wp_appRun HR_.out rfl rfl rfl rfl ?_)
              have hp := HP_.out; clear HP_ HR_
              replace HMK := Lib.hid (HMK.out.nc (HN_.out))
              have hb := HOB.out; clear HOB HN_
              replace HOA := Lib.hid (show HP W99 w.heap.size [.fl (owX 44 (some ⟨W42.heap.size, 0, none⟩) (.int .u64 (((y45) : Nat) : Int))), .fl (owX 44 (some ⟨W25.heap.size, 0, none⟩) (.int .u64 (((x62) : Nat) : Int))), .fl (owI V98 ((x20 ++ [j22]))), .fl (owX 41 (some ⟨W11.heap.size, 0, none⟩) ((.slice (some ⟨b31, o32, none⟩) (y10).length cap15))), .fl (owM (.slice (some ⟨b31, o32, none⟩) (y10).length cap15) (y10))] from hp); clear hp
              replace HD := Lib.hid (HD.out.trans hb); clear hb
              go_wp2_with fail
              replace HOA := Lib.hid (HOA.out.sub (.cons _ (.cons _ (.cons₂ _ (.cons₂ _ (.cons₂ _ .slnil))))))
              refine Handed.intro g1 (by omega) ?_
              refine hJ1 _ _ _ ⟨by simp only [agreeB, and_self, true_and], (wrap64 (j22 + 1)), (x20 ++ [j22]), V98, rfl, rfl, HD, HOA, HMK, HL1⟩
            · replace HL1 := Lib.hid (ifF (bF hc92) HL1.out)
              have HK93 := Lib.hid hc92
              have hc92z := (natBeq x62 y91).trans hc92
              go_quiet (first | (go_at_call 26; exact quiet_left (HC90.out _)))
              generalize hW : World.drewN W87 _ = W100
              have hd : Dr W87 W100 := ⟨_, hW.symm⟩
              clear hW
              try clear fb88 hc92
              replace HOA := Lib.hid (HOA.out.below (hd.below _))
              replace HD := Lib.hid (HD.out.trans ((hd.below _).mono HD.out.size))
              replace HMK := Lib.hid (HMK.out.nc (NC.of_below (hd.below _)))
              clear hd
              go_wp2_with fail
              replace HOA := Lib.hid (HOA.out.sub (.cons _ (.cons _ (.cons₂ _ (.cons₂ _ (.cons₂ _ .slnil))))))
              refine Handed.intro g1 (by omega) ?_
              refine hJ1 _ _ _ ⟨by simp only [agreeB, and_self, true_and], (wrap64 (j22 + 1)), x20, V21, rfl, rfl, HD, HOA, HMK, HL1⟩
          case stop_q101 => exact fun _ _ _ _ h _ => h.elim
        · replace HL1 := Lib.hid (ifF hc26 HL1.out)
          have hc26d := decide_eq_false hc26
          have HK27 := Lib.hid hc26
          obtain rfl := Option.some.inj HL1.out
          have hm := HM.out; try dsimp only at hm
          replace HM := Lib.hid hm; clear hm
          obtain rfl := Option.some.inj HM.out
          go_wp2_with fail
          try clear hc26 hc26d
          refine leave_marks (B := w.heap.size) _ _ HMK.out (fun W' => results_tmp2 rfl _ _ _) (fun W' hk => ⟨_, rfl, (HOA.out.keepC hk).get (List.Mem.head _), hk.below HD.out (Nat.le_refl _) (Nat.le_refl _)⟩)
  · rw [errV_pos _ hz4] at HC2; replace HC2 := Lib.hid HC2
    go_wp2_with fail
    refine HC2.out.mono ?_; rintro e W6 ⟨rfl, hd⟩
    replace HOA := Lib.hid (HOA.out.below hd)
    replace HD := Lib.hid (HD.out.trans (hd.mono HD.out.size))
    replace HMK := Lib.hid (HMK.out.nc (NC.of_below hd))
    clear hd
    have HZ7 := Lib.hid hz4; clear hz4
    replace HM := Lib.hid (ifT (bne_iff_ne.2 HZ7.out) HM.out)
    obtain rfl := Option.some.inj HM.out
    go_wp2_with fail
    refine leave_marks (B := w.heap.size) _ _ HMK.out (fun W' => results_tmp2 rfl _ _ _) (fun W' hk => ⟨_, (by first | (rw [errV_pos _ HZ7.out]; rfl) | rw [errV_pos _ HZ7.out]), World.ownsRow_nil _ _ _ _, hk.below HD.out (Nat.le_refl _) (Nat.le_refl _)⟩)
end Go.Proofs.YtabkmceajgpdjaaDoor
