import Derived.Test.YtgnbholhgcbhfaaT3
import Derived.Test.YtgnbholhgcbhfaaGF
import Derived.Test.YtgnbholhgcbhfaaWi
set_option linter.all false
set_option maxRecDepth 100000
namespace Go.Proofs.Ytgnbholhgcbhfaa
open Go.RowKit
def L3_TreeJordan (F : Nat) (v0 : Int) (v1 : List (Int × Int)) : Option (Bool) := (L3_treeFact F ).bind fun y1 => (if y1 = true then (tree_Middle F (v0) (v1)).bind fun y2 => (if (y2.2.2 != 0) = true then (if (((y2.1).length : Int) == 0) = true then if (y2.2.1 == 0) = true then some true else some false else some false).bind fun b3 => some (b3) else (tree_Long F (v0) (v1)).bind fun y4 => ((if (y4.2 != 0) = true then some true else (R1_All F (y2.1) (0) ((wrap64 (v0 - 1)))).bind fun y6 => if y6 = true then some false else some true).bind fun b5 => if b5 = true then some (false) else (if (((y2.1).length : Int) == 1) = true then (if (y4.1 == (wrap64 (2 * y2.2.1))) = true then some true else some false).bind fun b7 => some (b7) else ((if (((y2.1).length : Int) == 2) = true then (ix y2.1 0).bind fun y10 => (ix y2.1 1).bind fun y11 => (R1_Beside F (v1) (y10) (y11)).bind fun y12 => if y12 = true then some true else some false else some false).bind fun b9 => if b9 = true then if (y4.1 == (wrap64 ((wrap64 (2 * y2.2.1)) - 1))) = true then some true else some false else some false).bind fun b8 => some (b8)))) else some (false))
set_option maxRecDepth 100000 in
set_option maxHeartbeats 4000000 in
theorem L3_TreeJordan_ok {F : Nat} {v0 : Int} {v1 : List (Int × Int)} {A1 : Option Addr} {r : Bool} (w : World) (cap1 : Nat) (hr1 : ReadsL w w.heap.size A1 v1) (h : L3_TreeJordan F v0 v1 = some r) :
    Calls Try.prog 5 #[.int .i64 v0, .slice A1 v1.length cap1] w fun e w' => e = .returned (.bool r) ∧ Below w.heap.size w w' := by
  have HR1 := Lib.hid hr1; clear hr1
  have HD := Lib.hid (Below.refl w.heap.size w)
  have HOA := Lib.hid (HP.nil (W := w) (B := w.heap.size))
  unfold L3_TreeJordan at h
  have HM := Lib.hid h; clear h
  go_enter Try.func5, Try.ntmps5
  obtain ⟨y3, hy1, hm⟩ := obind HM.out
  replace HM := Lib.hid hm; clear hm
  have HC2 := L3_treeFact_ok w  hy1
  clear hy1
  replace HC2 := Lib.hid HC2
  go_wp2_with fail
  refine HC2.out.mono ?_; rintro e W4 ⟨rfl, hd⟩
  replace HOA := Lib.hid (HOA.out.below hd)
  replace HD := Lib.hid (HD.out.trans (hd.mono HD.out.size))
  clear hd
  cases y3
  · replace HM := Lib.hid (ifF Bool.false_ne_true HM.out)
    obtain rfl := Option.some.inj HM.out
    go_wp2_with fail
    go_ret
    exact ⟨rfl, HD.out⟩
  · replace HM := Lib.hid (ifT rfl HM.out)
    obtain ⟨⟨y7, y8, y9⟩, hy5, hm⟩ := obind HM.out
    dsimp only at hm
    replace HM := Lib.hid hm; clear hm
    have HC6 := tree_Middle_ok W4 cap1 (rdL HD.out HR1.out) hy5
    clear hy5
    replace HC6 := Lib.hid HC6
    go_wp2_with fail
    refine HC6.out.mono ?_; rintro e W10 ⟨V11, rfl, ho, hd⟩
    replace HOA := Lib.hid (HOA.out.call hd HD.out.size ho); clear ho
    replace HD := Lib.hid (HD.out.trans (hd.mono HD.out.size))
    clear hd
    by_cases hz13 : y9 = 0
    · subst hz13
      try simp only [errV_zero]
      replace HM := Lib.hid (ifF (by decide) HM.out)
      obtain ⟨⟨y17, y18⟩, hy15, hm⟩ := obind HM.out
      dsimp only at hm
      replace HM := Lib.hid hm; clear hm
      have HC16 := tree_Long_ok W10 cap1 (rdL HD.out HR1.out) hy15
      clear hy15
      replace HC16 := Lib.hid HC16
      go_wp2_with fail
      refine HC16.out.mono ?_; rintro e W19 ⟨rfl, hd⟩
      replace HOA := Lib.hid (HOA.out.below hd)
      replace HD := Lib.hid (HD.out.trans (hd.mono HD.out.size))
      clear hd
      go_upto_region 8 with (fail)
      obtain ⟨b20, hb, hm⟩ := obind HM.out
      replace HM := Lib.hid hm; have HB21 := Lib.hid hb; clear hm hb
      go_cut [43] (fun uq wr => uq = .bool b20 ∧ Hid (Below W19.heap.size W19 wr))
      case first =>
        have HWC22 := Lib.hid (Below.refl W19.heap.size W19)
        by_cases hz23 : y18 = 0
        · subst hz23
          try simp only [errV_zero]
          replace HB21 := Lib.hid (ifF (by decide) HB21.out)
          obtain ⟨y27, hy25, hm⟩ := obind HB21.out
          replace HB21 := Lib.hid hm; clear hm
          obtain ⟨A28, cap29, he, _⟩ := HP.open_I HOA.out (List.Mem.head _)
          subst he
          have HC26 := R1_All_ok W19 cap29 (HP.rd_I HOA.out (List.Mem.head _)) hy25
          clear hy25
          replace HC26 := Lib.hid HC26
          cases y27
          · replace HB21 := Lib.hid (ifF Bool.false_ne_true HB21.out)
            cases Option.some.inj HB21.out
            go_wp2_with fail
            refine HC26.out.mono ?_; rintro e w' ⟨rfl, rfl⟩
            try go_wp2_with fail
            go_meet
            case rel => exact ⟨rfl, HWC22⟩
          · replace HB21 := Lib.hid (ifT rfl HB21.out)
            cases Option.some.inj HB21.out
            go_wp2_with fail
            refine HC26.out.mono ?_; rintro e w' ⟨rfl, rfl⟩
            try go_wp2_with fail
            go_meet
            case rel => exact ⟨rfl, HWC22⟩
        · try rw [errV_pos _ hz23]
          have HZ24 := Lib.hid hz23; clear hz23
          replace HB21 := Lib.hid (ifT (bne_iff_ne.2 HZ24.out) HB21.out)
          cases Option.some.inj HB21.out
          try go_wp2_with fail
          try simp only [← errV_pos _ HZ24.out]
          go_meet
          case rel => exact ⟨rfl, HWC22⟩
      case rest =>
        obtain ⟨rfl, HWC22⟩ := hcut
        rename World => W30
        have hd := HWC22.out
        replace HOA := Lib.hid (HOA.out.below hd)
        replace HD := Lib.hid (HD.out.trans (hd.mono HD.out.size))
        clear hd
        cases b20
        · replace HM := Lib.hid (ifF Bool.false_ne_true HM.out)
          obtain ⟨A31, cap32, he, _⟩ := HP.open_I HOA.out (List.Mem.head _)
          subst he
          rcases Bool.eq_false_or_eq_true (((y7).length : Int) == 1) with hc33 | hc33
          · replace HM := Lib.hid (ifT hc33 HM.out)
            have HK34 := Lib.hid hc33
            obtain ⟨b35, hb, hm⟩ := obind HM.out
            replace HM := Lib.hid hm; have HB36 := Lib.hid hb; clear hm hb
            rcases Bool.eq_false_or_eq_true (y17 == (wrap64 (2 * y8))) with hc37 | hc37
            · replace HB36 := Lib.hid (ifT hc37 HB36.out)
              have HK38 := Lib.hid hc37
              obtain rfl := Option.some.inj HB36.out
              obtain rfl := Option.some.inj HM.out
              go_wp2_with fail
              go_ret
              exact ⟨(by first | rfl | (refine congrArg (fun b => Ending.returned (Value.bool b)) ?_; first | (exact decide_eq_true (by omega)) | (exact decide_eq_false (by omega)) | (have q := hc33; rw [bne_iff_ne] at q ⊢; omega) | (have q := hc33; rw [bne_eq_false_iff_eq] at q ⊢; omega) | (have q := hc33; rw [beq_iff_eq] at q ⊢; omega) | (have q := hc33; rw [beq_eq_false_iff_ne] at q ⊢; omega) | (have q := hc37; rw [bne_iff_ne] at q ⊢; omega) | (have q := hc37; rw [bne_eq_false_iff_eq] at q ⊢; omega) | (have q := hc37; rw [beq_iff_eq] at q ⊢; omega) | (have q := hc37; rw [beq_eq_false_iff_ne] at q ⊢; omega) | exact hc33 | (rw [hc33]; rfl) | exact hc37 | (rw [hc37]; rfl))), HD.out⟩
            · replace HB36 := Lib.hid (ifF (bF hc37) HB36.out)
              have HK38 := Lib.hid hc37
              obtain rfl := Option.some.inj HB36.out
              obtain rfl := Option.some.inj HM.out
              go_wp2_with fail
              go_ret
              exact ⟨(by first | rfl | (refine congrArg (fun b => Ending.returned (Value.bool b)) ?_; first | (exact decide_eq_true (by omega)) | (exact decide_eq_false (by omega)) | (have q := hc33; rw [bne_iff_ne] at q ⊢; omega) | (have q := hc33; rw [bne_eq_false_iff_eq] at q ⊢; omega) | (have q := hc33; rw [beq_iff_eq] at q ⊢; omega) | (have q := hc33; rw [beq_eq_false_iff_ne] at q ⊢; omega) | (have q := hc37; rw [bne_iff_ne] at q ⊢; omega) | (have q := hc37; rw [bne_eq_false_iff_eq] at q ⊢; omega) | (have q := hc37; rw [beq_iff_eq] at q ⊢; omega) | (have q := hc37; rw [beq_eq_false_iff_ne] at q ⊢; omega) | exact hc33 | (rw [hc33]; rfl) | exact hc37 | (rw [hc37]; rfl))), HD.out⟩
          · replace HM := Lib.hid (ifF (bF hc33) HM.out)
            have HK34 := Lib.hid hc33
            try go_wp2_with fail
            try clear hc33
            obtain ⟨b39, hb, hm⟩ := obind HM.out
            replace HM := Lib.hid hm; have HB40 := Lib.hid hb; clear hm hb
            obtain ⟨b41, hb, hm⟩ := obind HB40.out
            replace HB40 := Lib.hid hm; have HB42 := Lib.hid hb; clear hm hb
            rcases Bool.eq_false_or_eq_true (((y7).length : Int) == 2) with hc43 | hc43
            · replace HB42 := Lib.hid (ifT hc43 HB42.out)
              have HK44 := Lib.hid hc43
              obtain ⟨y45, hy46, hm⟩ := obind HB42.out
              replace HB42 := Lib.hid hm; clear hm
              obtain ⟨b47, o48, ea49, _, f50, f51, f52⟩ := ReadsI.ix (HP.rd_I HOA.out (List.Mem.head _)) hy46
              cases ea49
              try simp only [Nat.zero_add, Nat.add_zero, Int.toNat_natCast, Int.toNat_zero, Int.toNat_one] at f52
              have f51n := f51; try norm_cast at f51n
              try rw [← HP.len_I HOA.out (List.Mem.head _)] at f51
              have HY54 := Lib.hid hy46; clear hy46
              obtain ⟨y55, hy56, hm⟩ := obind HB42.out
              replace HB42 := Lib.hid hm; clear hm
              obtain ⟨b57, o58, ea59, _, f60, f61, f62⟩ := ReadsI.ix (HP.rd_I HOA.out (List.Mem.head _)) hy56
              cases ea59
              try simp only [Nat.zero_add, Nat.add_zero, Int.toNat_natCast, Int.toNat_zero, Int.toNat_one] at f62
              have f61n := f61; try norm_cast at f61n
              try rw [← HP.len_I HOA.out (List.Mem.head _)] at f61
              have HY64 := Lib.hid hy56; clear hy56
              obtain ⟨y67, hy65, hm⟩ := obind HB42.out
              replace HB42 := Lib.hid hm; clear hm
              have HC66 := Lib.hid (fun m => R1_Beside_ok (W30.drewN m) cap1 (ReadsL.drewN' (rdL HD.out HR1.out) m) hy65)
              clear hy65
              cases y67
              · replace HB42 := Lib.hid (ifF Bool.false_ne_true HB42.out)
                obtain rfl := Option.some.inj HB42.out
                replace HB40 := Lib.hid (ifF (by first | exact Bool.false_ne_true | exact not_false) HB40.out)
                obtain rfl := Option.some.inj HB40.out
                go_quiet (first | (go_at_call 15; exact quiet_left (HC66.out _)))
                generalize hW : World.drewN W30 _ = W68
                have hd : Dr W30 W68 := ⟨_, hW.symm⟩
                clear hW
                try clear hc43 f50 f51 f52 f51n f60 f61 f62 f61n
                replace HOA := Lib.hid (HOA.out.below (hd.below _))
                replace HD := Lib.hid (HD.out.trans ((hd.below _).mono HD.out.size))
                clear hd
                obtain rfl := Option.some.inj HM.out
                go_wp2_with fail
                go_ret
                exact ⟨rfl, HD.out⟩
              · replace HB42 := Lib.hid (ifT rfl HB42.out)
                obtain rfl := Option.some.inj HB42.out
                replace HB40 := Lib.hid (ifT (by first | rfl | trivial) HB40.out)
                rcases Bool.eq_false_or_eq_true (y17 == (wrap64 ((wrap64 (2 * y8)) - 1))) with hc69 | hc69
                · replace HB40 := Lib.hid (ifT hc69 HB40.out)
                  have HK70 := Lib.hid hc69
                  obtain rfl := Option.some.inj HB40.out
                  go_quiet (first | (go_at_call 15; exact quiet_left (HC66.out _)))
                  generalize hW : World.drewN W30 _ = W71
                  have hd : Dr W30 W71 := ⟨_, hW.symm⟩
                  clear hW
                  try clear hc43 f50 f51 f52 f51n f60 f61 f62 f61n hc69
                  replace HOA := Lib.hid (HOA.out.below (hd.below _))
                  replace HD := Lib.hid (HD.out.trans ((hd.below _).mono HD.out.size))
                  clear hd
                  obtain rfl := Option.some.inj HM.out
                  go_wp2_with fail
                  go_ret
                  exact ⟨rfl, HD.out⟩
                · replace HB40 := Lib.hid (ifF (bF hc69) HB40.out)
                  have HK70 := Lib.hid hc69
                  obtain rfl := Option.some.inj HB40.out
                  go_quiet (first | (go_at_call 15; exact quiet_left (HC66.out _)))
                  generalize hW : World.drewN W30 _ = W72
                  have hd : Dr W30 W72 := ⟨_, hW.symm⟩
                  clear hW
                  try clear hc43 f50 f51 f52 f51n f60 f61 f62 f61n hc69
                  replace HOA := Lib.hid (HOA.out.below (hd.below _))
                  replace HD := Lib.hid (HD.out.trans ((hd.below _).mono HD.out.size))
                  clear hd
                  obtain rfl := Option.some.inj HM.out
                  go_wp2_with fail
                  go_ret
                  exact ⟨rfl, HD.out⟩
            · replace HB42 := Lib.hid (ifF (bF hc43) HB42.out)
              have HK44 := Lib.hid hc43
              obtain rfl := Option.some.inj HB42.out
              replace HB40 := Lib.hid (ifF (by first | exact Bool.false_ne_true | exact not_false) HB40.out)
              obtain rfl := Option.some.inj HB40.out
              go_quiet (fail)
              generalize hW : World.drewN W30 _ = W73
              have hd : Dr W30 W73 := ⟨_, hW.symm⟩
              clear hW
              try clear hc43
              replace HOA := Lib.hid (HOA.out.below (hd.below _))
              replace HD := Lib.hid (HD.out.trans ((hd.below _).mono HD.out.size))
              clear hd
              obtain rfl := Option.some.inj HM.out
              go_wp2_with fail
              go_ret
              exact ⟨rfl, HD.out⟩
        · replace HM := Lib.hid (ifT rfl HM.out)
          obtain rfl := Option.some.inj HM.out
          go_wp2_with fail
          go_ret
          exact ⟨rfl, HD.out⟩
    · try rw [errV_pos _ hz13]
      have HZ14 := Lib.hid hz13; clear hz13
      replace HM := Lib.hid (ifT (bne_iff_ne.2 HZ14.out) HM.out)
      obtain ⟨b74, hb, hm⟩ := obind HM.out
      replace HM := Lib.hid hm; have HB75 := Lib.hid hb; clear hm hb
      obtain ⟨A76, cap77, he, _⟩ := HP.open_I HOA.out (List.Mem.head _)
      subst he
      rcases Bool.eq_false_or_eq_true (((y7).length : Int) == 0) with hc78 | hc78
      · replace HB75 := Lib.hid (ifT hc78 HB75.out)
        have HK79 := Lib.hid hc78
        rcases Bool.eq_false_or_eq_true (y8 == 0) with hc80 | hc80
        · replace HB75 := Lib.hid (ifT hc80 HB75.out)
          have HK81 := Lib.hid hc80
          obtain rfl := Option.some.inj HB75.out
          obtain rfl := Option.some.inj HM.out
          go_wp2_with fail
          go_ret
          exact ⟨(by first | rfl | (refine congrArg (fun b => Ending.returned (Value.bool b)) ?_; first | (exact decide_eq_true (by omega)) | (exact decide_eq_false (by omega)) | (have q := hc78; rw [bne_iff_ne] at q ⊢; omega) | (have q := hc78; rw [bne_eq_false_iff_eq] at q ⊢; omega) | (have q := hc78; rw [beq_iff_eq] at q ⊢; omega) | (have q := hc78; rw [beq_eq_false_iff_ne] at q ⊢; omega) | (have q := hc80; rw [bne_iff_ne] at q ⊢; omega) | (have q := hc80; rw [bne_eq_false_iff_eq] at q ⊢; omega) | (have q := hc80; rw [beq_iff_eq] at q ⊢; omega) | (have q := hc80; rw [beq_eq_false_iff_ne] at q ⊢; omega) | exact hc78 | (rw [hc78]; rfl) | exact hc80 | (rw [hc80]; rfl))), HD.out⟩
        · replace HB75 := Lib.hid (ifF (bF hc80) HB75.out)
          have HK81 := Lib.hid hc80
          obtain rfl := Option.some.inj HB75.out
          obtain rfl := Option.some.inj HM.out
          go_wp2_with fail
          go_ret
          exact ⟨(by first | rfl | (refine congrArg (fun b => Ending.returned (Value.bool b)) ?_; first | (exact decide_eq_true (by omega)) | (exact decide_eq_false (by omega)) | (have q := hc78; rw [bne_iff_ne] at q ⊢; omega) | (have q := hc78; rw [bne_eq_false_iff_eq] at q ⊢; omega) | (have q := hc78; rw [beq_iff_eq] at q ⊢; omega) | (have q := hc78; rw [beq_eq_false_iff_ne] at q ⊢; omega) | (have q := hc80; rw [bne_iff_ne] at q ⊢; omega) | (have q := hc80; rw [bne_eq_false_iff_eq] at q ⊢; omega) | (have q := hc80; rw [beq_iff_eq] at q ⊢; omega) | (have q := hc80; rw [beq_eq_false_iff_ne] at q ⊢; omega) | exact hc78 | (rw [hc78]; rfl) | exact hc80 | (rw [hc80]; rfl))), HD.out⟩
      · replace HB75 := Lib.hid (ifF (bF hc78) HB75.out)
        have HK79 := Lib.hid hc78
        obtain rfl := Option.some.inj HB75.out
        obtain rfl := Option.some.inj HM.out
        go_wp2_with fail
        go_ret
        exact ⟨(by first | rfl | (refine congrArg (fun b => Ending.returned (Value.bool b)) ?_; first | (exact decide_eq_true (by omega)) | (exact decide_eq_false (by omega)) | (have q := hc78; rw [bne_iff_ne] at q ⊢; omega) | (have q := hc78; rw [bne_eq_false_iff_eq] at q ⊢; omega) | (have q := hc78; rw [beq_iff_eq] at q ⊢; omega) | (have q := hc78; rw [beq_eq_false_iff_ne] at q ⊢; omega) | exact hc78 | (rw [hc78]; rfl))), HD.out⟩
def L3_TreeLeaves_L1 (F : Nat) (v0 : Int) (v1 : List (Int × Int)) : Nat → (Int) → (Int) → Option (Int × Int)
  | 0, _, _ => none
  | g+1, v5, v6 => if v6 < v0 then ((R1_Near F (v0) (v1) (v6)).bind fun y6 => if ((y6.length : Int) == 1) = true then L3_TreeLeaves_L1 F v0 v1 g ((wrap64 (v5 + 1))) ((wrap64 (v6 + 1))) else L3_TreeLeaves_L1 F v0 v1 g (v5) ((wrap64 (v6 + 1)))) else some (v5, v6)
theorem L3_TreeLeaves_L1_0 (F : Nat) (v0 : Int) (v1 : List (Int × Int)) (v5 : Int) (v6 : Int) : L3_TreeLeaves_L1 F v0 v1 0 v5 v6 = none := by rw [L3_TreeLeaves_L1]
theorem L3_TreeLeaves_L1_s (F g : Nat) (v0 : Int) (v1 : List (Int × Int)) (v5 : Int) (v6 : Int) : L3_TreeLeaves_L1 F v0 v1 (g+1) v5 v6 = (if v6 < v0 then ((R1_Near F (v0) (v1) (v6)).bind fun y6 => if ((y6.length : Int) == 1) = true then L3_TreeLeaves_L1 F v0 v1 g ((wrap64 (v5 + 1))) ((wrap64 (v6 + 1))) else L3_TreeLeaves_L1 F v0 v1 g (v5) ((wrap64 (v6 + 1)))) else some (v5, v6)) := by rw [L3_TreeLeaves_L1]
def L3_TreeLeaves (F : Nat) (v0 : Int) (v1 : List (Int × Int)) (v2 : Int) : Option (Bool) := (L3_treeFact F ).bind fun y1 => (if y1 = true then ((tree_Check F (v0) (v1)).bind fun y2 => if (y2 != 0) = true then ((R3_Tree F (v0) (v1)).bind fun y4 => if (y4 != 0) = true then some true else some false).bind fun b3 => some (b3) else ((R3_Tree F (v0) (v1)).bind fun y5 => if (y5 != 0) = true then some (false) else (L3_TreeLeaves_L1 F (v0) (v1) F (0) (0)).bind fun o7 => ((if 1 < v0 then if o7.1 < 2 then some true else some false else some false).bind fun b8 => if b8 = true then some (false) else ((((L3_in F (v2) (0) ((wrap64 (v0 - 1)))).bind fun y11 => if y11 = true then if v0 < 2 then some true else some false else some true).bind fun b10 => if b10 = true then some true else (R1_Near F (v0) (v1) (v2)).bind fun y12 => if ((y12.length : Int) != 1) = true then some true else some false).bind fun b9 => if b9 = true then some (true) else (graph_Without F (v0) (v1) (v2)).bind fun y13 => (if (y13.2 == 0) = true then (tree_Check F ((wrap64 (v0 - 1))) (y13.1)).bind fun y15 => if (y15 == 0) = true then some true else some false else some false).bind fun b14 => some (b14))))) else some (false))
set_option maxRecDepth 100000 in
set_option maxHeartbeats 4000000 in
theorem L3_TreeLeaves_ok {F : Nat} {v0 : Int} {v1 : List (Int × Int)} {A1 : Option Addr} {v2 : Int} {r : Bool} (w : World) (cap1 : Nat) (hr1 : ReadsL w w.heap.size A1 v1) (h : L3_TreeLeaves F v0 v1 v2 = some r) :
    Calls Try.prog 6 #[.int .i64 v0, .slice A1 v1.length cap1, .int .i64 v2] w fun e w' => e = .returned (.bool r) ∧ Below w.heap.size w w' := by
  have HR1 := Lib.hid hr1; clear hr1
  have HD := Lib.hid (Below.refl w.heap.size w)
  have HOA := Lib.hid (HP.nil (W := w) (B := w.heap.size))
  unfold L3_TreeLeaves at h
  have HM := Lib.hid h; clear h
  go_enter Try.func6, Try.ntmps6
  obtain ⟨y3, hy1, hm⟩ := obind HM.out
  replace HM := Lib.hid hm; clear hm
  have HC2 := L3_treeFact_ok w  hy1
  clear hy1
  replace HC2 := Lib.hid HC2
  go_wp2_with fail
  refine HC2.out.mono ?_; rintro e W4 ⟨rfl, hd⟩
  replace HOA := Lib.hid (HOA.out.below hd)
  replace HD := Lib.hid (HD.out.trans (hd.mono HD.out.size))
  clear hd
  cases y3
  · replace HM := Lib.hid (ifF Bool.false_ne_true HM.out)
    obtain rfl := Option.some.inj HM.out
    go_wp2_with fail
    go_ret
    exact ⟨rfl, HD.out⟩
  · replace HM := Lib.hid (ifT rfl HM.out)
    obtain ⟨y7, hy5, hm⟩ := obind HM.out
    replace HM := Lib.hid hm; clear hm
    have HC6 := tree_Check_ok W4 cap1 (rdL HD.out HR1.out) hy5
    clear hy5
    by_cases hz8 : y7 = 0
    · subst hz8
      rw [errV_zero] at HC6; replace HC6 := Lib.hid HC6
      go_wp2_with fail
      refine HC6.out.mono ?_; rintro e W9 ⟨rfl, hd⟩
      replace HOA := Lib.hid (HOA.out.below hd)
      replace HD := Lib.hid (HD.out.trans (hd.mono HD.out.size))
      clear hd
      replace HM := Lib.hid (ifF (by decide) HM.out)
      obtain ⟨y14, hy12, hm⟩ := obind HM.out
      replace HM := Lib.hid hm; clear hm
      have HC13 := R3_Tree_ok W9 cap1 (rdL HD.out HR1.out) hy12
      clear hy12
      replace HC13 := Lib.hid HC13
      go_wp2_with fail
      refine HC13.out.mono ?_; rintro e W15 ⟨rfl, hd⟩
      replace HOA := Lib.hid (HOA.out.below hd)
      replace HD := Lib.hid (HD.out.trans (hd.mono HD.out.size))
      clear hd
      rcases Bool.eq_false_or_eq_true (y14 != 0) with hc16 | hc16
      · replace HM := Lib.hid (ifT hc16 HM.out)
        have HK17 := Lib.hid hc16
        obtain rfl := Option.some.inj HM.out
        go_wp2_with fail
        go_ret
        exact ⟨(by first | rfl | (refine congrArg (fun b => Ending.returned (Value.bool b)) ?_; first | (exact decide_eq_true (by omega)) | (exact decide_eq_false (by omega)) | (have q := hc16; rw [bne_iff_ne] at q ⊢; omega) | (have q := hc16; rw [bne_eq_false_iff_eq] at q ⊢; omega) | (have q := hc16; rw [beq_iff_eq] at q ⊢; omega) | (have q := hc16; rw [beq_eq_false_iff_ne] at q ⊢; omega) | exact hc16 | (rw [hc16]; rfl))), HD.out⟩
      · replace HM := Lib.hid (ifF (bF hc16) HM.out)
        have HK17 := Lib.hid hc16
        go_wp2_with fail
        try clear hc16
        obtain ⟨o18, ho, hm⟩ := obind HM.out
        replace HM := Lib.hid hm; have HL1 := Lib.hid ho; clear hm ho
        go_loopg [8, 9] F (fun gg ux21 ux22 wr => ∃ (x19 : Int) (x20 : Int), ux21 = .int .i64 x19 ∧ ux22 = .int .i64 x20 ∧ Hid (Below W15.heap.size W15 wr) ∧ Hid (L3_TreeLeaves_L1 F (v0) (v1) gg x19 x20 = some o18))
        case atStart => exact ⟨0, 0, rfl, rfl, (Lib.hid (Below.refl _ _)), HL1⟩
        case round =>
          obtain ⟨x19, x20, rfl, rfl, HW1, HL1⟩ := hrel
          rename World => W23
          have hd := HW1.out
          replace HOA := Lib.hid (HOA.out.below hd)
          replace HD := Lib.hid (HD.out.trans (hd.mono HD.out.size))
          clear hd
          cases gk with
          | zero => exact absurd ((L3_TreeLeaves_L1_0 ..).symm.trans HL1.out) (by intro h; cases h)
          | succ g1 =>
            replace HL1 := Lib.hid ((L3_TreeLeaves_L1_s ..).symm.trans HL1.out)
            by_cases hc24 : x20 < v0
            · replace HL1 := Lib.hid (ifT hc24 HL1.out)
              have HK25 := Lib.hid hc24
              obtain ⟨y28, hy26, hm⟩ := obind HL1.out
              replace HL1 := Lib.hid hm; clear hm
              have HC27 := R1_Near_ok W23 cap1 (rdL HD.out HR1.out) hy26
              clear hy26
              replace HC27 := Lib.hid HC27
              go_wp2_with fail
              refine HC27.out.mono ?_; rintro e W29 ⟨V30, rfl, ho, hd⟩
              try clear hc24
              replace HOA := Lib.hid (HOA.out.call hd HD.out.size ho); clear ho
              replace HD := Lib.hid (HD.out.trans (hd.mono HD.out.size))
              replace HW1 := Lib.hid (HW1.out.trans (hd.mono HW1.out.size))
              clear hd
              obtain ⟨A32, cap33, he, _⟩ := HP.open_I HOA.out (List.Mem.head _)
              subst he
              rcases Bool.eq_false_or_eq_true (((y28).length : Int) == 1) with hc34 | hc34
              · replace HL1 := Lib.hid (ifT hc34 HL1.out)
                have HK35 := Lib.hid hc34
                go_wp2_with fail
                try clear hc34
                go_roundg g1
                case measure => omega
                case rel => exact ⟨(wrap64 (x19 + 1)), (wrap64 (x20 + 1)), rfl, rfl, HW1, HL1⟩
              · replace HL1 := Lib.hid (ifF (bF hc34) HL1.out)
                have HK35 := Lib.hid hc34
                go_wp2_with fail
                try clear hc34
                go_roundg g1
                case measure => omega
                case rel => exact ⟨x19, (wrap64 (x20 + 1)), rfl, rfl, HW1, HL1⟩
            · replace HL1 := Lib.hid (ifF hc24 HL1.out)
              have hc24d := decide_eq_false hc24
              have HK25 := Lib.hid hc24
              obtain rfl := Option.some.inj HL1.out
              have hm := HM.out; try dsimp only at hm
              replace HM := Lib.hid hm; clear hm
              go_upto_region 14 with (fail)
              try clear hc24 hc24d
              obtain ⟨b36, hb, hm⟩ := obind HM.out
              replace HM := Lib.hid hm; have HB37 := Lib.hid hb; clear hm hb
              go_cut [45] (fun uq wr => uq = .bool b36 ∧ Hid (Below W23.heap.size W23 wr))
              case first =>
                have HWC38 := Lib.hid (Below.refl W23.heap.size W23)
                by_cases hc39 : 1 < v0
                · replace HB37 := Lib.hid (ifT hc39 HB37.out)
                  have HK40 := Lib.hid hc39
                  by_cases hc41 : x19 < 2
                  · replace HB37 := Lib.hid (ifT hc41 HB37.out)
                    have HK42 := Lib.hid hc41
                    cases Option.some.inj HB37.out
                    try go_wp2_with fail
                    go_meet
                    case rel => exact ⟨rfl, HWC38⟩
                  · replace HB37 := Lib.hid (ifF hc41 HB37.out)
                    have hc41d := decide_eq_false hc41
                    have HK42 := Lib.hid hc41
                    cases Option.some.inj HB37.out
                    try go_wp2_with fail
                    go_meet
                    case rel => exact ⟨rfl, HWC38⟩
                · replace HB37 := Lib.hid (ifF hc39 HB37.out)
                  have hc39d := decide_eq_false hc39
                  have HK40 := Lib.hid hc39
                  cases Option.some.inj HB37.out
                  try go_wp2_with fail
                  go_meet
                  case rel => exact ⟨rfl, HWC38⟩
              case rest =>
                obtain ⟨rfl, HWC38⟩ := hcut
                rename World => W43
                have hd := HWC38.out
                replace HOA := Lib.hid (HOA.out.below hd)
                replace HD := Lib.hid (HD.out.trans (hd.mono HD.out.size))
                clear hd
                cases b36
                · replace HM := Lib.hid (ifF Bool.false_ne_true HM.out)
                  go_upto_region 16 with (fail)
                  obtain ⟨b44, hb, hm⟩ := obind HM.out
                  replace HM := Lib.hid hm; have HB45 := Lib.hid hb; clear hm hb
                  go_cut [62] (fun uq wr => uq = .bool b44 ∧ Hid (Below W43.heap.size W43 wr))
                  case first =>
                    have HWC46 := Lib.hid (Below.refl W43.heap.size W43)
                    obtain ⟨b47, hb, hm⟩ := obind HB45.out
                    replace HB45 := Lib.hid hm; have HB48 := Lib.hid hb; clear hm hb
                    obtain ⟨y51, hy49, hm⟩ := obind HB48.out
                    replace HB48 := Lib.hid hm; clear hm
                    have HC50 := L3_in_ok W43  hy49
                    clear hy49
                    replace HC50 := Lib.hid HC50
                    cases y51
                    · replace HB48 := Lib.hid (ifF Bool.false_ne_true HB48.out)
                      obtain rfl := Option.some.inj HB48.out
                      replace HB45 := Lib.hid (ifT (by first | rfl | trivial) HB45.out)
                      cases Option.some.inj HB45.out
                      go_wp2_with fail
                      refine HC50.out.mono ?_; rintro e w' ⟨rfl, rfl⟩
                      try go_wp2_with fail
                      go_meet
                      case rel => exact ⟨rfl, HWC46⟩
                    · replace HB48 := Lib.hid (ifT rfl HB48.out)
                      by_cases hc52 : v0 < 2
                      · replace HB48 := Lib.hid (ifT hc52 HB48.out)
                        have HK53 := Lib.hid hc52
                        obtain rfl := Option.some.inj HB48.out
                        replace HB45 := Lib.hid (ifT (by first | rfl | trivial) HB45.out)
                        cases Option.some.inj HB45.out
                        go_wp2_with fail
                        refine HC50.out.mono ?_; rintro e w' ⟨rfl, rfl⟩
                        try go_wp2_with fail
                        go_meet
                        case rel => exact ⟨rfl, HWC46⟩
                      · replace HB48 := Lib.hid (ifF hc52 HB48.out)
                        have hc52d := decide_eq_false hc52
                        have HK53 := Lib.hid hc52
                        obtain rfl := Option.some.inj HB48.out
                        replace HB45 := Lib.hid (ifF (by first | exact Bool.false_ne_true | exact not_false) HB45.out)
                        obtain ⟨y56, hy54, hm⟩ := obind HB45.out
                        replace HB45 := Lib.hid hm; clear hm
                        have HC55 := R1_Near_ok W43 cap1 (rdL HD.out HR1.out) hy54
                        clear hy54
                        replace HC55 := Lib.hid HC55
                        go_wp2_with fail
                        refine HC50.out.mono ?_; rintro e w' ⟨rfl, rfl⟩
                        go_wp2_with fail
                        refine HC55.out.mono ?_; rintro e W57 ⟨V58, rfl, ho, hd⟩
                        try clear hc52 hc52d
                        replace HOA := Lib.hid (HOA.out.call hd HD.out.size ho); clear ho
                        replace HD := Lib.hid (HD.out.trans (hd.mono HD.out.size))
                        replace HWC46 := Lib.hid (HWC46.out.trans (hd.mono HWC46.out.size))
                        clear hd
                        obtain ⟨A60, cap61, he, _⟩ := HP.open_I HOA.out (List.Mem.head _)
                        subst he
                        rcases Bool.eq_false_or_eq_true (((y56).length : Int) != 1) with hc62 | hc62
                        · replace HB45 := Lib.hid (ifT hc62 HB45.out)
                          have HK63 := Lib.hid hc62
                          cases Option.some.inj HB45.out
                          try go_wp2_with fail
                          go_meet
                          case rel => exact ⟨rfl, HWC46⟩
                        · replace HB45 := Lib.hid (ifF (bF hc62) HB45.out)
                          have HK63 := Lib.hid hc62
                          cases Option.some.inj HB45.out
                          try go_wp2_with fail
                          go_meet
                          case rel => exact ⟨rfl, HWC46⟩
                  case rest =>
                    obtain ⟨rfl, HWC46⟩ := hcut
                    rename World => W64
                    have hd := HWC46.out
                    replace HOA := Lib.hid (HOA.out.below hd)
                    replace HD := Lib.hid (HD.out.trans (hd.mono HD.out.size))
                    clear hd
                    cases b44
                    · replace HM := Lib.hid (ifF Bool.false_ne_true HM.out)
                      obtain ⟨⟨y67, y68⟩, hy65, hm⟩ := obind HM.out
                      dsimp only at hm
                      replace HM := Lib.hid hm; clear hm
                      have HC66 := graph_Without_ok W64 cap1 (rdL HD.out HR1.out) hy65
                      clear hy65
                      replace HC66 := Lib.hid HC66
                      go_wp2_with fail
                      refine HC66.out.mono ?_; rintro e W69 ⟨V70, rfl, ho, hd⟩
                      replace HOA := Lib.hid (HOA.out.call hd HD.out.size ho); clear ho
                      replace HD := Lib.hid (HD.out.trans (hd.mono HD.out.size))
                      clear hd
                      obtain ⟨b72, hb, hm⟩ := obind HM.out
                      replace HM := Lib.hid hm; have HB73 := Lib.hid hb; clear hm hb
                      by_cases hz74 : y68 = 0
                      · subst hz74
                        try simp only [errV_zero]
                        replace HB73 := Lib.hid (ifT (by decide) HB73.out)
                        obtain ⟨y78, hy76, hm⟩ := obind HB73.out
                        replace HB73 := Lib.hid hm; clear hm
                        obtain ⟨A79, cap80, he, _⟩ := HP.open_L HOA.out (List.Mem.head _)
                        subst he
                        have HC77 := tree_Check_ok W69 cap80 (HP.rd_L HOA.out (List.Mem.head _)) hy76
                        clear hy76
                        by_cases hz81 : y78 = 0
                        · subst hz81
                          rw [errV_zero] at HC77; replace HC77 := Lib.hid HC77
                          go_wp2_with fail
                          refine HC77.out.mono ?_; rintro e W82 ⟨rfl, hd⟩
                          replace HOA := Lib.hid (HOA.out.below hd)
                          replace HD := Lib.hid (HD.out.trans (hd.mono HD.out.size))
                          clear hd
                          replace HB73 := Lib.hid (ifT (by decide) HB73.out)
                          obtain rfl := Option.some.inj HB73.out
                          obtain rfl := Option.some.inj HM.out
                          go_wp2_with fail
                          go_ret
                          exact ⟨rfl, HD.out⟩
                        · rw [errV_pos _ hz81] at HC77; replace HC77 := Lib.hid HC77
                          go_wp2_with fail
                          refine HC77.out.mono ?_; rintro e W83 ⟨rfl, hd⟩
                          replace HOA := Lib.hid (HOA.out.below hd)
                          replace HD := Lib.hid (HD.out.trans (hd.mono HD.out.size))
                          clear hd
                          have HZ84 := Lib.hid hz81; clear hz81
                          replace HB73 := Lib.hid (ifF (fun h => HZ84.out (eq_of_beq h)) HB73.out)
                          obtain rfl := Option.some.inj HB73.out
                          obtain rfl := Option.some.inj HM.out
                          go_wp2_with fail
                          go_ret
                          exact ⟨rfl, HD.out⟩
                      · try rw [errV_pos _ hz74]
                        have HZ75 := Lib.hid hz74; clear hz74
                        replace HB73 := Lib.hid (ifF (fun h => HZ75.out (eq_of_beq h)) HB73.out)
                        obtain rfl := Option.some.inj HB73.out
                        obtain rfl := Option.some.inj HM.out
                        go_wp2_with fail
                        go_ret
                        exact ⟨rfl, HD.out⟩
                    · replace HM := Lib.hid (ifT rfl HM.out)
                      obtain rfl := Option.some.inj HM.out
                      go_wp2_with fail
                      go_ret
                      exact ⟨rfl, HD.out⟩
                · replace HM := Lib.hid (ifT rfl HM.out)
                  obtain rfl := Option.some.inj HM.out
                  go_wp2_with fail
                  go_ret
                  exact ⟨rfl, HD.out⟩
    · rw [errV_pos _ hz8] at HC6; replace HC6 := Lib.hid HC6
      go_wp2_with fail
      refine HC6.out.mono ?_; rintro e W10 ⟨rfl, hd⟩
      replace HOA := Lib.hid (HOA.out.below hd)
      replace HD := Lib.hid (HD.out.trans (hd.mono HD.out.size))
      clear hd
      have HZ11 := Lib.hid hz8; clear hz8
      replace HM := Lib.hid (ifT (bne_iff_ne.2 HZ11.out) HM.out)
      obtain ⟨b85, hb, hm⟩ := obind HM.out
      replace HM := Lib.hid hm; have HB86 := Lib.hid hb; clear hm hb
      obtain ⟨y89, hy87, hm⟩ := obind HB86.out
      replace HB86 := Lib.hid hm; clear hm
      have HC88 := R3_Tree_ok W10 cap1 (rdL HD.out HR1.out) hy87
      clear hy87
      replace HC88 := Lib.hid HC88
      go_wp2_with fail
      refine HC88.out.mono ?_; rintro e W90 ⟨rfl, hd⟩
      replace HOA := Lib.hid (HOA.out.below hd)
      replace HD := Lib.hid (HD.out.trans (hd.mono HD.out.size))
      clear hd
      rcases Bool.eq_false_or_eq_true (y89 != 0) with hc91 | hc91
      · replace HB86 := Lib.hid (ifT hc91 HB86.out)
        have HK92 := Lib.hid hc91
        obtain rfl := Option.some.inj HB86.out
        obtain rfl := Option.some.inj HM.out
        go_wp2_with fail
        go_ret
        exact ⟨(by first | rfl | (refine congrArg (fun b => Ending.returned (Value.bool b)) ?_; first | (exact decide_eq_true (by omega)) | (exact decide_eq_false (by omega)) | (have q := hc91; rw [bne_iff_ne] at q ⊢; omega) | (have q := hc91; rw [bne_eq_false_iff_eq] at q ⊢; omega) | (have q := hc91; rw [beq_iff_eq] at q ⊢; omega) | (have q := hc91; rw [beq_eq_false_iff_ne] at q ⊢; omega) | exact hc91 | (rw [hc91]; rfl))), HD.out⟩
      · replace HB86 := Lib.hid (ifF (bF hc91) HB86.out)
        have HK92 := Lib.hid hc91
        obtain rfl := Option.some.inj HB86.out
        obtain rfl := Option.some.inj HM.out
        go_wp2_with fail
        go_ret
        exact ⟨(by first | rfl | (refine congrArg (fun b => Ending.returned (Value.bool b)) ?_; first | (exact decide_eq_true (by omega)) | (exact decide_eq_false (by omega)) | (have q := hc91; rw [bne_iff_ne] at q ⊢; omega) | (have q := hc91; rw [bne_eq_false_iff_eq] at q ⊢; omega) | (have q := hc91; rw [beq_iff_eq] at q ⊢; omega) | (have q := hc91; rw [beq_eq_false_iff_ne] at q ⊢; omega) | exact hc91 | (rw [hc91]; rfl))), HD.out⟩
end Go.Proofs.Ytgnbholhgcbhfaa
