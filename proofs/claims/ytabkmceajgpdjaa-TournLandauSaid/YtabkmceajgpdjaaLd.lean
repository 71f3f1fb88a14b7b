import Derived.Test.YtabkmceajgpdjaaD1
import Derived.Test.YtabkmceajgpdjaaB
set_option linter.all false
set_option maxRecDepth 100000
namespace Go.Proofs.Ytabkmceajgpdjaa
open Go.RowKit
def R1_Degrees (F : Nat) (v0 : List Int) : Option (Int) := (if (((v0).length : Int) == 0) = true then some (5) else (if 8 < ((v0).length : Int) then some (4) else ((R1_All F (v0) (0) (7)).bind fun y1 => if y1 = true then some (0) else some (1))))
set_option maxRecDepth 100000 in
set_option maxHeartbeats 4000000 in
theorem R1_Degrees_ok {F : Nat} {v0 : List Int} {A0 : Option Addr} {r : Int} (w : World) (cap0 : Nat) (hr0 : ReadsI w w.heap.size A0 v0) (h : R1_Degrees F v0 = some r) :
    Calls Try.prog 21 #[.slice A0 v0.length cap0] w fun e w' => e = .returned (.int .i64 r) ∧ w = w' := by
  have HR0 := Lib.hid hr0; clear hr0
  unfold R1_Degrees at h
  have HM := Lib.hid h; clear h
  go_enter Try.func21, Try.ntmps21
  rcases Bool.eq_false_or_eq_true (((v0).length : Int) == 0) with hc1 | hc1
  · replace HM := Lib.hid (ifT hc1 HM.out)
    have HK2 := Lib.hid hc1
    obtain rfl := Option.some.inj HM.out
    go_wp2_with fail
    try clear hc1
    go_ret
    exact ⟨rfl, rfl⟩
  · replace HM := Lib.hid (ifF (bF hc1) HM.out)
    have HK2 := Lib.hid hc1
    by_cases hc3 : 8 < ((v0).length : Int)
    · replace HM := Lib.hid (ifT hc3 HM.out)
      have HK4 := Lib.hid hc3
      have hc3n := hc3; try norm_cast at hc3n
      obtain rfl := Option.some.inj HM.out
      go_wp2_with fail
      try clear hc1 hc3 hc3n
      go_ret
      exact ⟨rfl, rfl⟩
    · replace HM := Lib.hid (ifF hc3 HM.out)
      have hc3d := decide_eq_false hc3
      have HK4 := Lib.hid hc3
      have hc3n := hc3; try norm_cast at hc3n
      obtain ⟨y7, hy5, hm⟩ := obind HM.out
      replace HM := Lib.hid hm; clear hm
      have HC6 := R1_All_ok w cap0 HR0.out hy5
      clear hy5
      replace HC6 := Lib.hid HC6
      cases y7
      · replace HM := Lib.hid (ifF Bool.false_ne_true HM.out)
        obtain rfl := Option.some.inj HM.out
        go_wp2_with fail
        refine HC6.out.mono ?_; rintro e w' ⟨rfl, rfl⟩
        go_wp2_with fail
        try clear hc1 hc3 hc3n hc3d
        go_ret
        exact ⟨rfl, rfl⟩
      · replace HM := Lib.hid (ifT rfl HM.out)
        obtain rfl := Option.some.inj HM.out
        go_wp2_with fail
        refine HC6.out.mono ?_; rintro e w' ⟨rfl, rfl⟩
        go_wp2_with fail
        try clear hc1 hc3 hc3n hc3d
        go_ret
        exact ⟨rfl, rfl⟩
def L4_TournLandau_L2 (F : Nat) (v2 : List Int) (v13 : List Int) : Nat → (Int) → (Int) → Option (Int × Int)
  | 0, _, _ => none
  | g+1, v14, v15 => if v15 < ((v13).length : Int) then (ix v13 v15).bind fun y10 => (ix v2 y10).bind fun y11 => L4_TournLandau_L2 F v2 v13 g ((wrap64 (v14 + y11))) ((wrap64 (v15 + 1))) else some (v14, v15)
theorem L4_TournLandau_L2_0 (F : Nat) (v2 : List Int) (v13 : List Int) (v14 : Int) (v15 : Int) : L4_TournLandau_L2 F v2 v13 0 v14 v15 = none := by rw [L4_TournLandau_L2]
theorem L4_TournLandau_L2_s (F g : Nat) (v2 : List Int) (v13 : List Int) (v14 : Int) (v15 : Int) : L4_TournLandau_L2 F v2 v13 (g+1) v14 v15 = (if v15 < ((v13).length : Int) then (ix v13 v15).bind fun y10 => (ix v2 y10).bind fun y11 => L4_TournLandau_L2 F v2 v13 g ((wrap64 (v14 + y11))) ((wrap64 (v15 + 1))) else some (v14, v15)) := by rw [L4_TournLandau_L2]
def L4_TournLandau_L1 (F : Nat) (v2 : List Int) (v11 : Int) : Nat → (Bool) → (Int) → Option (Bool × Int)
  | 0, _, _ => none
  | g+1, v10, v12 => (R3_Power F (v11)).bind fun y8 => if v12 < y8 then (R3_Members F (v12)).bind fun y9 => (L4_TournLandau_L2 F (v2) (y9) F (0) (0)).bind fun o12 => ((if o12.1 < (wrap64 (Int.tdiv (wrap64 (((y9).length : Int) * (wrap64 (((y9).length : Int) - 1)))) 2)) then some true else if (((y9).length : Int) == v11) = true then if (o12.1 != (wrap64 (Int.tdiv (wrap64 (((y9).length : Int) * (wrap64 (((y9).length : Int) - 1)))) 2))) = true then some true else some false else some false).bind fun b13 => if b13 = true then L4_TournLandau_L1 F v2 v11 g (false) ((wrap64 (v12 + 1))) else L4_TournLandau_L1 F v2 v11 g (v10) ((wrap64 (v12 + 1)))) else some (v10, v12)
theorem L4_TournLandau_L1_0 (F : Nat) (v2 : List Int) (v11 : Int) (v10 : Bool) (v12 : Int) : L4_TournLandau_L1 F v2 v11 0 v10 v12 = none := by rw [L4_TournLandau_L1]
theorem L4_TournLandau_L1_s (F g : Nat) (v2 : List Int) (v11 : Int) (v10 : Bool) (v12 : Int) : L4_TournLandau_L1 F v2 v11 (g+1) v10 v12 = ((R3_Power F (v11)).bind fun y8 => if v12 < y8 then (R3_Members F (v12)).bind fun y9 => (L4_TournLandau_L2 F (v2) (y9) F (0) (0)).bind fun o12 => ((if o12.1 < (wrap64 (Int.tdiv (wrap64 (((y9).length : Int) * (wrap64 (((y9).length : Int) - 1)))) 2)) then some true else if (((y9).length : Int) == v11) = true then if (o12.1 != (wrap64 (Int.tdiv (wrap64 (((y9).length : Int) * (wrap64 (((y9).length : Int) - 1)))) 2))) = true then some true else some false else some false).bind fun b13 => if b13 = true then L4_TournLandau_L1 F v2 v11 g (false) ((wrap64 (v12 + 1))) else L4_TournLandau_L1 F v2 v11 g (v10) ((wrap64 (v12 + 1)))) else some (v10, v12)) := by rw [L4_TournLandau_L1]
def L4_TournLandau (F : Nat) (v0 : Int) (v1 : List (Int × Int)) (v2 : List Int) : Option (Bool) := (L4_tournFact F ).bind fun y1 => (if y1 = true then (tourn_Scores F (v0) (v1)).bind fun y2 => (if (y2.2 == 0) = true then (tourn_Can F (y2.1)).bind fun y3 => ((if (y3.2 != 0) = true then some true else if y3.1 = true then some false else some true).bind fun b4 => if b4 = true then some (false) else (tourn_Can F (v2)).bind fun y5 => (if (y5.2 != 0) = true then (if y5.1 = true then some false else some true).bind fun b6 => some (b6) else ((R1_Degrees F (v2)).bind fun y7 => if (y7 != 0) = true then some (false) else (L4_TournLandau_L1 F (v2) (((v2).length : Int)) F (true) (0)).bind fun o14 => (if (y5.1 == o14.1) = true then some true else some false).bind fun b15 => some (b15)))) else (tourn_Can F (v2)).bind fun y16 => (if (y16.2 != 0) = true then (if y16.1 = true then some false else some true).bind fun b17 => some (b17) else ((R1_Degrees F (v2)).bind fun y18 => if (y18 != 0) = true then some (false) else (L4_TournLandau_L1 F (v2) (((v2).length : Int)) F (true) (0)).bind fun o19 => (if (y16.1 == o19.1) = true then some true else some false).bind fun b20 => some (b20)))) else some (false))
set_option maxRecDepth 100000 in
set_option maxHeartbeats 4000000 in
theorem L4_TournLandau_ok {F : Nat} {v0 : Int} {v1 : List (Int × Int)} {A1 : Option Addr} {v2 : List Int} {A2 : Option Addr} {r : Bool} (w : World) (cap1 : Nat) (hr1 : ReadsL w w.heap.size A1 v1) (cap2 : Nat) (hr2 : ReadsI w w.heap.size A2 v2) (h : L4_TournLandau F v0 v1 v2 = some r) :
    Calls Try.prog 6 #[.int .i64 v0, .slice A1 v1.length cap1, .slice A2 v2.length cap2] w fun e w' => e = .returned (.bool r) ∧ Below w.heap.size w w' := by
  have HR1 := Lib.hid hr1; clear hr1
  have HR2 := Lib.hid hr2; clear hr2
  have HD := Lib.hid (Below.refl w.heap.size w)
  have HOA := Lib.hid (HP.nil (W := w) (B := w.heap.size))
  unfold L4_TournLandau at h
  have HM := Lib.hid h; clear h
  go_enter Try.func6, Try.ntmps6
  obtain ⟨y3, hy1, hm⟩ := obind HM.out
  replace HM := Lib.hid hm; clear hm
  have HC2 := L4_tournFact_ok w  hy1
  clear hy1
  replace HC2 := Lib.hid HC2
  go_wp2_with fail
  refine HC2.out.mono ?_; rintro e W4 ⟨rfl, hd⟩
  replace HOA := Lib.hid (HOA.out.below hd)
  replace HD := Lib.hid (HD.out.trans (hd.mono HD.out.size))
  clear hd
  cases y3
  · replace HM := Lib.hid (ifF Bool.false_ne_true HM.out)
    obtain rfl := Option.some.inj HM.out
    go_wp2_with fail
    go_ret
    exact ⟨rfl, HD.out⟩
  · replace HM := Lib.hid (ifT rfl HM.out)
    obtain ⟨⟨y7, y8⟩, hy5, hm⟩ := obind HM.out
    dsimp only at hm
    replace HM := Lib.hid hm; clear hm
    have HC6 := tourn_Scores_ok W4 cap1 (rdL HD.out HR1.out) hy5
    clear hy5
    by_cases hz9 : y8 = 0
    · subst hz9
      rw [errV_zero] at HC6; replace HC6 := Lib.hid HC6
      go_wp2_with fail
      refine HC6.out.mono ?_; rintro e W10 ⟨V11, rfl, ho, hd⟩
      replace HOA := Lib.hid (HOA.out.call hd HD.out.size ho); clear ho
      replace HD := Lib.hid (HD.out.trans (hd.mono HD.out.size))
      clear hd
      replace HM := Lib.hid (ifT (by decide) HM.out)
      obtain ⟨⟨y19, y20⟩, hy17, hm⟩ := obind HM.out
      dsimp only at hm
      replace HM := Lib.hid hm; clear hm
      obtain ⟨A21, cap22, he, _⟩ := HP.open_I HOA.out (List.Mem.head _)
      subst he
      have HC18 := tourn_Can_ok W10 cap22 (HP.rd_I HOA.out (List.Mem.head _)) hy17
      clear hy17
      by_cases hz23 : y20 = 0
      · subst hz23
        rw [errV_zero] at HC18; replace HC18 := Lib.hid HC18
        go_wp2_with fail
        refine HC18.out.mono ?_; rintro e W24 ⟨rfl, hd⟩
        replace HOA := Lib.hid (HOA.out.below hd)
        replace HD := Lib.hid (HD.out.trans (hd.mono HD.out.size))
        clear hd
        go_upto_region 7 with (fail)
        obtain ⟨b27, hb, hm⟩ := obind HM.out
        replace HM := Lib.hid hm; have HB28 := Lib.hid hb; clear hm hb
        go_cut [41] (fun uq wr => uq = .bool b27 ∧ Hid (Below W24.heap.size W24 wr))
        case first =>
          have HWC29 := Lib.hid (Below.refl W24.heap.size W24)
          replace HB28 := Lib.hid (ifF (by decide) HB28.out)
          cases y19
          · replace HB28 := Lib.hid (ifF Bool.false_ne_true HB28.out)
            cases Option.some.inj HB28.out
            try go_wp2_with fail
            go_meet
            case rel => exact ⟨rfl, HWC29⟩
          · replace HB28 := Lib.hid (ifT rfl HB28.out)
            cases Option.some.inj HB28.out
            try go_wp2_with fail
            go_meet
            case rel => exact ⟨rfl, HWC29⟩
        case rest =>
          obtain ⟨rfl, HWC29⟩ := hcut
          rename World => W30
          have hd := HWC29.out
          replace HOA := Lib.hid (HOA.out.below hd)
          replace HD := Lib.hid (HD.out.trans (hd.mono HD.out.size))
          clear hd
          cases b27
          · replace HM := Lib.hid (ifF Bool.false_ne_true HM.out)
            obtain ⟨⟨y33, y34⟩, hy31, hm⟩ := obind HM.out
            dsimp only at hm
            replace HM := Lib.hid hm; clear hm
            have HC32 := tourn_Can_ok W30 cap2 (rdI HD.out HR2.out) hy31
            clear hy31
            by_cases hz35 : y34 = 0
            · subst hz35
              rw [errV_zero] at HC32; replace HC32 := Lib.hid HC32
              go_wp2_with fail
              refine HC32.out.mono ?_; rintro e W36 ⟨rfl, hd⟩
              replace HOA := Lib.hid (HOA.out.below hd)
              replace HD := Lib.hid (HD.out.trans (hd.mono HD.out.size))
              clear hd
              replace HM := Lib.hid (ifF (by decide) HM.out)
              obtain ⟨y41, hy39, hm⟩ := obind HM.out
              replace HM := Lib.hid hm; clear hm
              have HC40 := R1_Degrees_ok W36 cap2 (rdI HD.out HR2.out) hy39
              clear hy39
              replace HC40 := Lib.hid HC40
              rcases Bool.eq_false_or_eq_true (y41 != 0) with hc42 | hc42
              · replace HM := Lib.hid (ifT hc42 HM.out)
                have HK43 := Lib.hid hc42
                obtain rfl := Option.some.inj HM.out
                go_wp2_with fail
                refine HC40.out.mono ?_; rintro e w' ⟨rfl, rfl⟩
                go_wp2_with fail
                go_ret
                exact ⟨(by first | rfl | (refine congrArg (fun b => Ending.returned (Value.bool b)) ?_; first | (exact decide_eq_true (by omega)) | (exact decide_eq_false (by omega)) | (have q := hc42; rw [bne_iff_ne] at q ⊢; omega) | (have q := hc42; rw [bne_eq_false_iff_eq] at q ⊢; omega) | (have q := hc42; rw [beq_iff_eq] at q ⊢; omega) | (have q := hc42; rw [beq_eq_false_iff_ne] at q ⊢; omega))), HD.out⟩
              · replace HM := Lib.hid (ifF (bF hc42) HM.out)
                have HK43 := Lib.hid hc42
                go_wp2_with fail
                refine HC40.out.mono ?_; rintro e w' ⟨rfl, rfl⟩
                go_wp2_with fail
                try clear hc42
                obtain ⟨o44, ho, hm⟩ := obind HM.out
                replace HM := Lib.hid hm; have HL1 := Lib.hid ho; clear hm ho
                go_loopg [13, 15] F (fun gg ux47 ux48 wr => ∃ (x45 : Bool) (x46 : Int), ux47 = .bool x45 ∧ ux48 = .int .i64 x46 ∧ Hid (Below W36.heap.size W36 wr) ∧ Hid (L4_TournLandau_L1 F (v2) (((v2).length : Int)) gg x45 x46 = some o44))
                case atStart => exact ⟨true, 0, rfl, rfl, (Lib.hid (Below.refl _ _)), HL1⟩
                case round =>
                  obtain ⟨x45, x46, rfl, rfl, HW1, HL1⟩ := hrel
                  rename World => W49
                  have hd := HW1.out
                  replace HOA := Lib.hid (HOA.out.below hd)
                  replace HD := Lib.hid (HD.out.trans (hd.mono HD.out.size))
                  clear hd
                  cases gk with
                  | zero => exact absurd ((L4_TournLandau_L1_0 ..).symm.trans HL1.out) (by intro h; cases h)
                  | succ g1 =>
                    replace HL1 := Lib.hid ((L4_TournLandau_L1_s ..).symm.trans HL1.out)
                    obtain ⟨y52, hy50, hm⟩ := obind HL1.out
                    replace HL1 := Lib.hid hm; clear hm
                    have HC51 := R3_Power_ok W49  hy50
                    clear hy50
                    replace HC51 := Lib.hid HC51
                    by_cases hc53 : x46 < y52
                    · replace HL1 := Lib.hid (ifT hc53 HL1.out)
                      have HK54 := Lib.hid hc53
                      obtain ⟨y57, hy55, hm⟩ := obind HL1.out
                      replace HL1 := Lib.hid hm; clear hm
                      have HC56 := R3_Members_ok W49  hy55
                      clear hy55
                      replace HC56 := Lib.hid HC56
                      go_wp2_with fail
                      refine HC51.out.mono ?_; rintro e w' ⟨rfl, rfl⟩
                      go_wp2_with fail
                      refine HC56.out.mono ?_; rintro e W58 ⟨V59, rfl, ho, hd⟩
                      try clear hc53
                      replace HOA := Lib.hid (HOA.out.call hd HD.out.size ho); clear ho
                      replace HD := Lib.hid (HD.out.trans (hd.mono HD.out.size))
                      replace HW1 := Lib.hid (HW1.out.trans (hd.mono HW1.out.size))
                      clear hd
                      go_wp2_with fail
                      obtain ⟨o61, ho, hm⟩ := obind HL1.out
                      replace HL1 := Lib.hid hm; have HL2 := Lib.hid ho; clear hm ho
                      go_loopg [17, 18] F (fun gg ux64 ux65 wr => ∃ (x62 : Int) (x63 : Int), ux64 = .int .i64 x62 ∧ ux65 = .int .i64 x63 ∧ Hid (Below W58.heap.size W58 wr) ∧ Hid (L4_TournLandau_L2 F (v2) (y57) gg x62 x63 = some o61))
                      case atStart => exact ⟨0, 0, rfl, rfl, (Lib.hid (Below.refl _ _)), HL2⟩
                      case round =>
                        obtain ⟨x62, x63, rfl, rfl, HW2, HL2⟩ := hrel
                        rename World => W66
                        have hd := HW2.out
                        replace HOA := Lib.hid (HOA.out.below hd)
                        replace HD := Lib.hid (HD.out.trans (hd.mono HD.out.size))
                        replace HW1 := Lib.hid (HW1.out.trans (hd.mono HW1.out.size))
                        clear hd
                        cases gk with
                        | zero => exact absurd ((L4_TournLandau_L2_0 ..).symm.trans HL2.out) (by intro h; cases h)
                        | succ g2 =>
                          replace HL2 := Lib.hid ((L4_TournLandau_L2_s ..).symm.trans HL2.out)
                          obtain ⟨A67, cap68, he, _⟩ := HP.open_I HOA.out (List.Mem.head _)
                          subst he
                          by_cases hc69 : x63 < ((y57).length : Int)
                          · replace HL2 := Lib.hid (ifT hc69 HL2.out)
                            have HK70 := Lib.hid hc69
                            obtain ⟨y71, hy72, hm⟩ := obind HL2.out
                            replace HL2 := Lib.hid hm; clear hm
                            obtain ⟨b73, o74, ea75, _, f76, f77, f78⟩ := ReadsI.ix (HP.rd_I HOA.out (List.Mem.head _)) hy72
                            cases ea75
                            try simp only [Nat.zero_add, Nat.add_zero, Int.toNat_natCast, Int.toNat_zero, Int.toNat_one] at f78
                            try rw [← HP.len_I HOA.out (List.Mem.head _)] at f77
                            have HY80 := Lib.hid hy72; clear hy72
                            obtain ⟨y81, hy82, hm⟩ := obind HL2.out
                            replace HL2 := Lib.hid hm; clear hm
                            obtain ⟨b83, o84, ea85, _, f86, f87, f88⟩ := ReadsI.ix (rdI HD.out HR2.out) hy82
                            cases ea85
                            try simp only [Nat.zero_add, Nat.add_zero, Int.toNat_natCast, Int.toNat_zero, Int.toNat_one] at f88
                            have HY90 := Lib.hid hy82; clear hy82
                            go_wp2_with fail
                            try clear hc69 f76 f77 f78 f86 f87 f88
                            go_roundg g2
                            case measure => omega
                            case rel => exact ⟨(wrap64 (x62 + y81)), (wrap64 (x63 + 1)), rfl, rfl, HW2, HL2⟩
                          · replace HL2 := Lib.hid (ifF hc69 HL2.out)
                            have hc69d := decide_eq_false hc69
                            have HK70 := Lib.hid hc69
                            obtain rfl := Option.some.inj HL2.out
                            have hm := HL1.out; try dsimp only at hm
                            replace HL1 := Lib.hid hm; clear hm
                            obtain ⟨b91, hb, hm⟩ := obind HL1.out
                            replace HL1 := Lib.hid hm; have HB92 := Lib.hid hb; clear hm hb
                            by_cases hc93 : x62 < (wrap64 (Int.tdiv (wrap64 (((y57).length : Int) * (wrap64 (((y57).length : Int) - 1)))) 2))
                            · replace HB92 := Lib.hid (ifT hc93 HB92.out)
                              have HK94 := Lib.hid hc93
                              obtain rfl := Option.some.inj HB92.out
                              replace HL1 := Lib.hid (ifT (by first | rfl | trivial) HL1.out)
                              go_wp2_with fail
                              try clear hc69 hc69d hc93
                              go_roundg g1
                              case measure => omega
                              case rel => exact ⟨false, (wrap64 (x46 + 1)), rfl, rfl, HW1, HL1⟩
                            · replace HB92 := Lib.hid (ifF hc93 HB92.out)
                              have hc93d := decide_eq_false hc93
                              have HK94 := Lib.hid hc93
                              rcases Bool.eq_false_or_eq_true (((y57).length : Int) == ((v2).length : Int)) with hc95 | hc95
                              · replace HB92 := Lib.hid (ifT hc95 HB92.out)
                                have HK96 := Lib.hid hc95
                                rcases Bool.eq_false_or_eq_true (x62 != (wrap64 (Int.tdiv (wrap64 (((y57).length : Int) * (wrap64 (((y57).length : Int) - 1)))) 2))) with hc97 | hc97
                                · replace HB92 := Lib.hid (ifT hc97 HB92.out)
                                  have HK98 := Lib.hid hc97
                                  obtain rfl := Option.some.inj HB92.out
                                  replace HL1 := Lib.hid (ifT (by first | rfl | trivial) HL1.out)
                                  go_wp2_with fail
                                  try clear hc69 hc69d hc93 hc93d hc95 hc97
                                  go_roundg g1
                                  case measure => omega
                                  case rel => exact ⟨false, (wrap64 (x46 + 1)), rfl, rfl, HW1, HL1⟩
                                · replace HB92 := Lib.hid (ifF (bF hc97) HB92.out)
                                  have HK98 := Lib.hid hc97
                                  obtain rfl := Option.some.inj HB92.out
                                  replace HL1 := Lib.hid (ifF (by first | exact Bool.false_ne_true | exact not_false) HL1.out)
                                  go_wp2_with fail
                                  try clear hc69 hc69d hc93 hc93d hc95 hc97
                                  go_roundg g1
                                  case measure => omega
                                  case rel => exact ⟨x45, (wrap64 (x46 + 1)), rfl, rfl, HW1, HL1⟩
                              · replace HB92 := Lib.hid (ifF (bF hc95) HB92.out)
                                have HK96 := Lib.hid hc95
                                obtain rfl := Option.some.inj HB92.out
                                replace HL1 := Lib.hid (ifF (by first | exact Bool.false_ne_true | exact not_false) HL1.out)
                                go_wp2_with fail
                                try clear hc69 hc69d hc93 hc93d hc95
                                go_roundg g1
                                case measure => omega
                                case rel => exact ⟨x45, (wrap64 (x46 + 1)), rfl, rfl, HW1, HL1⟩
                    · replace HL1 := Lib.hid (ifF hc53 HL1.out)
                      have hc53d := decide_eq_false hc53
                      have HK54 := Lib.hid hc53
                      obtain rfl := Option.some.inj HL1.out
                      have hm := HM.out; try dsimp only at hm
                      replace HM := Lib.hid hm; clear hm
                      obtain ⟨b99, hb, hm⟩ := obind HM.out
                      replace HM := Lib.hid hm; have HB100 := Lib.hid hb; clear hm hb
                      cases y33
                      · cases x45
                        · replace HB100 := Lib.hid (ifT (by decide) HB100.out)
                          obtain rfl := Option.some.inj HB100.out
                          obtain rfl := Option.some.inj HM.out
                          go_wp2_with fail
                          refine HC51.out.mono ?_; rintro e w' ⟨rfl, rfl⟩
                          go_wp2_with fail
                          go_ret
                          exact ⟨(by first | rfl | (refine congrArg (fun b => Ending.returned (Value.bool b)) ?_; first | (exact decide_eq_true (by omega)) | (exact decide_eq_false (by omega)) | (have q := hc53; rw [bne_iff_ne] at q ⊢; omega) | (have q := hc53; rw [bne_eq_false_iff_eq] at q ⊢; omega) | (have q := hc53; rw [beq_iff_eq] at q ⊢; omega) | (have q := hc53; rw [beq_eq_false_iff_ne] at q ⊢; omega) | (have q := hc53d; rw [bne_iff_ne] at q ⊢; omega) | (have q := hc53d; rw [bne_eq_false_iff_eq] at q ⊢; omega) | (have q := hc53d; rw [beq_iff_eq] at q ⊢; omega) | (have q := hc53d; rw [beq_eq_false_iff_ne] at q ⊢; omega))), HD.out⟩
                        · replace HB100 := Lib.hid (ifF (by decide) HB100.out)
                          obtain rfl := Option.some.inj HB100.out
                          obtain rfl := Option.some.inj HM.out
                          go_wp2_with fail
                          refine HC51.out.mono ?_; rintro e w' ⟨rfl, rfl⟩
                          go_wp2_with fail
                          go_ret
                          exact ⟨(by first | rfl | (refine congrArg (fun b => Ending.returned (Value.bool b)) ?_; first | (exact decide_eq_true (by omega)) | (exact decide_eq_false (by omega)) | (have q := hc53; rw [bne_iff_ne] at q ⊢; omega) | (have q := hc53; rw [bne_eq_false_iff_eq] at q ⊢; omega) | (have q := hc53; rw [beq_iff_eq] at q ⊢; omega) | (have q := hc53; rw [beq_eq_false_iff_ne] at q ⊢; omega) | (have q := hc53d; rw [bne_iff_ne] at q ⊢; omega) | (have q := hc53d; rw [bne_eq_false_iff_eq] at q ⊢; omega) | (have q := hc53d; rw [beq_iff_eq] at q ⊢; omega) | (have q := hc53d; rw [beq_eq_false_iff_ne] at q ⊢; omega))), HD.out⟩
                      · cases x45
                        · replace HB100 := Lib.hid (ifF (by decide) HB100.out)
                          obtain rfl := Option.some.inj HB100.out
                          obtain rfl := Option.some.inj HM.out
                          go_wp2_with fail
                          refine HC51.out.mono ?_; rintro e w' ⟨rfl, rfl⟩
                          go_wp2_with fail
                          go_ret
                          exact ⟨(by first | rfl | (refine congrArg (fun b => Ending.returned (Value.bool b)) ?_; first | (exact decide_eq_true (by omega)) | (exact decide_eq_false (by omega)) | (have q := hc53; rw [bne_iff_ne] at q ⊢; omega) | (have q := hc53; rw [bne_eq_false_iff_eq] at q ⊢; omega) | (have q := hc53; rw [beq_iff_eq] at q ⊢; omega) | (have q := hc53; rw [beq_eq_false_iff_ne] at q ⊢; omega) | (have q := hc53d; rw [bne_iff_ne] at q ⊢; omega) | (have q := hc53d; rw [bne_eq_false_iff_eq] at q ⊢; omega) | (have q := hc53d; rw [beq_iff_eq] at q ⊢; omega) | (have q := hc53d; rw [beq_eq_false_iff_ne] at q ⊢; omega))), HD.out⟩
                        · replace HB100 := Lib.hid (ifT (by decide) HB100.out)
                          obtain rfl := Option.some.inj HB100.out
                          obtain rfl := Option.some.inj HM.out
                          go_wp2_with fail
                          refine HC51.out.mono ?_; rintro e w' ⟨rfl, rfl⟩
                          go_wp2_with fail
                          go_ret
                          exact ⟨(by first | rfl | (refine congrArg (fun b => Ending.returned (Value.bool b)) ?_; first | (exact decide_eq_true (by omega)) | (exact decide_eq_false (by omega)) | (have q := hc53; rw [bne_iff_ne] at q ⊢; omega) | (have q := hc53; rw [bne_eq_false_iff_eq] at q ⊢; omega) | (have q := hc53; rw [beq_iff_eq] at q ⊢; omega) | (have q := hc53; rw [beq_eq_false_iff_ne] at q ⊢; omega) | (have q := hc53d; rw [bne_iff_ne] at q ⊢; omega) | (have q := hc53d; rw [bne_eq_false_iff_eq] at q ⊢; omega) | (have q := hc53d; rw [beq_iff_eq] at q ⊢; omega) | (have q := hc53d; rw [beq_eq_false_iff_ne] at q ⊢; omega))), HD.out⟩
            · rw [errV_pos _ hz35] at HC32; replace HC32 := Lib.hid HC32
              go_wp2_with fail
              refine HC32.out.mono ?_; rintro e W37 ⟨rfl, hd⟩
              replace HOA := Lib.hid (HOA.out.below hd)
              replace HD := Lib.hid (HD.out.trans (hd.mono HD.out.size))
              clear hd
              have HZ38 := Lib.hid hz35; clear hz35
              replace HM := Lib.hid (ifT (bne_iff_ne.2 HZ38.out) HM.out)
              obtain ⟨b101, hb, hm⟩ := obind HM.out
              replace HM := Lib.hid hm; have HB102 := Lib.hid hb; clear hm hb
              cases y33
              · replace HB102 := Lib.hid (ifF Bool.false_ne_true HB102.out)
                obtain rfl := Option.some.inj HB102.out
                obtain rfl := Option.some.inj HM.out
                go_wp2_with fail
                go_ret
                exact ⟨rfl, HD.out⟩
              · replace HB102 := Lib.hid (ifT rfl HB102.out)
                obtain rfl := Option.some.inj HB102.out
                obtain rfl := Option.some.inj HM.out
                go_wp2_with fail
                go_ret
                exact ⟨rfl, HD.out⟩
          · replace HM := Lib.hid (ifT rfl HM.out)
            obtain rfl := Option.some.inj HM.out
            go_wp2_with fail
            go_ret
            exact ⟨rfl, HD.out⟩
      · rw [errV_pos _ hz23] at HC18; replace HC18 := Lib.hid HC18
        go_wp2_with fail
        refine HC18.out.mono ?_; rintro e W25 ⟨rfl, hd⟩
        replace HOA := Lib.hid (HOA.out.below hd)
        replace HD := Lib.hid (HD.out.trans (hd.mono HD.out.size))
        clear hd
        have HZ26 := Lib.hid hz23; clear hz23
        go_upto_region 7 with (fail)
        obtain ⟨b103, hb, hm⟩ := obind HM.out
        replace HM := Lib.hid hm; have HB104 := Lib.hid hb; clear hm hb
        go_cut [41] (fun uq wr => uq = .bool b103 ∧ Hid (Below W25.heap.size W25 wr))
        case first =>
          have HWC105 := Lib.hid (Below.refl W25.heap.size W25)
          replace HB104 := Lib.hid (ifT (bne_iff_ne.2 HZ26.out) HB104.out)
          cases Option.some.inj HB104.out
          try go_wp2_with fail
          go_meet
          case rel => exact ⟨rfl, HWC105⟩
        case rest =>
          obtain ⟨rfl, HWC105⟩ := hcut
          rename World => W106
          have hd := HWC105.out
          replace HOA := Lib.hid (HOA.out.below hd)
          replace HD := Lib.hid (HD.out.trans (hd.mono HD.out.size))
          clear hd
          cases b103
          · replace HM := Lib.hid (ifF Bool.false_ne_true HM.out)
            obtain ⟨⟨y109, y110⟩, hy107, hm⟩ := obind HM.out
            dsimp only at hm
            replace HM := Lib.hid hm; clear hm
            have HC108 := tourn_Can_ok W106 cap2 (rdI HD.out HR2.out) hy107
            clear hy107
            by_cases hz111 : y110 = 0
            · subst hz111
              rw [errV_zero] at HC108; replace HC108 := Lib.hid HC108
              go_wp2_with fail
              refine HC108.out.mono ?_; rintro e W112 ⟨rfl, hd⟩
              replace HOA := Lib.hid (HOA.out.below hd)
              replace HD := Lib.hid (HD.out.trans (hd.mono HD.out.size))
              clear hd
              replace HM := Lib.hid (ifF (by decide) HM.out)
              obtain ⟨y117, hy115, hm⟩ := obind HM.out
              replace HM := Lib.hid hm; clear hm
              have HC116 := R1_Degrees_ok W112 cap2 (rdI HD.out HR2.out) hy115
              clear hy115
              replace HC116 := Lib.hid HC116
              rcases Bool.eq_false_or_eq_true (y117 != 0) with hc118 | hc118
              · replace HM := Lib.hid (ifT hc118 HM.out)
                have HK119 := Lib.hid hc118
                obtain rfl := Option.some.inj HM.out
                go_wp2_with fail
                refine HC116.out.mono ?_; rintro e w' ⟨rfl, rfl⟩
                go_wp2_with fail
                go_ret
                exact ⟨(by first | rfl | (refine congrArg (fun b => Ending.returned (Value.bool b)) ?_; first | (exact decide_eq_true (by omega)) | (exact decide_eq_false (by omega)) | (have q := hc118; rw [bne_iff_ne] at q ⊢; omega) | (have q := hc118; rw [bne_eq_false_iff_eq] at q ⊢; omega) | (have q := hc118; rw [beq_iff_eq] at q ⊢; omega) | (have q := hc118; rw [beq_eq_false_iff_ne] at q ⊢; omega))), HD.out⟩
              · replace HM := Lib.hid (ifF (bF hc118) HM.out)
                have HK119 := Lib.hid hc118
                go_wp2_with fail
                refine HC116.out.mono ?_; rintro e w' ⟨rfl, rfl⟩
                go_wp2_with fail
                try clear hc118
                obtain ⟨o120, ho, hm⟩ := obind HM.out
                replace HM := Lib.hid hm; have HL1 := Lib.hid ho; clear hm ho
                go_loopg [13, 15] F (fun gg ux123 ux124 wr => ∃ (x121 : Bool) (x122 : Int), ux123 = .bool x121 ∧ ux124 = .int .i64 x122 ∧ Hid (Below W112.heap.size W112 wr) ∧ Hid (L4_TournLandau_L1 F (v2) (((v2).length : Int)) gg x121 x122 = some o120))
                case atStart => exact ⟨true, 0, rfl, rfl, (Lib.hid (Below.refl _ _)), HL1⟩
                case round =>
                  obtain ⟨x121, x122, rfl, rfl, HW1, HL1⟩ := hrel
                  rename World => W125
                  have hd := HW1.out
                  replace HOA := Lib.hid (HOA.out.below hd)
                  replace HD := Lib.hid (HD.out.trans (hd.mono HD.out.size))
                  clear hd
                  cases gk with
                  | zero => exact absurd ((L4_TournLandau_L1_0 ..).symm.trans HL1.out) (by intro h; cases h)
                  | succ g1 =>
                    replace HL1 := Lib.hid ((L4_TournLandau_L1_s ..).symm.trans HL1.out)
                    obtain ⟨y128, hy126, hm⟩ := obind HL1.out
                    replace HL1 := Lib.hid hm; clear hm
                    have HC127 := R3_Power_ok W125  hy126
                    clear hy126
                    replace HC127 := Lib.hid HC127
                    by_cases hc129 : x122 < y128
                    · replace HL1 := Lib.hid (ifT hc129 HL1.out)
                      have HK130 := Lib.hid hc129
                      obtain ⟨y133, hy131, hm⟩ := obind HL1.out
                      replace HL1 := Lib.hid hm; clear hm
                      have HC132 := R3_Members_ok W125  hy131
                      clear hy131
                      replace HC132 := Lib.hid HC132
                      go_wp2_with fail
                      refine HC127.out.mono ?_; rintro e w' ⟨rfl, rfl⟩
                      go_wp2_with fail
                      refine HC132.out.mono ?_; rintro e W134 ⟨V135, rfl, ho, hd⟩
                      try clear hc129
                      replace HOA := Lib.hid (HOA.out.call hd HD.out.size ho); clear ho
                      replace HD := Lib.hid (HD.out.trans (hd.mono HD.out.size))
                      replace HW1 := Lib.hid (HW1.out.trans (hd.mono HW1.out.size))
                      clear hd
                      go_wp2_with fail
                      obtain ⟨o137, ho, hm⟩ := obind HL1.out
                      replace HL1 := Lib.hid hm; have HL2 := Lib.hid ho; clear hm ho
                      go_loopg [17, 18] F (fun gg ux140 ux141 wr => ∃ (x138 : Int) (x139 : Int), ux140 = .int .i64 x138 ∧ ux141 = .int .i64 x139 ∧ Hid (Below W134.heap.size W134 wr) ∧ Hid (L4_TournLandau_L2 F (v2) (y133) gg x138 x139 = some o137))
                      case atStart => exact ⟨0, 0, rfl, rfl, (Lib.hid (Below.refl _ _)), HL2⟩
                      case round =>
                        obtain ⟨x138, x139, rfl, rfl, HW2, HL2⟩ := hrel
                        rename World => W142
                        have hd := HW2.out
                        replace HOA := Lib.hid (HOA.out.below hd)
                        replace HD := Lib.hid (HD.out.trans (hd.mono HD.out.size))
                        replace HW1 := Lib.hid (HW1.out.trans (hd.mono HW1.out.size))
                        clear hd
                        cases gk with
                        | zero => exact absurd ((L4_TournLandau_L2_0 ..).symm.trans HL2.out) (by intro h; cases h)
                        | succ g2 =>
                          replace HL2 := Lib.hid ((L4_TournLandau_L2_s ..).symm.trans HL2.out)
                          obtain ⟨A143, cap144, he, _⟩ := HP.open_I HOA.out (List.Mem.head _)
                          subst he
                          by_cases hc145 : x139 < ((y133).length : Int)
                          · replace HL2 := Lib.hid (ifT hc145 HL2.out)
                            have HK146 := Lib.hid hc145
                            obtain ⟨y147, hy148, hm⟩ := obind HL2.out
                            replace HL2 := Lib.hid hm; clear hm
                            obtain ⟨b149, o150, ea151, _, f152, f153, f154⟩ := ReadsI.ix (HP.rd_I HOA.out (List.Mem.head _)) hy148
                            cases ea151
                            try simp only [Nat.zero_add, Nat.add_zero, Int.toNat_natCast, Int.toNat_zero, Int.toNat_one] at f154
                            try rw [← HP.len_I HOA.out (List.Mem.head _)] at f153
                            have HY156 := Lib.hid hy148; clear hy148
                            obtain ⟨y157, hy158, hm⟩ := obind HL2.out
                            replace HL2 := Lib.hid hm; clear hm
                            obtain ⟨b159, o160, ea161, _, f162, f163, f164⟩ := ReadsI.ix (rdI HD.out HR2.out) hy158
                            cases ea161
                            try simp only [Nat.zero_add, Nat.add_zero, Int.toNat_natCast, Int.toNat_zero, Int.toNat_one] at f164
                            have HY166 := Lib.hid hy158; clear hy158
                            go_wp2_with fail
                            try clear hc145 f152 f153 f154 f162 f163 f164
                            go_roundg g2
                            case measure => omega
                            case rel => exact ⟨(wrap64 (x138 + y157)), (wrap64 (x139 + 1)), rfl, rfl, HW2, HL2⟩
                          · replace HL2 := Lib.hid (ifF hc145 HL2.out)
                            have hc145d := decide_eq_false hc145
                            have HK146 := Lib.hid hc145
                            obtain rfl := Option.some.inj HL2.out
                            have hm := HL1.out; try dsimp only at hm
                            replace HL1 := Lib.hid hm; clear hm
                            obtain ⟨b167, hb, hm⟩ := obind HL1.out
                            replace HL1 := Lib.hid hm; have HB168 := Lib.hid hb; clear hm hb
                            by_cases hc169 : x138 < (wrap64 (Int.tdiv (wrap64 (((y133).length : Int) * (wrap64 (((y133).length : Int) - 1)))) 2))
                            · replace HB168 := Lib.hid (ifT hc169 HB168.out)
                              have HK170 := Lib.hid hc169
                              obtain rfl := Option.some.inj HB168.out
                              replace HL1 := Lib.hid (ifT (by first | rfl | trivial) HL1.out)
                              go_wp2_with fail
                              try clear hc145 hc145d hc169
                              go_roundg g1
                              case measure => omega
                              case rel => exact ⟨false, (wrap64 (x122 + 1)), rfl, rfl, HW1, HL1⟩
                            · replace HB168 := Lib.hid (ifF hc169 HB168.out)
                              have hc169d := decide_eq_false hc169
                              have HK170 := Lib.hid hc169
                              rcases Bool.eq_false_or_eq_true (((y133).length : Int) == ((v2).length : Int)) with hc171 | hc171
                              · replace HB168 := Lib.hid (ifT hc171 HB168.out)
                                have HK172 := Lib.hid hc171
                                rcases Bool.eq_false_or_eq_true (x138 != (wrap64 (Int.tdiv (wrap64 (((y133).length : Int) * (wrap64 (((y133).length : Int) - 1)))) 2))) with hc173 | hc173
                                · replace HB168 := Lib.hid (ifT hc173 HB168.out)
                                  have HK174 := Lib.hid hc173
                                  obtain rfl := Option.some.inj HB168.out
                                  replace HL1 := Lib.hid (ifT (by first | rfl | trivial) HL1.out)
                                  go_wp2_with fail
                                  try clear hc145 hc145d hc169 hc169d hc171 hc173
                                  go_roundg g1
                                  case measure => omega
                                  case rel => exact ⟨false, (wrap64 (x122 + 1)), rfl, rfl, HW1, HL1⟩
                                · replace HB168 := Lib.hid (ifF (bF hc173) HB168.out)
                                  have HK174 := Lib.hid hc173
                                  obtain rfl := Option.some.inj HB168.out
                                  replace HL1 := Lib.hid (ifF (by first | exact Bool.false_ne_true | exact not_false) HL1.out)
                                  go_wp2_with fail
                                  try clear hc145 hc145d hc169 hc169d hc171 hc173
                                  go_roundg g1
                                  case measure => omega
                                  case rel => exact ⟨x121, (wrap64 (x122 + 1)), rfl, rfl, HW1, HL1⟩
                              · replace HB168 := Lib.hid (ifF (bF hc171) HB168.out)
                                have HK172 := Lib.hid hc171
                                obtain rfl := Option.some.inj HB168.out
                                replace HL1 := Lib.hid (ifF (by first | exact Bool.false_ne_true | exact not_false) HL1.out)
                                go_wp2_with fail
                                try clear hc145 hc145d hc169 hc169d hc171
                                go_roundg g1
                                case measure => omega
                                case rel => exact ⟨x121, (wrap64 (x122 + 1)), rfl, rfl, HW1, HL1⟩
                    · replace HL1 := Lib.hid (ifF hc129 HL1.out)
                      have hc129d := decide_eq_false hc129
                      have HK130 := Lib.hid hc129
                      obtain rfl := Option.some.inj HL1.out
                      have hm := HM.out; try dsimp only at hm
                      replace HM := Lib.hid hm; clear hm
                      obtain ⟨b175, hb, hm⟩ := obind HM.out
                      replace HM := Lib.hid hm; have HB176 := Lib.hid hb; clear hm hb
                      cases y109
                      · cases x121
                        · replace HB176 := Lib.hid (ifT (by decide) HB176.out)
                          obtain rfl := Option.some.inj HB176.out
                          obtain rfl := Option.some.inj HM.out
                          go_wp2_with fail
                          refine HC127.out.mono ?_; rintro e w' ⟨rfl, rfl⟩
                          go_wp2_with fail
                          go_ret
                          exact ⟨(by first | rfl | (refine congrArg (fun b => Ending.returned (Value.bool b)) ?_; first | (exact decide_eq_true (by omega)) | (exact decide_eq_false (by omega)) | (have q := hc129; rw [bne_iff_ne] at q ⊢; omega) | (have q := hc129; rw [bne_eq_false_iff_eq] at q ⊢; omega) | (have q := hc129; rw [beq_iff_eq] at q ⊢; omega) | (have q := hc129; rw [beq_eq_false_iff_ne] at q ⊢; omega) | (have q := hc129d; rw [bne_iff_ne] at q ⊢; omega) | (have q := hc129d; rw [bne_eq_false_iff_eq] at q ⊢; omega) | (have q := hc129d; rw [beq_iff_eq] at q ⊢; omega) | (have q := hc129d; rw [beq_eq_false_iff_ne] at q ⊢; omega))), HD.out⟩
                        · replace HB176 := Lib.hid (ifF (by decide) HB176.out)
                          obtain rfl := Option.some.inj HB176.out
                          obtain rfl := Option.some.inj HM.out
                          go_wp2_with fail
                          refine HC127.out.mono ?_; rintro e w' ⟨rfl, rfl⟩
                          go_wp2_with fail
                          go_ret
                          exact ⟨(by first | rfl | (refine congrArg (fun b => Ending.returned (Value.bool b)) ?_; first | (exact decide_eq_true (by omega)) | (exact decide_eq_false (by omega)) | (have q := hc129; rw [bne_iff_ne] at q ⊢; omega) | (have q := hc129; rw [bne_eq_false_iff_eq] at q ⊢; omega) | (have q := hc129; rw [beq_iff_eq] at q ⊢; omega) | (have q := hc129; rw [beq_eq_false_iff_ne] at q ⊢; omega) | (have q := hc129d; rw [bne_iff_ne] at q ⊢; omega) | (have q := hc129d; rw [bne_eq_false_iff_eq] at q ⊢; omega) | (have q := hc129d; rw [beq_iff_eq] at q ⊢; omega) | (have q := hc129d; rw [beq_eq_false_iff_ne] at q ⊢; omega))), HD.out⟩
                      · cases x121
                        · replace HB176 := Lib.hid (ifF (by decide) HB176.out)
                          obtain rfl := Option.some.inj HB176.out
                          obtain rfl := Option.some.inj HM.out
                          go_wp2_with fail
                          refine HC127.out.mono ?_; rintro e w' ⟨rfl, rfl⟩
                          go_wp2_with fail
                          go_ret
                          exact ⟨(by first | rfl | (refine congrArg (fun b => Ending.returned (Value.bool b)) ?_; first | (exact decide_eq_true (by omega)) | (exact decide_eq_false (by omega)) | (have q := hc129; rw [bne_iff_ne] at q ⊢; omega) | (have q := hc129; rw [bne_eq_false_iff_eq] at q ⊢; omega) | (have q := hc129; rw [beq_iff_eq] at q ⊢; omega) | (have q := hc129; rw [beq_eq_false_iff_ne] at q ⊢; omega) | (have q := hc129d; rw [bne_iff_ne] at q ⊢; omega) | (have q := hc129d; rw [bne_eq_false_iff_eq] at q ⊢; omega) | (have q := hc129d; rw [beq_iff_eq] at q ⊢; omega) | (have q := hc129d; rw [beq_eq_false_iff_ne] at q ⊢; omega))), HD.out⟩
                        · replace HB176 := Lib.hid (ifT (by decide) HB176.out)
                          obtain rfl := Option.some.inj HB176.out
                          obtain rfl := Option.some.inj HM.out
                          go_wp2_with fail
                          refine HC127.out.mono ?_; rintro e w' ⟨rfl, rfl⟩
                          go_wp2_with fail
                          go_ret
                          exact ⟨(by first | rfl | (refine congrArg (fun b => Ending.returned (Value.bool b)) ?_; first | (exact decide_eq_true (by omega)) | (exact decide_eq_false (by omega)) | (have q := hc129; rw [bne_iff_ne] at q ⊢; omega) | (have q := hc129; rw [bne_eq_false_iff_eq] at q ⊢; omega) | (have q := hc129; rw [beq_iff_eq] at q ⊢; omega) | (have q := hc129; rw [beq_eq_false_iff_ne] at q ⊢; omega) | (have q := hc129d; rw [bne_iff_ne] at q ⊢; omega) | (have q := hc129d; rw [bne_eq_false_iff_eq] at q ⊢; omega) | (have q := hc129d; rw [beq_iff_eq] at q ⊢; omega) | (have q := hc129d; rw [beq_eq_false_iff_ne] at q ⊢; omega))), HD.out⟩
            · rw [errV_pos _ hz111] at HC108; replace HC108 := Lib.hid HC108
              go_wp2_with fail
              refine HC108.out.mono ?_; rintro e W113 ⟨rfl, hd⟩
              replace HOA := Lib.hid (HOA.out.below hd)
              replace HD := Lib.hid (HD.out.trans (hd.mono HD.out.size))
              clear hd
              have HZ114 := Lib.hid hz111; clear hz111
              replace HM := Lib.hid (ifT (bne_iff_ne.2 HZ114.out) HM.out)
              obtain ⟨b177, hb, hm⟩ := obind HM.out
              replace HM := Lib.hid hm; have HB178 := Lib.hid hb; clear hm hb
              cases y109
              · replace HB178 := Lib.hid (ifF Bool.false_ne_true HB178.out)
                obtain rfl := Option.some.inj HB178.out
                obtain rfl := Option.some.inj HM.out
                go_wp2_with fail
                go_ret
                exact ⟨rfl, HD.out⟩
              · replace HB178 := Lib.hid (ifT rfl HB178.out)
                obtain rfl := Option.some.inj HB178.out
                obtain rfl := Option.some.inj HM.out
                go_wp2_with fail
                go_ret
                exact ⟨rfl, HD.out⟩
          · replace HM := Lib.hid (ifT rfl HM.out)
            obtain rfl := Option.some.inj HM.out
            go_wp2_with fail
            go_ret
            exact ⟨rfl, HD.out⟩
    · rw [errV_pos _ hz9] at HC6; replace HC6 := Lib.hid HC6
      go_wp2_with fail
      refine HC6.out.mono ?_; rintro e W13 ⟨V14, rfl, ho, hd⟩
      replace HOA := Lib.hid (HOA.out.call hd HD.out.size ho); clear ho
      replace HD := Lib.hid (HD.out.trans (hd.mono HD.out.size))
      clear hd
      have HZ16 := Lib.hid hz9; clear hz9
      replace HM := Lib.hid (ifF (fun h => HZ16.out (eq_of_beq h)) HM.out)
      obtain ⟨⟨y181, y182⟩, hy179, hm⟩ := obind HM.out
      dsimp only at hm
      replace HM := Lib.hid hm; clear hm
      have HC180 := tourn_Can_ok W13 cap2 (rdI HD.out HR2.out) hy179
      clear hy179
      by_cases hz183 : y182 = 0
      · subst hz183
        rw [errV_zero] at HC180; replace HC180 := Lib.hid HC180
        go_wp2_with fail
        refine HC180.out.mono ?_; rintro e W184 ⟨rfl, hd⟩
        replace HOA := Lib.hid (HOA.out.below hd)
        replace HD := Lib.hid (HD.out.trans (hd.mono HD.out.size))
        clear hd
        replace HM := Lib.hid (ifF (by decide) HM.out)
        obtain ⟨y189, hy187, hm⟩ := obind HM.out
        replace HM := Lib.hid hm; clear hm
        have HC188 := R1_Degrees_ok W184 cap2 (rdI HD.out HR2.out) hy187
        clear hy187
        replace HC188 := Lib.hid HC188
        rcases Bool.eq_false_or_eq_true (y189 != 0) with hc190 | hc190
        · replace HM := Lib.hid (ifT hc190 HM.out)
          have HK191 := Lib.hid hc190
          obtain rfl := Option.some.inj HM.out
          go_wp2_with fail
          refine HC188.out.mono ?_; rintro e w' ⟨rfl, rfl⟩
          go_wp2_with fail
          go_ret
          exact ⟨(by first | rfl | (refine congrArg (fun b => Ending.returned (Value.bool b)) ?_; first | (exact decide_eq_true (by omega)) | (exact decide_eq_false (by omega)) | (have q := hc190; rw [bne_iff_ne] at q ⊢; omega) | (have q := hc190; rw [bne_eq_false_iff_eq] at q ⊢; omega) | (have q := hc190; rw [beq_iff_eq] at q ⊢; omega) | (have q := hc190; rw [beq_eq_false_iff_ne] at q ⊢; omega))), HD.out⟩
        · replace HM := Lib.hid (ifF (bF hc190) HM.out)
          have HK191 := Lib.hid hc190
          go_wp2_with fail
          refine HC188.out.mono ?_; rintro e w' ⟨rfl, rfl⟩
          go_wp2_with fail
          try clear hc190
          obtain ⟨o192, ho, hm⟩ := obind HM.out
          replace HM := Lib.hid hm; have HL1 := Lib.hid ho; clear hm ho
          go_loopg [13, 15] F (fun gg ux195 ux196 wr => ∃ (x193 : Bool) (x194 : Int), ux195 = .bool x193 ∧ ux196 = .int .i64 x194 ∧ Hid (Below W184.heap.size W184 wr) ∧ Hid (L4_TournLandau_L1 F (v2) (((v2).length : Int)) gg x193 x194 = some o192))
          case atStart => exact ⟨true, 0, rfl, rfl, (Lib.hid (Below.refl _ _)), HL1⟩
          case round =>
            obtain ⟨x193, x194, rfl, rfl, HW1, HL1⟩ := hrel
            rename World => W197
            have hd := HW1.out
            replace HOA := Lib.hid (HOA.out.below hd)
            replace HD := Lib.hid (HD.out.trans (hd.mono HD.out.size))
            clear hd
            cases gk with
            | zero => exact absurd ((L4_TournLandau_L1_0 ..).symm.trans HL1.out) (by intro h; cases h)
            | succ g1 =>
              replace HL1 := Lib.hid ((L4_TournLandau_L1_s ..).symm.trans HL1.out)
              obtain ⟨y200, hy198, hm⟩ := obind HL1.out
              replace HL1 := Lib.hid hm; clear hm
              have HC199 := R3_Power_ok W197  hy198
              clear hy198
              replace HC199 := Lib.hid HC199
              by_cases hc201 : x194 < y200
              · replace HL1 := Lib.hid (ifT hc201 HL1.out)
                have HK202 := Lib.hid hc201
                obtain ⟨y205, hy203, hm⟩ := obind HL1.out
                replace HL1 := Lib.hid hm; clear hm
                have HC204 := R3_Members_ok W197  hy203
                clear hy203
                replace HC204 := Lib.hid HC204
                go_wp2_with fail
                refine HC199.out.mono ?_; rintro e w' ⟨rfl, rfl⟩
                go_wp2_with fail
                refine HC204.out.mono ?_; rintro e W206 ⟨V207, rfl, ho, hd⟩
                try clear hc201
                replace HOA := Lib.hid (HOA.out.call hd HD.out.size ho); clear ho
                replace HD := Lib.hid (HD.out.trans (hd.mono HD.out.size))
                replace HW1 := Lib.hid (HW1.out.trans (hd.mono HW1.out.size))
                clear hd
                go_wp2_with fail
                obtain ⟨o209, ho, hm⟩ := obind HL1.out
                replace HL1 := Lib.hid hm; have HL2 := Lib.hid ho; clear hm ho
                go_loopg [17, 18] F (fun gg ux212 ux213 wr => ∃ (x210 : Int) (x211 : Int), ux212 = .int .i64 x210 ∧ ux213 = .int .i64 x211 ∧ Hid (Below W206.heap.size W206 wr) ∧ Hid (L4_TournLandau_L2 F (v2) (y205) gg x210 x211 = some o209))
                case atStart => exact ⟨0, 0, rfl, rfl, (Lib.hid (Below.refl _ _)), HL2⟩
                case round =>
                  obtain ⟨x210, x211, rfl, rfl, HW2, HL2⟩ := hrel
                  rename World => W214
                  have hd := HW2.out
                  replace HOA := Lib.hid (HOA.out.below hd)
                  replace HD := Lib.hid (HD.out.trans (hd.mono HD.out.size))
                  replace HW1 := Lib.hid (HW1.out.trans (hd.mono HW1.out.size))
                  clear hd
                  cases gk with
                  | zero => exact absurd ((L4_TournLandau_L2_0 ..).symm.trans HL2.out) (by intro h; cases h)
                  | succ g2 =>
                    replace HL2 := Lib.hid ((L4_TournLandau_L2_s ..).symm.trans HL2.out)
                    obtain ⟨A215, cap216, he, _⟩ := HP.open_I HOA.out (List.Mem.head _)
                    subst he
                    by_cases hc217 : x211 < ((y205).length : Int)
                    · replace HL2 := Lib.hid (ifT hc217 HL2.out)
                      have HK218 := Lib.hid hc217
                      obtain ⟨y219, hy220, hm⟩ := obind HL2.out
                      replace HL2 := Lib.hid hm; clear hm
                      obtain ⟨b221, o222, ea223, _, f224, f225, f226⟩ := ReadsI.ix (HP.rd_I HOA.out (List.Mem.head _)) hy220
                      cases ea223
                      try simp only [Nat.zero_add, Nat.add_zero, Int.toNat_natCast, Int.toNat_zero, Int.toNat_one] at f226
                      try rw [← HP.len_I HOA.out (List.Mem.head _)] at f225
                      have HY228 := Lib.hid hy220; clear hy220
                      obtain ⟨y229, hy230, hm⟩ := obind HL2.out
                      replace HL2 := Lib.hid hm; clear hm
                      obtain ⟨b231, o232, ea233, _, f234, f235, f236⟩ := ReadsI.ix (rdI HD.out HR2.out) hy230
                      cases ea233
                      try simp only [Nat.zero_add, Nat.add_zero, Int.toNat_natCast, Int.toNat_zero, Int.toNat_one] at f236
                      have HY238 := Lib.hid hy230; clear hy230
                      go_wp2_with fail
                      try clear hc217 f224 f225 f226 f234 f235 f236
                      go_roundg g2
                      case measure => omega
                      case rel => exact ⟨(wrap64 (x210 + y229)), (wrap64 (x211 + 1)), rfl, rfl, HW2, HL2⟩
                    · replace HL2 := Lib.hid (ifF hc217 HL2.out)
                      have hc217d := decide_eq_false hc217
                      have HK218 := Lib.hid hc217
                      obtain rfl := Option.some.inj HL2.out
                      have hm := HL1.out; try dsimp only at hm
                      replace HL1 := Lib.hid hm; clear hm
                      obtain ⟨b239, hb, hm⟩ := obind HL1.out
                      replace HL1 := Lib.hid hm; have HB240 := Lib.hid hb; clear hm hb
                      by_cases hc241 : x210 < (wrap64 (Int.tdiv (wrap64 (((y205).length : Int) * (wrap64 (((y205).length : Int) - 1)))) 2))
                      · replace HB240 := Lib.hid (ifT hc241 HB240.out)
                        have HK242 := Lib.hid hc241
                        obtain rfl := Option.some.inj HB240.out
                        replace HL1 := Lib.hid (ifT (by first | rfl | trivial) HL1.out)
                        go_wp2_with fail
                        try clear hc217 hc217d hc241
                        go_roundg g1
                        case measure => omega
                        case rel => exact ⟨false, (wrap64 (x194 + 1)), rfl, rfl, HW1, HL1⟩
                      · replace HB240 := Lib.hid (ifF hc241 HB240.out)
                        have hc241d := decide_eq_false hc241
                        have HK242 := Lib.hid hc241
                        rcases Bool.eq_false_or_eq_true (((y205).length : Int) == ((v2).length : Int)) with hc243 | hc243
                        · replace HB240 := Lib.hid (ifT hc243 HB240.out)
                          have HK244 := Lib.hid hc243
                          rcases Bool.eq_false_or_eq_true (x210 != (wrap64 (Int.tdiv (wrap64 (((y205).length : Int) * (wrap64 (((y205).length : Int) - 1)))) 2))) with hc245 | hc245
                          · replace HB240 := Lib.hid (ifT hc245 HB240.out)
                            have HK246 := Lib.hid hc245
                            obtain rfl := Option.some.inj HB240.out
                            replace HL1 := Lib.hid (ifT (by first | rfl | trivial) HL1.out)
                            go_wp2_with fail
                            try clear hc217 hc217d hc241 hc241d hc243 hc245
                            go_roundg g1
                            case measure => omega
                            case rel => exact ⟨false, (wrap64 (x194 + 1)), rfl, rfl, HW1, HL1⟩
                          · replace HB240 := Lib.hid (ifF (bF hc245) HB240.out)
                            have HK246 := Lib.hid hc245
                            obtain rfl := Option.some.inj HB240.out
                            replace HL1 := Lib.hid (ifF (by first | exact Bool.false_ne_true | exact not_false) HL1.out)
                            go_wp2_with fail
                            try clear hc217 hc217d hc241 hc241d hc243 hc245
                            go_roundg g1
                            case measure => omega
                            case rel => exact ⟨x193, (wrap64 (x194 + 1)), rfl, rfl, HW1, HL1⟩
                        · replace HB240 := Lib.hid (ifF (bF hc243) HB240.out)
                          have HK244 := Lib.hid hc243
                          obtain rfl := Option.some.inj HB240.out
                          replace HL1 := Lib.hid (ifF (by first | exact Bool.false_ne_true | exact not_false) HL1.out)
                          go_wp2_with fail
                          try clear hc217 hc217d hc241 hc241d hc243
                          go_roundg g1
                          case measure => omega
                          case rel => exact ⟨x193, (wrap64 (x194 + 1)), rfl, rfl, HW1, HL1⟩
              · replace HL1 := Lib.hid (ifF hc201 HL1.out)
                have hc201d := decide_eq_false hc201
                have HK202 := Lib.hid hc201
                obtain rfl := Option.some.inj HL1.out
                have hm := HM.out; try dsimp only at hm
                replace HM := Lib.hid hm; clear hm
                obtain ⟨b247, hb, hm⟩ := obind HM.out
                replace HM := Lib.hid hm; have HB248 := Lib.hid hb; clear hm hb
                cases y181
                · cases x193
                  · replace HB248 := Lib.hid (ifT (by decide) HB248.out)
                    obtain rfl := Option.some.inj HB248.out
                    obtain rfl := Option.some.inj HM.out
                    go_wp2_with fail
                    refine HC199.out.mono ?_; rintro e w' ⟨rfl, rfl⟩
                    go_wp2_with fail
                    go_ret
                    exact ⟨(by first | rfl | (refine congrArg (fun b => Ending.returned (Value.bool b)) ?_; first | (exact decide_eq_true (by omega)) | (exact decide_eq_false (by omega)) | (have q := hc201; rw [bne_iff_ne] at q ⊢; omega) | (have q := hc201; rw [bne_eq_false_iff_eq] at q ⊢; omega) | (have q := hc201; rw [beq_iff_eq] at q ⊢; omega) | (have q := hc201; rw [beq_eq_false_iff_ne] at q ⊢; omega) | (have q := hc201d; rw [bne_iff_ne] at q ⊢; omega) | (have q := hc201d; rw [bne_eq_false_iff_eq] at q ⊢; omega) | (have q := hc201d; rw [beq_iff_eq] at q ⊢; omega) | (have q := hc201d; rw [beq_eq_false_iff_ne] at q ⊢; omega))), HD.out⟩
                  · replace HB248 := Lib.hid (ifF (by decide) HB248.out)
                    obtain rfl := Option.some.inj HB248.out
                    obtain rfl := Option.some.inj HM.out
                    go_wp2_with fail
                    refine HC199.out.mono ?_; rintro e w' ⟨rfl, rfl⟩
                    go_wp2_with fail
                    go_ret
                    exact ⟨(by first | rfl | (refine congrArg (fun b => Ending.returned (Value.bool b)) ?_; first | (exact decide_eq_true (by omega)) | (exact decide_eq_false (by omega)) | (have q := hc201; rw [bne_iff_ne] at q ⊢; omega) | (have q := hc201; rw [bne_eq_false_iff_eq] at q ⊢; omega) | (have q := hc201; rw [beq_iff_eq] at q ⊢; omega) | (have q := hc201; rw [beq_eq_false_iff_ne] at q ⊢; omega) | (have q := hc201d; rw [bne_iff_ne] at q ⊢; omega) | (have q := hc201d; rw [bne_eq_false_iff_eq] at q ⊢; omega) | (have q := hc201d; rw [beq_iff_eq] at q ⊢; omega) | (have q := hc201d; rw [beq_eq_false_iff_ne] at q ⊢; omega))), HD.out⟩
                · cases x193
                  · replace HB248 := Lib.hid (ifF (by decide) HB248.out)
                    obtain rfl := Option.some.inj HB248.out
                    obtain rfl := Option.some.inj HM.out
                    go_wp2_with fail
                    refine HC199.out.mono ?_; rintro e w' ⟨rfl, rfl⟩
                    go_wp2_with fail
                    go_ret
                    exact ⟨(by first | rfl | (refine congrArg (fun b => Ending.returned (Value.bool b)) ?_; first | (exact decide_eq_true (by omega)) | (exact decide_eq_false (by omega)) | (have q := hc201; rw [bne_iff_ne] at q ⊢; omega) | (have q := hc201; rw [bne_eq_false_iff_eq] at q ⊢; omega) | (have q := hc201; rw [beq_iff_eq] at q ⊢; omega) | (have q := hc201; rw [beq_eq_false_iff_ne] at q ⊢; omega) | (have q := hc201d; rw [bne_iff_ne] at q ⊢; omega) | (have q := hc201d; rw [bne_eq_false_iff_eq] at q ⊢; omega) | (have q := hc201d; rw [beq_iff_eq] at q ⊢; omega) | (have q := hc201d; rw [beq_eq_false_iff_ne] at q ⊢; omega))), HD.out⟩
                  · replace HB248 := Lib.hid (ifT (by decide) HB248.out)
                    obtain rfl := Option.some.inj HB248.out
                    obtain rfl := Option.some.inj HM.out
                    go_wp2_with fail
                    refine HC199.out.mono ?_; rintro e w' ⟨rfl, rfl⟩
                    go_wp2_with fail
                    go_ret
                    exact ⟨(by first | rfl | (refine congrArg (fun b => Ending.returned (Value.bool b)) ?_; first | (exact decide_eq_true (by omega)) | (exact decide_eq_false (by omega)) | (have q := hc201; rw [bne_iff_ne] at q ⊢; omega) | (have q := hc201; rw [bne_eq_false_iff_eq] at q ⊢; omega) | (have q := hc201; rw [beq_iff_eq] at q ⊢; omega) | (have q := hc201; rw [beq_eq_false_iff_ne] at q ⊢; omega) | (have q := hc201d; rw [bne_iff_ne] at q ⊢; omega) | (have q := hc201d; rw [bne_eq_false_iff_eq] at q ⊢; omega) | (have q := hc201d; rw [beq_iff_eq] at q ⊢; omega) | (have q := hc201d; rw [beq_eq_false_iff_ne] at q ⊢; omega))), HD.out⟩
      · rw [errV_pos _ hz183] at HC180; replace HC180 := Lib.hid HC180
        go_wp2_with fail
        refine HC180.out.mono ?_; rintro e W185 ⟨rfl, hd⟩
        replace HOA := Lib.hid (HOA.out.below hd)
        replace HD := Lib.hid (HD.out.trans (hd.mono HD.out.size))
        clear hd
        have HZ186 := Lib.hid hz183; clear hz183
        replace HM := Lib.hid (ifT (bne_iff_ne.2 HZ186.out) HM.out)
        obtain ⟨b249, hb, hm⟩ := obind HM.out
        replace HM := Lib.hid hm; have HB250 := Lib.hid hb; clear hm hb
        cases y181
        · replace HB250 := Lib.hid (ifF Bool.false_ne_true HB250.out)
          obtain rfl := Option.some.inj HB250.out
          obtain rfl := Option.some.inj HM.out
          go_wp2_with fail
          go_ret
          exact ⟨rfl, HD.out⟩
        · replace HB250 := Lib.hid (ifT rfl HB250.out)
          obtain rfl := Option.some.inj HB250.out
          obtain rfl := Option.some.inj HM.out
          go_wp2_with fail
          go_ret
          exact ⟨rfl, HD.out⟩
end Go.Proofs.Ytabkmceajgpdjaa
