import Derived.Test.YtfaemblfffbmfaaR8
import Derived.Test.YtfaemblfffbmfaaR7
set_option linter.all false
set_option maxRecDepth 100000
namespace Go.Proofs.Ytfaemblfffbmfaa
open Go.RowKit
def L4_RankTake_L1 (F : Nat) (v2 : List Int) (v5 : List Int) : Nat → (Int) → (Int) → Option (Int × Int)
  | 0, _, _ => none
  | g+1, v8, v9 => if v9 < ((v5).length : Int) then (ix v5 v9).bind fun y12 => (ix v2 y12).bind fun y13 => L4_RankTake_L1 F v2 v5 g ((wrap64 (v8 + y13))) ((wrap64 (v9 + 1))) else some (v8, v9)
theorem L4_RankTake_L1_0 (F : Nat) (v2 : List Int) (v5 : List Int) (v8 : Int) (v9 : Int) : L4_RankTake_L1 F v2 v5 0 v8 v9 = none := by rw [L4_RankTake_L1]
theorem L4_RankTake_L1_s (F g : Nat) (v2 : List Int) (v5 : List Int) (v8 : Int) (v9 : Int) : L4_RankTake_L1 F v2 v5 (g+1) v8 v9 = (if v9 < ((v5).length : Int) then (ix v5 v9).bind fun y12 => (ix v2 y12).bind fun y13 => L4_RankTake_L1 F v2 v5 g ((wrap64 (v8 + y13))) ((wrap64 (v9 + 1))) else some (v8, v9)) := by rw [L4_RankTake_L1]
def L4_RankTake_L2 (F : Nat) (v0 : Int) (v1 : List (List Int)) (v5 : List Int) : Nat → (Int) → Option ((Int) ⊕ (Bool))
  | 0, _ => none
  | g+1, v10 => if v10 < v0 then (((R1_Has F (v5) (v10)).bind fun y16 => if y16 = true then some false else (R1_Behind F (v5) (v10)).bind fun y17 => (R3_May F (v1) (y17)).bind fun y18 => if y18 = true then some true else some false).bind fun b15 => if b15 = true then some (.inr (false)) else L4_RankTake_L2 F v0 v1 v5 g ((wrap64 (v10 + 1)))) else some (.inl (v10))
theorem L4_RankTake_L2_0 (F : Nat) (v0 : Int) (v1 : List (List Int)) (v5 : List Int) (v10 : Int) : L4_RankTake_L2 F v0 v1 v5 0 v10 = none := by rw [L4_RankTake_L2]
theorem L4_RankTake_L2_s (F g : Nat) (v0 : Int) (v1 : List (List Int)) (v5 : List Int) (v10 : Int) : L4_RankTake_L2 F v0 v1 v5 (g+1) v10 = (if v10 < v0 then (((R1_Has F (v5) (v10)).bind fun y16 => if y16 = true then some false else (R1_Behind F (v5) (v10)).bind fun y17 => (R3_May F (v1) (y17)).bind fun y18 => if y18 = true then some true else some false).bind fun b15 => if b15 = true then some (.inr (false)) else L4_RankTake_L2 F v0 v1 v5 g ((wrap64 (v10 + 1)))) else some (.inl (v10))) := by rw [L4_RankTake_L2]
def L4_RankTake (F : Nat) (v0 : Int) (v1 : List (List Int)) (v2 : List Int) : Option (Bool) := (L4_rankFact F ).bind fun y1 => (if y1 = true then (rank_Greedy F (v0) (v1) (v2)).bind fun y2 => (if (y2.2.2 != 0) = true then (if (((y2.1).length : Int) == 0) = true then if (y2.2.1 == 0) = true then some true else some false else some false).bind fun b3 => some (b3) else ((((((R3_Lists F (v0) (v1)).bind fun y8 => if (y8 != 0) = true then some true else if (((v2).length : Int) != v0) = true then some true else some false).bind fun b7 => if b7 = true then some true else (R1_All F (y2.1) (0) ((wrap64 (v0 - 1)))).bind fun y9 => if y9 = true then some false else some true).bind fun b6 => if b6 = true then some true else (R1_Twice F (y2.1)).bind fun y10 => if y10 = true then some true else some false).bind fun b5 => if b5 = true then some true else (R3_May F (v1) (y2.1)).bind fun y11 => if y11 = true then some false else some true).bind fun b4 => if b4 = true then some (false) else (L4_RankTake_L1 F (v2) (y2.1) F (0) (0)).bind fun o14 => (L4_RankTake_L2 F (v0) (v1) (y2.1) F (0)).bind fun o19 => match o19 with | .inr r => some (r) | .inl o19 => (if (o14.1 == y2.2.1) = true then some true else some false).bind fun b20 => some (b20))) else some (false))
set_option maxRecDepth 100000 in
set_option maxHeartbeats 4000000 in
theorem L4_RankTake_ok {F : Nat} {v0 : Int} {v1 : List (List Int)} {A1 : Option Addr} {v2 : List Int} {A2 : Option Addr} {r : Bool} (w : World) (cap1 : Nat) (hr1 : ReadsR w w.heap.size A1 v1) (cap2 : Nat) (hr2 : ReadsI w w.heap.size A2 v2) (h : L4_RankTake F v0 v1 v2 = some r) :
    Calls Try.prog 5 #[.int .i64 v0, .slice A1 v1.length cap1, .slice A2 v2.length cap2] w fun e w' => e = .returned (.bool r) ∧ Below w.heap.size w w' := by
  have HR1 := Lib.hid hr1; clear hr1
  have HR2 := Lib.hid hr2; clear hr2
  have HD := Lib.hid (Below.refl w.heap.size w)
  have HOA := Lib.hid (HP.nil (W := w) (B := w.heap.size))
  unfold L4_RankTake at h
  have HM := Lib.hid h; clear h
  go_enter Try.func5, Try.ntmps5
  obtain ⟨y3, hy1, hm⟩ := obind HM.out
  replace HM := Lib.hid hm; clear hm
  have HC2 := L4_rankFact_ok w  hy1
  clear hy1
  replace HC2 := Lib.hid HC2
  go_wp2_with fail
  refine HC2.out.mono ?_; rintro e W4 ⟨rfl, hd⟩
  replace HOA := Lib.hid (HOA.out.below hd)
  replace HD := Lib.hid (HD.out.trans (hd.mono HD.out.size))
  clear hd
  cases y3
  · replace HM := Lib.hid (ifF Bool.false_ne_true HM.out)
    obtain rfl := Option.some.inj HM.out
    go_wp2_with fail
    go_ret
    exact ⟨rfl, HD.out⟩
  · replace HM := Lib.hid (ifT rfl HM.out)
    obtain ⟨⟨y7, y8, y9⟩, hy5, hm⟩ := obind HM.out
    dsimp only at hm
    replace HM := Lib.hid hm; clear hm
    have HC6 := rank_Greedy_ok W4 cap1 (rdR HD.out HR1.out) cap2 (rdI HD.out HR2.out) hy5
    clear hy5
    replace HC6 := Lib.hid HC6
    go_wp2_with fail
    refine HC6.out.mono ?_; rintro e W10 ⟨V11, rfl, ho, hd⟩
    replace HOA := Lib.hid (HOA.out.call hd HD.out.size ho); clear ho
    replace HD := Lib.hid (HD.out.trans (hd.mono HD.out.size))
    clear hd
    by_cases hz13 : y9 = 0
    · subst hz13
      try simp only [errV_zero]
      replace HM := Lib.hid (ifF (by decide) HM.out)
      go_upto_region 7 with (fail)
      obtain ⟨b15, hb, hm⟩ := obind HM.out
      replace HM := Lib.hid hm; have HB16 := Lib.hid hb; clear hm hb
      go_cut [60] (fun uq wr => uq = .bool b15 ∧ Hid (Below W10.heap.size W10 wr))
      case first =>
        have HWC17 := Lib.hid (Below.refl W10.heap.size W10)
        obtain ⟨b18, hb, hm⟩ := obind HB16.out
        replace HB16 := Lib.hid hm; have HB19 := Lib.hid hb; clear hm hb
        obtain ⟨b20, hb, hm⟩ := obind HB19.out
        replace HB19 := Lib.hid hm; have HB21 := Lib.hid hb; clear hm hb
        obtain ⟨b22, hb, hm⟩ := obind HB21.out
        replace HB21 := Lib.hid hm; have HB23 := Lib.hid hb; clear hm hb
        obtain ⟨y26, hy24, hm⟩ := obind HB23.out
        replace HB23 := Lib.hid hm; clear hm
        have HC25 := R3_Lists_ok W10 cap1 (rdR HD.out HR1.out) hy24
        clear hy24
        replace HC25 := Lib.hid HC25
        go_wp2_with fail
        refine HC25.out.mono ?_; rintro e W27 ⟨rfl, hd⟩
        replace HOA := Lib.hid (HOA.out.below (hd.below _))
        replace HD := Lib.hid (HD.out.trans ((hd.below _).mono HD.out.size))
        replace HWC17 := Lib.hid (HWC17.out.trans ((hd.below _).mono HWC17.out.size))
        clear hd
        rcases Bool.eq_false_or_eq_true (y26 != 0) with hc28 | hc28
        · replace HB23 := Lib.hid (ifT hc28 HB23.out)
          have HK29 := Lib.hid hc28
          obtain rfl := Option.some.inj HB23.out
          replace HB21 := Lib.hid (ifT (by first | rfl | trivial) HB21.out)
          obtain rfl := Option.some.inj HB21.out
          replace HB19 := Lib.hid (ifT (by first | rfl | trivial) HB19.out)
          obtain rfl := Option.some.inj HB19.out
          replace HB16 := Lib.hid (ifT (by first | rfl | trivial) HB16.out)
          cases Option.some.inj HB16.out
          try go_wp2_with fail
          go_meet
          case rel => exact ⟨rfl, HWC17⟩
        · replace HB23 := Lib.hid (ifF (bF hc28) HB23.out)
          have HK29 := Lib.hid hc28
          rcases Bool.eq_false_or_eq_true (((v2).length : Int) != v0) with hc30 | hc30
          · replace HB23 := Lib.hid (ifT hc30 HB23.out)
            have HK31 := Lib.hid hc30
            obtain rfl := Option.some.inj HB23.out
            replace HB21 := Lib.hid (ifT (by first | rfl | trivial) HB21.out)
            obtain rfl := Option.some.inj HB21.out
            replace HB19 := Lib.hid (ifT (by first | rfl | trivial) HB19.out)
            obtain rfl := Option.some.inj HB19.out
            replace HB16 := Lib.hid (ifT (by first | rfl | trivial) HB16.out)
            cases Option.some.inj HB16.out
            try go_wp2_with fail
            go_meet
            case rel => exact ⟨rfl, HWC17⟩
          · replace HB23 := Lib.hid (ifF (bF hc30) HB23.out)
            have HK31 := Lib.hid hc30
            obtain rfl := Option.some.inj HB23.out
            replace HB21 := Lib.hid (ifF (by first | exact Bool.false_ne_true | exact not_false) HB21.out)
            obtain ⟨y34, hy32, hm⟩ := obind HB21.out
            replace HB21 := Lib.hid hm; clear hm
            obtain ⟨A35, cap36, he, _⟩ := HP.open_I HOA.out (List.Mem.head _)
            subst he
            have HC33 := R1_All_ok W27 cap36 (HP.rd_I HOA.out (List.Mem.head _)) hy32
            clear hy32
            replace HC33 := Lib.hid HC33
            cases y34
            · replace HB21 := Lib.hid (ifF Bool.false_ne_true HB21.out)
              obtain rfl := Option.some.inj HB21.out
              replace HB19 := Lib.hid (ifT (by first | rfl | trivial) HB19.out)
              obtain rfl := Option.some.inj HB19.out
              replace HB16 := Lib.hid (ifT (by first | rfl | trivial) HB16.out)
              cases Option.some.inj HB16.out
              go_wp2_with fail
              refine HC33.out.mono ?_; rintro e w' ⟨rfl, rfl⟩
              try go_wp2_with fail
              go_meet
              case rel => exact ⟨rfl, HWC17⟩
            · replace HB21 := Lib.hid (ifT rfl HB21.out)
              obtain rfl := Option.some.inj HB21.out
              replace HB19 := Lib.hid (ifF (by first | exact Bool.false_ne_true | exact not_false) HB19.out)
              obtain ⟨y39, hy37, hm⟩ := obind HB19.out
              replace HB19 := Lib.hid hm; clear hm
              have HC38 := R1_Twice_ok W27 cap36 (HP.rd_I HOA.out (List.Mem.head _)) (HP.cap_I HOA.out (List.Mem.head _)) hy37
              clear hy37
              replace HC38 := Lib.hid HC38
              go_wp2_with fail
              refine HC33.out.mono ?_; rintro e w' ⟨rfl, rfl⟩
              go_wp2_with fail
              refine HC38.out.mono ?_; rintro e W40 ⟨rfl, hd⟩
              try clear hc28 hc30
              replace HOA := Lib.hid (HOA.out.below (hd.below _))
              replace HD := Lib.hid (HD.out.trans ((hd.below _).mono HD.out.size))
              replace HWC17 := Lib.hid (HWC17.out.trans ((hd.below _).mono HWC17.out.size))
              clear hd
              cases y39
              · replace HB19 := Lib.hid (ifF Bool.false_ne_true HB19.out)
                obtain rfl := Option.some.inj HB19.out
                replace HB16 := Lib.hid (ifF (by first | exact Bool.false_ne_true | exact not_false) HB16.out)
                obtain ⟨y43, hy41, hm⟩ := obind HB16.out
                replace HB16 := Lib.hid hm; clear hm
                have HC42 := R3_May_ok W40 cap1 (rdR HD.out HR1.out) cap36 (HP.rd_I HOA.out (List.Mem.head _)) hy41
                clear hy41
                replace HC42 := Lib.hid HC42
                go_wp2_with fail
                refine HC42.out.mono ?_; rintro e W44 ⟨rfl, hd⟩
                replace HOA := Lib.hid (HOA.out.below (hd.below _))
                replace HD := Lib.hid (HD.out.trans ((hd.below _).mono HD.out.size))
                replace HWC17 := Lib.hid (HWC17.out.trans ((hd.below _).mono HWC17.out.size))
                clear hd
                cases y43
                · replace HB16 := Lib.hid (ifF Bool.false_ne_true HB16.out)
                  cases Option.some.inj HB16.out
                  try go_wp2_with fail
                  go_meet
                  case rel => exact ⟨rfl, HWC17⟩
                · replace HB16 := Lib.hid (ifT rfl HB16.out)
                  cases Option.some.inj HB16.out
                  try go_wp2_with fail
                  go_meet
                  case rel => exact ⟨rfl, HWC17⟩
              · replace HB19 := Lib.hid (ifT rfl HB19.out)
                obtain rfl := Option.some.inj HB19.out
                replace HB16 := Lib.hid (ifT (by first | rfl | trivial) HB16.out)
                cases Option.some.inj HB16.out
                try go_wp2_with fail
                go_meet
                case rel => exact ⟨rfl, HWC17⟩
      case rest =>
        as_aux_lemma =>
          obtain ⟨rfl, HWC17⟩ := hcut
          rename World => W45
          have hd := HWC17.out
          replace HOA := Lib.hid (HOA.out.below hd)
          replace HD := Lib.hid (HD.out.trans (hd.mono HD.out.size))
          clear hd
          cases b15
          · replace HM := Lib.hid (ifF Bool.false_ne_true HM.out)
            go_wp2_with fail
            obtain ⟨o46, ho, hm⟩ := obind HM.out
            replace HM := Lib.hid hm; have HL1 := Lib.hid ho; clear hm ho
            go_loopg [11, 12] F (fun gg ux49 ux50 wr => ∃ (x47 : Int) (x48 : Int), ux49 = .int .i64 x47 ∧ ux50 = .int .i64 x48 ∧ Hid (Below W45.heap.size W45 wr) ∧ Hid (L4_RankTake_L1 F (v2) (y7) gg x47 x48 = some o46))
            case atStart => exact ⟨0, 0, rfl, rfl, (Lib.hid (Below.refl _ _)), HL1⟩
            case round =>
              obtain ⟨x47, x48, rfl, rfl, HW1, HL1⟩ := hrel
              rename World => W51
              have hd := HW1.out
              replace HOA := Lib.hid (HOA.out.below hd)
              replace HD := Lib.hid (HD.out.trans (hd.mono HD.out.size))
              clear hd
              cases gk with
              | zero => exact absurd ((L4_RankTake_L1_0 ..).symm.trans HL1.out) (by intro h; cases h)
              | succ g1 =>
                replace HL1 := Lib.hid ((L4_RankTake_L1_s ..).symm.trans HL1.out)
                obtain ⟨A52, cap53, he, _⟩ := HP.open_I HOA.out (List.Mem.head _)
                subst he
                by_cases hc54 : x48 < ((y7).length : Int)
                · replace HL1 := Lib.hid (ifT hc54 HL1.out)
                  have HK55 := Lib.hid hc54
                  obtain ⟨y56, hy57, hm⟩ := obind HL1.out
                  replace HL1 := Lib.hid hm; clear hm
                  obtain ⟨b58, o59, ea60, _, f61, f62, f63⟩ := ReadsI.ix (HP.rd_I HOA.out (List.Mem.head _)) hy57
                  cases ea60
                  try simp only [Nat.zero_add, Nat.add_zero, Int.toNat_natCast, Int.toNat_zero, Int.toNat_one] at f63
                  try rw [← HP.len_I HOA.out (List.Mem.head _)] at f62
                  have HY65 := Lib.hid hy57; clear hy57
                  obtain ⟨y66, hy67, hm⟩ := obind HL1.out
                  replace HL1 := Lib.hid hm; clear hm
                  obtain ⟨b68, o69, ea70, _, f71, f72, f73⟩ := ReadsI.ix (rdI HD.out HR2.out) hy67
                  cases ea70
                  try simp only [Nat.zero_add, Nat.add_zero, Int.toNat_natCast, Int.toNat_zero, Int.toNat_one] at f73
                  have HY75 := Lib.hid hy67; clear hy67
                  go_wp2_with fail
                  try clear hc54 f61 f62 f63 f71 f72 f73
                  go_roundg g1
                  case measure => omega
                  case rel => exact ⟨(wrap64 (x47 + y66)), (wrap64 (x48 + 1)), rfl, rfl, HW1, HL1⟩
                · replace HL1 := Lib.hid (ifF hc54 HL1.out)
                  have hc54d := decide_eq_false hc54
                  have HK55 := Lib.hid hc54
                  obtain rfl := Option.some.inj HL1.out
                  have hm := HM.out; try dsimp only at hm
                  replace HM := Lib.hid hm; clear hm
                  go_wp2_with fail
                  try clear hc54 hc54d
                  obtain ⟨o76, ho, hm⟩ := obind HM.out
                  replace HM := Lib.hid hm; have HL2 := Lib.hid ho; clear hm ho
                  go_loopg [13] F (fun gg ux78 wr => ∃ (x77 : Int), ux78 = .int .i64 x77 ∧ Hid (Below W51.heap.size W51 wr) ∧ Hid (L4_RankTake_L2 F (v0) (v1) (y7) gg x77 = some o76))
                  case atStart => exact ⟨0, rfl, (Lib.hid (Below.refl _ _)), HL2⟩
                  case round =>
                    obtain ⟨x77, rfl, HW2, HL2⟩ := hrel
                    rename World => W79
                    have hd := HW2.out
                    replace HOA := Lib.hid (HOA.out.below hd)
                    replace HD := Lib.hid (HD.out.trans (hd.mono HD.out.size))
                    clear hd
                    cases gk with
                    | zero => exact absurd ((L4_RankTake_L2_0 ..).symm.trans HL2.out) (by intro h; cases h)
                    | succ g2 =>
                      replace HL2 := Lib.hid ((L4_RankTake_L2_s ..).symm.trans HL2.out)
                      by_cases hc80 : x77 < v0
                      · replace HL2 := Lib.hid (ifT hc80 HL2.out)
                        have HK81 := Lib.hid hc80
                        obtain ⟨b82, hb, hm⟩ := obind HL2.out
                        replace HL2 := Lib.hid hm; have HB83 := Lib.hid hb; clear hm hb
                        obtain ⟨y86, hy84, hm⟩ := obind HB83.out
                        replace HB83 := Lib.hid hm; clear hm
                        have HC85 := R1_Has_ok W79 cap53 (HP.rd_I HOA.out (List.Mem.head _)) hy84
                        clear hy84
                        replace HC85 := Lib.hid HC85
                        cases y86
                        · replace HB83 := Lib.hid (ifF Bool.false_ne_true HB83.out)
                          obtain ⟨y89, hy87, hm⟩ := obind HB83.out
                          replace HB83 := Lib.hid hm; clear hm
                          have HC88 := R1_Behind_ok W79 cap53 (HP.rd_I HOA.out (List.Mem.head _)) hy87
                          clear hy87
                          replace HC88 := Lib.hid HC88
                          go_wp2_with fail
                          refine HC85.out.mono ?_; rintro e w' ⟨rfl, rfl⟩
                          go_wp2_with fail
                          refine HC88.out.mono ?_; rintro e W90 ⟨V91, rfl, ho, hd⟩
                          try clear hc80
                          replace HOA := Lib.hid (HOA.out.call hd HD.out.size ho); clear ho
                          replace HD := Lib.hid (HD.out.trans (hd.mono HD.out.size))
                          replace HW2 := Lib.hid (HW2.out.trans (hd.mono HW2.out.size))
                          clear hd
                          obtain ⟨y95, hy93, hm⟩ := obind HB83.out
                          replace HB83 := Lib.hid hm; clear hm
                          obtain ⟨A96, cap97, he, _⟩ := HP.open_I HOA.out (List.Mem.head _)
                          subst he
                          have HC94 := R3_May_ok W90 cap1 (rdR HD.out HR1.out) cap97 (HP.rd_I HOA.out (List.Mem.head _)) hy93
                          clear hy93
                          replace HC94 := Lib.hid HC94
                          go_wp2_with fail
                          refine HC94.out.mono ?_; rintro e W98 ⟨rfl, hd⟩
                          replace HOA := Lib.hid (HOA.out.below (hd.below _))
                          replace HD := Lib.hid (HD.out.trans ((hd.below _).mono HD.out.size))
                          replace HW2 := Lib.hid (HW2.out.trans ((hd.below _).mono HW2.out.size))
                          clear hd
                          cases y95
                          · replace HB83 := Lib.hid (ifF Bool.false_ne_true HB83.out)
                            obtain rfl := Option.some.inj HB83.out
                            replace HL2 := Lib.hid (ifF (by first | exact Bool.false_ne_true | exact not_false) HL2.out)
                            go_wp2_with fail
                            go_roundg g2
                            case measure => omega
                            case rel => exact ⟨(wrap64 (x77 + 1)), rfl, HW2, HL2⟩
                          · replace HB83 := Lib.hid (ifT rfl HB83.out)
                            obtain rfl := Option.some.inj HB83.out
                            replace HL2 := Lib.hid (ifT (by first | rfl | trivial) HL2.out)
                            obtain rfl := Option.some.inj HL2.out
                            have hm := HM.out; try dsimp only at hm
                            replace HM := Lib.hid hm; clear hm
                            obtain rfl := Option.some.inj HM.out
                            go_wp2_with fail
                            go_ret
                            exact ⟨rfl, HD.out⟩
                        · replace HB83 := Lib.hid (ifT rfl HB83.out)
                          obtain rfl := Option.some.inj HB83.out
                          replace HL2 := Lib.hid (ifF (by first | exact Bool.false_ne_true | exact not_false) HL2.out)
                          go_wp2_with fail
                          refine HC85.out.mono ?_; rintro e w' ⟨rfl, rfl⟩
                          go_wp2_with fail
                          try clear hc80
                          go_roundg g2
                          case measure => omega
                          case rel => exact ⟨(wrap64 (x77 + 1)), rfl, HW2, HL2⟩
                      · replace HL2 := Lib.hid (ifF hc80 HL2.out)
                        have hc80d := decide_eq_false hc80
                        have HK81 := Lib.hid hc80
                        obtain rfl := Option.some.inj HL2.out
                        have hm := HM.out; try dsimp only at hm
                        replace HM := Lib.hid hm; clear hm
                        obtain ⟨b99, hb, hm⟩ := obind HM.out
                        replace HM := Lib.hid hm; have HB100 := Lib.hid hb; clear hm hb
                        rcases Bool.eq_false_or_eq_true (x47 == y8) with hc101 | hc101
                        · replace HB100 := Lib.hid (ifT hc101 HB100.out)
                          have HK102 := Lib.hid hc101
                          obtain rfl := Option.some.inj HB100.out
                          obtain rfl := Option.some.inj HM.out
                          go_wp2_with fail
                          go_ret
                          exact ⟨(by first | rfl | (refine congrArg (fun b => Ending.returned (Value.bool b)) ?_; first | (exact decide_eq_true (by omega)) | (exact decide_eq_false (by omega)) | (have q := hc80d; rw [bne_iff_ne] at q ⊢; omega) | (have q := hc80d; rw [bne_eq_false_iff_eq] at q ⊢; omega) | (have q := hc80d; rw [beq_iff_eq] at q ⊢; omega) | (have q := hc80d; rw [beq_eq_false_iff_ne] at q ⊢; omega) | (have q := hc101; rw [bne_iff_ne] at q ⊢; omega) | (have q := hc101; rw [bne_eq_false_iff_eq] at q ⊢; omega) | (have q := hc101; rw [beq_iff_eq] at q ⊢; omega) | (have q := hc101; rw [beq_eq_false_iff_ne] at q ⊢; omega))), HD.out⟩
                        · replace HB100 := Lib.hid (ifF (bF hc101) HB100.out)
                          have HK102 := Lib.hid hc101
                          obtain rfl := Option.some.inj HB100.out
                          obtain rfl := Option.some.inj HM.out
                          go_wp2_with fail
                          go_ret
                          exact ⟨(by first | rfl | (refine congrArg (fun b => Ending.returned (Value.bool b)) ?_; first | (exact decide_eq_true (by omega)) | (exact decide_eq_false (by omega)) | (have q := hc80d; rw [bne_iff_ne] at q ⊢; omega) | (have q := hc80d; rw [bne_eq_false_iff_eq] at q ⊢; omega) | (have q := hc80d; rw [beq_iff_eq] at q ⊢; omega) | (have q := hc80d; rw [beq_eq_false_iff_ne] at q ⊢; omega) | (have q := hc101; rw [bne_iff_ne] at q ⊢; omega) | (have q := hc101; rw [bne_eq_false_iff_eq] at q ⊢; omega) | (have q := hc101; rw [beq_iff_eq] at q ⊢; omega) | (have q := hc101; rw [beq_eq_false_iff_ne] at q ⊢; omega))), HD.out⟩
          · replace HM := Lib.hid (ifT rfl HM.out)
            obtain rfl := Option.some.inj HM.out
            go_wp2_with fail
            go_ret
            exact ⟨rfl, HD.out⟩
    · try rw [errV_pos _ hz13]
      have HZ14 := Lib.hid hz13; clear hz13
      replace HM := Lib.hid (ifT (bne_iff_ne.2 HZ14.out) HM.out)
      obtain ⟨b103, hb, hm⟩ := obind HM.out
      replace HM := Lib.hid hm; have HB104 := Lib.hid hb; clear hm hb
      obtain ⟨A105, cap106, he, _⟩ := HP.open_I HOA.out (List.Mem.head _)
      subst he
      rcases Bool.eq_false_or_eq_true (((y7).length : Int) == 0) with hc107 | hc107
      · replace HB104 := Lib.hid (ifT hc107 HB104.out)
        have HK108 := Lib.hid hc107
        rcases Bool.eq_false_or_eq_true (y8 == 0) with hc109 | hc109
        · replace HB104 := Lib.hid (ifT hc109 HB104.out)
          have HK110 := Lib.hid hc109
          obtain rfl := Option.some.inj HB104.out
          obtain rfl := Option.some.inj HM.out
          go_wp2_with fail
          go_ret
          exact ⟨(by first | rfl | (refine congrArg (fun b => Ending.returned (Value.bool b)) ?_; first | (exact decide_eq_true (by omega)) | (exact decide_eq_false (by omega)) | (have q := hc107; rw [bne_iff_ne] at q ⊢; omega) | (have q := hc107; rw [bne_eq_false_iff_eq] at q ⊢; omega) | (have q := hc107; rw [beq_iff_eq] at q ⊢; omega) | (have q := hc107; rw [beq_eq_false_iff_ne] at q ⊢; omega) | (have q := hc109; rw [bne_iff_ne] at q ⊢; omega) | (have q := hc109; rw [bne_eq_false_iff_eq] at q ⊢; omega) | (have q := hc109; rw [beq_iff_eq] at q ⊢; omega) | (have q := hc109; rw [beq_eq_false_iff_ne] at q ⊢; omega))), HD.out⟩
        · replace HB104 := Lib.hid (ifF (bF hc109) HB104.out)
          have HK110 := Lib.hid hc109
          obtain rfl := Option.some.inj HB104.out
          obtain rfl := Option.some.inj HM.out
          go_wp2_with fail
          go_ret
          exact ⟨(by first | rfl | (refine congrArg (fun b => Ending.returned (Value.bool b)) ?_; first | (exact decide_eq_true (by omega)) | (exact decide_eq_false (by omega)) | (have q := hc107; rw [bne_iff_ne] at q ⊢; omega) | (have q := hc107; rw [bne_eq_false_iff_eq] at q ⊢; omega) | (have q := hc107; rw [beq_iff_eq] at q ⊢; omega) | (have q := hc107; rw [beq_eq_false_iff_ne] at q ⊢; omega) | (have q := hc109; rw [bne_iff_ne] at q ⊢; omega) | (have q := hc109; rw [bne_eq_false_iff_eq] at q ⊢; omega) | (have q := hc109; rw [beq_iff_eq] at q ⊢; omega) | (have q := hc109; rw [beq_eq_false_iff_ne] at q ⊢; omega))), HD.out⟩
      · replace HB104 := Lib.hid (ifF (bF hc107) HB104.out)
        have HK108 := Lib.hid hc107
        obtain rfl := Option.some.inj HB104.out
        obtain rfl := Option.some.inj HM.out
        go_wp2_with fail
        go_ret
        exact ⟨(by first | rfl | (refine congrArg (fun b => Ending.returned (Value.bool b)) ?_; first | (exact decide_eq_true (by omega)) | (exact decide_eq_false (by omega)) | (have q := hc107; rw [bne_iff_ne] at q ⊢; omega) | (have q := hc107; rw [bne_eq_false_iff_eq] at q ⊢; omega) | (have q := hc107; rw [beq_iff_eq] at q ⊢; omega) | (have q := hc107; rw [beq_eq_false_iff_ne] at q ⊢; omega))), HD.out⟩
end Go.Proofs.Ytfaemblfffbmfaa
