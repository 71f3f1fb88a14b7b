import Derived.Test.YtlecmgdkoanghaaCb
import Derived.Test.YtlecmgdkoanghaaLa
import Derived.Test.YtlecmgdkoanghaaGR
import Derived.Test.YtlecmgdkoanghaaSlc
import Derived.Test.YtlecmgdkoanghaaBox
set_option linter.all false
set_option maxRecDepth 100000
namespace Go.Proofs.Ytlecmgdkoanghaa
open Go.RowKit
attribute [local go_sem] Oper.semAt_some
def L3_ColorLast_L3 (F : Nat) (v1 : List (Int × Int)) (v9 : List Int) (v11 : Int) : Nat → (Int) → (Int) → Option (Int × Int)
  | 0, _, _ => none
  | g+1, v12, v13 => if v13 < ((v9).length : Int) then ((ix v9 v11).bind fun y12 => (ix v9 v13).bind fun y13 => (R1_Beside F (v1) (y12) (y13)).bind fun y14 => if y14 = true then L3_ColorLast_L3 F v1 v9 v11 g ((wrap64 (v12 + 1))) ((wrap64 (v13 + 1))) else L3_ColorLast_L3 F v1 v9 v11 g (v12) ((wrap64 (v13 + 1)))) else some (v12, v13)
theorem L3_ColorLast_L3_0 (F : Nat) (v1 : List (Int × Int)) (v9 : List Int) (v11 : Int) (v12 : Int) (v13 : Int) : L3_ColorLast_L3 F v1 v9 v11 0 v12 v13 = none := by rw [L3_ColorLast_L3]
theorem L3_ColorLast_L3_s (F g : Nat) (v1 : List (Int × Int)) (v9 : List Int) (v11 : Int) (v12 : Int) (v13 : Int) : L3_ColorLast_L3 F v1 v9 v11 (g+1) v12 v13 = (if v13 < ((v9).length : Int) then ((ix v9 v11).bind fun y12 => (ix v9 v13).bind fun y13 => (R1_Beside F (v1) (y12) (y13)).bind fun y14 => if y14 = true then L3_ColorLast_L3 F v1 v9 v11 g ((wrap64 (v12 + 1))) ((wrap64 (v13 + 1))) else L3_ColorLast_L3 F v1 v9 v11 g (v12) ((wrap64 (v13 + 1)))) else some (v12, v13)) := by rw [L3_ColorLast_L3]
def L3_ColorLast_L2 (F : Nat) (v1 : List (Int × Int)) (v5 : Int) (v9 : List Int) : Nat → (Bool) → (Int) → Option (Bool × Int)
  | 0, _, _ => none
  | g+1, v10, v11 => if v11 < ((v9).length : Int) then (L3_ColorLast_L3 F (v1) (v9) (v11) F (0) (0)).bind fun o15 => (if v10 = true then if v5 ≤ o15.1 then some true else some false else some false).bind fun b16 => L3_ColorLast_L2 F v1 v5 v9 g (b16) ((wrap64 (v11 + 1))) else some (v10, v11)
theorem L3_ColorLast_L2_0 (F : Nat) (v1 : List (Int × Int)) (v5 : Int) (v9 : List Int) (v10 : Bool) (v11 : Int) : L3_ColorLast_L2 F v1 v5 v9 0 v10 v11 = none := by rw [L3_ColorLast_L2]
theorem L3_ColorLast_L2_s (F g : Nat) (v1 : List (Int × Int)) (v5 : Int) (v9 : List Int) (v10 : Bool) (v11 : Int) : L3_ColorLast_L2 F v1 v5 v9 (g+1) v10 v11 = (if v11 < ((v9).length : Int) then (L3_ColorLast_L3 F (v1) (v9) (v11) F (0) (0)).bind fun o15 => (if v10 = true then if v5 ≤ o15.1 then some true else some false else some false).bind fun b16 => L3_ColorLast_L2 F v1 v5 v9 g (b16) ((wrap64 (v11 + 1))) else some (v10, v11)) := by rw [L3_ColorLast_L2]
def L3_ColorLast_L1 (F : Nat) (v0 : Int) (v1 : List (Int × Int)) (v5 : Int) : Nat → (Int) → Option ((Int) ⊕ (Bool))
  | 0, _ => none
  | g+1, v8 => (R3_Power F (v0)).bind fun y10 => if v8 < y10 then (R3_Members F (v8)).bind fun y11 => (L3_ColorLast_L2 F (v1) (v5) (y11) F (true) (0)).bind fun o17 => (if o17.1 = true then some (.inr (true)) else L3_ColorLast_L1 F v0 v1 v5 g ((wrap64 (v8 + 1)))) else some (.inl (v8))
theorem L3_ColorLast_L1_0 (F : Nat) (v0 : Int) (v1 : List (Int × Int)) (v5 : Int) (v8 : Int) : L3_ColorLast_L1 F v0 v1 v5 0 v8 = none := by rw [L3_ColorLast_L1]
theorem L3_ColorLast_L1_s (F g : Nat) (v0 : Int) (v1 : List (Int × Int)) (v5 : Int) (v8 : Int) : L3_ColorLast_L1 F v0 v1 v5 (g+1) v8 = ((R3_Power F (v0)).bind fun y10 => if v8 < y10 then (R3_Members F (v8)).bind fun y11 => (L3_ColorLast_L2 F (v1) (v5) (y11) F (true) (0)).bind fun o17 => (if o17.1 = true then some (.inr (true)) else L3_ColorLast_L1 F v0 v1 v5 g ((wrap64 (v8 + 1)))) else some (.inl (v8))) := by rw [L3_ColorLast_L1]
def L3_ColorLast (F : Nat) (v0 : Int) (v1 : List (Int × Int)) : Option (Bool) := (L3_colorFact F ).bind fun y1 => (if y1 = true then (color_Last F (v0) (v1)).bind fun y2 => (if (y2.2.2 != 0) = true then (if (((y2.1).length : Int) == 0) = true then if (y2.2.1 == 0) = true then some true else some false else some false).bind fun b3 => some (b3) else (color_By F (v0) (v1) (y2.1)).bind fun y4 => ((((if (y4.2 != 0) = true then some true else if (((y4.1).length : Int) != v0) = true then some true else some false).bind fun b7 => if b7 = true then some true else (R1_Lines F (v0) (v1)).bind fun y8 => if (y8 != 0) = true then some true else some false).bind fun b6 => if b6 = true then some true else (R1_All F (y4.1) (0) (y2.2.1)).bind fun y9 => if y9 = true then some false else some true).bind fun b5 => if b5 = true then some (false) else (L3_ColorLast_L1 F (v0) (v1) (y2.2.1) F (1)).bind fun o18 => match o18 with | .inr r => some (r) | .inl o18 => some (false))) else some (false))
set_option maxRecDepth 100000 in
set_option maxHeartbeats 4000000 in
theorem L3_ColorLast_ok {F : Nat} {v0 : Int} {v1 : List (Int × Int)} {A1 : Option Addr} {r : Bool} (w : World) (cap1 : Nat) (hr1 : ReadsL w w.heap.size A1 v1) (h : L3_ColorLast F v0 v1 = some r) :
    Calls Try.prog 5 #[.int .i64 v0, .slice A1 v1.length cap1] w fun e w' => e = .returned (.bool r) ∧ Below w.heap.size w w' := by
  have HR1 := Lib.hid hr1; clear hr1
  have HD := Lib.hid (Below.refl w.heap.size w)
  have HOA := Lib.hid (HP.nil (W := w) (B := w.heap.size))
  unfold L3_ColorLast at h
  have HM := Lib.hid h; clear h
  go_enter Try.func5, Try.ntmps5
  obtain ⟨y3, hy1, hm⟩ := obind HM.out
  replace HM := Lib.hid hm; clear hm
  have HC2 := L3_colorFact_ok w  hy1
  clear hy1
  replace HC2 := Lib.hid HC2
  go_wp2_with fail
  refine HC2.out.mono ?_; rintro e W4 ⟨rfl, hd⟩
  replace HOA := Lib.hid (HOA.out.below hd)
  replace HD := Lib.hid (HD.out.trans (hd.mono HD.out.size))
  clear hd
  cases y3
  · replace HM := Lib.hid (ifF Bool.false_ne_true HM.out)
    obtain rfl := Option.some.inj HM.out
    go_wp2_with fail
    go_ret
    exact ⟨rfl, HD.out⟩
  · replace HM := Lib.hid (ifT rfl HM.out)
    obtain ⟨⟨y7, y8, y9⟩, hy5, hm⟩ := obind HM.out
    dsimp only at hm
    replace HM := Lib.hid hm; clear hm
    have HC6 := color_Last_ok W4 cap1 (rdL HD.out HR1.out) hy5
    clear hy5
    by_cases hz10 : y9 = 0
    · subst hz10
      rw [errV_zero] at HC6; replace HC6 := Lib.hid HC6
      go_wp2_with fail
      refine HC6.out.mono ?_; rintro e W11 ⟨V12, rfl, ho, hd⟩
      replace HOA := Lib.hid (HOA.out.call hd HD.out.size ho); clear ho
      replace HD := Lib.hid (HD.out.trans (hd.mono HD.out.size))
      clear hd
      replace HM := Lib.hid (ifF (by decide) HM.out)
      obtain ⟨⟨y20, y21⟩, hy18, hm⟩ := obind HM.out
      dsimp only at hm
      replace HM := Lib.hid hm; clear hm
      obtain ⟨A22, cap23, he, _⟩ := HP.open_I HOA.out (List.Mem.head _)
      subst he
      have HC19 := color_By_ok W11 cap1 (rdL HD.out HR1.out) cap23 (HP.rd_I HOA.out (List.Mem.head _)) (HP.cap_I HOA.out (List.Mem.head _)) hy18
      clear hy18
      by_cases hz24 : y21 = 0
      · subst hz24
        rw [errV_zero] at HC19; replace HC19 := Lib.hid HC19
        go_wp2_with fail
        refine HC19.out.mono ?_; rintro e W25 ⟨V26, rfl, ho, hd⟩
        replace HOA := Lib.hid (HOA.out.call hd HD.out.size ho); clear ho
        replace HD := Lib.hid (HD.out.trans (hd.mono HD.out.size))
        clear hd
        go_upto_region 8 with (fail)
        obtain ⟨b32, hb, hm⟩ := obind HM.out
        replace HM := Lib.hid hm; have HB33 := Lib.hid hb; clear hm hb
        go_cut [61] (fun uq wr => uq = .bool b32 ∧ Hid (Below W25.heap.size W25 wr))
        case first =>
          have HWC34 := Lib.hid (Below.refl W25.heap.size W25)
          obtain ⟨b35, hb, hm⟩ := obind HB33.out
          replace HB33 := Lib.hid hm; have HB36 := Lib.hid hb; clear hm hb
          obtain ⟨b37, hb, hm⟩ := obind HB36.out
          replace HB36 := Lib.hid hm; have HB38 := Lib.hid hb; clear hm hb
          replace HB38 := Lib.hid (ifF (by decide) HB38.out)
          obtain ⟨A39, cap40, he, _⟩ := HP.open_I HOA.out (List.Mem.head _)
          subst he
          rcases Bool.eq_false_or_eq_true (((y20).length : Int) != v0) with hc41 | hc41
          · replace HB38 := Lib.hid (ifT hc41 HB38.out)
            have HK42 := Lib.hid hc41
            obtain rfl := Option.some.inj HB38.out
            replace HB36 := Lib.hid (ifT (by first | rfl | trivial) HB36.out)
            obtain rfl := Option.some.inj HB36.out
            replace HB33 := Lib.hid (ifT (by first | rfl | trivial) HB33.out)
            cases Option.some.inj HB33.out
            try go_wp2_with fail
            go_meet
            case rel => exact ⟨rfl, HWC34⟩
          · replace HB38 := Lib.hid (ifF (bF hc41) HB38.out)
            have HK42 := Lib.hid hc41
            obtain rfl := Option.some.inj HB38.out
            replace HB36 := Lib.hid (ifF (by first | exact Bool.false_ne_true | exact not_false) HB36.out)
            obtain ⟨y45, hy43, hm⟩ := obind HB36.out
            replace HB36 := Lib.hid hm; clear hm
            have HC44 := R1_Lines_ok W25 cap1 (rdL HD.out HR1.out) hy43
            clear hy43
            replace HC44 := Lib.hid HC44
            go_wp2_with fail
            refine HC44.out.mono ?_; rintro e W46 ⟨rfl, hd⟩
            try clear hc41
            replace HOA := Lib.hid (HOA.out.below (hd.below _))
            replace HD := Lib.hid (HD.out.trans ((hd.below _).mono HD.out.size))
            replace HWC34 := Lib.hid (HWC34.out.trans ((hd.below _).mono HWC34.out.size))
            clear hd
            rcases Bool.eq_false_or_eq_true (y45 != 0) with hc47 | hc47
            · replace HB36 := Lib.hid (ifT hc47 HB36.out)
              have HK48 := Lib.hid hc47
              obtain rfl := Option.some.inj HB36.out
              replace HB33 := Lib.hid (ifT (by first | rfl | trivial) HB33.out)
              cases Option.some.inj HB33.out
              try go_wp2_with fail
              go_meet
              case rel => exact ⟨rfl, HWC34⟩
            · replace HB36 := Lib.hid (ifF (bF hc47) HB36.out)
              have HK48 := Lib.hid hc47
              obtain rfl := Option.some.inj HB36.out
              replace HB33 := Lib.hid (ifF (by first | exact Bool.false_ne_true | exact not_false) HB33.out)
              obtain ⟨y51, hy49, hm⟩ := obind HB33.out
              replace HB33 := Lib.hid hm; clear hm
              have HC50 := R1_All_ok W46 cap40 (HP.rd_I HOA.out (List.Mem.head _)) hy49
              clear hy49
              replace HC50 := Lib.hid HC50
              cases y51
              · replace HB33 := Lib.hid (ifF Bool.false_ne_true HB33.out)
                cases Option.some.inj HB33.out
                go_wp2_with fail
                refine HC50.out.mono ?_; rintro e w' ⟨rfl, rfl⟩
                try go_wp2_with fail
                go_meet
                case rel => exact ⟨rfl, HWC34⟩
              · replace HB33 := Lib.hid (ifT rfl HB33.out)
                cases Option.some.inj HB33.out
                go_wp2_with fail
                refine HC50.out.mono ?_; rintro e w' ⟨rfl, rfl⟩
                try go_wp2_with fail
                go_meet
                case rel => exact ⟨rfl, HWC34⟩
        case rest =>
          obtain ⟨rfl, HWC34⟩ := hcut
          rename World => W52
          have hd := HWC34.out
          replace HOA := Lib.hid (HOA.out.below hd)
          replace HD := Lib.hid (HD.out.trans (hd.mono HD.out.size))
          clear hd
          cases b32
          · replace HM := Lib.hid (ifF Bool.false_ne_true HM.out)
            go_wp2_with fail
            obtain ⟨o53, ho, hm⟩ := obind HM.out
            replace HM := Lib.hid hm; have HL1 := Lib.hid ho; clear hm ho
            go_loopg [10] F (fun gg ux55 wr => ∃ (x54 : Int), ux55 = .int .i64 x54 ∧ Hid (Below W52.heap.size W52 wr) ∧ Hid (L3_ColorLast_L1 F (v0) (v1) (y8) gg x54 = some o53))
            case atStart => exact ⟨1, rfl, (Lib.hid (Below.refl _ _)), HL1⟩
            case round =>
              obtain ⟨x54, rfl, HW1, HL1⟩ := hrel
              rename World => W56
              have hd := HW1.out
              replace HOA := Lib.hid (HOA.out.below hd)
              replace HD := Lib.hid (HD.out.trans (hd.mono HD.out.size))
              clear hd
              cases gk with
              | zero => exact absurd ((L3_ColorLast_L1_0 ..).symm.trans HL1.out) (by intro h; cases h)
              | succ g1 =>
                replace HL1 := Lib.hid ((L3_ColorLast_L1_s ..).symm.trans HL1.out)
                obtain ⟨y59, hy57, hm⟩ := obind HL1.out
                replace HL1 := Lib.hid hm; clear hm
                have HC58 := R3_Power_ok W56  hy57
                clear hy57
                replace HC58 := Lib.hid HC58
                by_cases hc60 : x54 < y59
                · replace HL1 := Lib.hid (ifT hc60 HL1.out)
                  have HK61 := Lib.hid hc60
                  obtain ⟨y64, hy62, hm⟩ := obind HL1.out
                  replace HL1 := Lib.hid hm; clear hm
                  have HC63 := R3_Members_ok W56  hy62
                  clear hy62
                  replace HC63 := Lib.hid HC63
                  go_wp2_with fail
                  refine HC58.out.mono ?_; rintro e w' ⟨rfl, rfl⟩
                  go_wp2_with fail
                  refine HC63.out.mono ?_; rintro e W65 ⟨V66, rfl, ho, hd⟩
                  try clear hc60
                  replace HOA := Lib.hid (HOA.out.call hd HD.out.size ho); clear ho
                  replace HD := Lib.hid (HD.out.trans (hd.mono HD.out.size))
                  replace HW1 := Lib.hid (HW1.out.trans (hd.mono HW1.out.size))
                  clear hd
                  go_wp2_with fail
                  obtain ⟨o68, ho, hm⟩ := obind HL1.out
                  replace HL1 := Lib.hid hm; have HL2 := Lib.hid ho; clear hm ho
                  go_loopg [12, 13] F (fun gg ux71 ux72 wr => ∃ (x69 : Bool) (x70 : Int), ux71 = .bool x69 ∧ ux72 = .int .i64 x70 ∧ Hid (Below W65.heap.size W65 wr) ∧ Hid (L3_ColorLast_L2 F (v1) (y8) (y64) gg x69 x70 = some o68))
                  case atStart => exact ⟨true, 0, rfl, rfl, (Lib.hid (Below.refl _ _)), HL2⟩
                  case round =>
                    obtain ⟨x69, x70, rfl, rfl, HW2, HL2⟩ := hrel
                    rename World => W73
                    have hd := HW2.out
                    replace HOA := Lib.hid (HOA.out.below hd)
                    replace HD := Lib.hid (HD.out.trans (hd.mono HD.out.size))
                    replace HW1 := Lib.hid (HW1.out.trans (hd.mono HW1.out.size))
                    clear hd
                    cases gk with
                    | zero => exact absurd ((L3_ColorLast_L2_0 ..).symm.trans HL2.out) (by intro h; cases h)
                    | succ g2 =>
                      replace HL2 := Lib.hid ((L3_ColorLast_L2_s ..).symm.trans HL2.out)
                      obtain ⟨A74, cap75, he, _⟩ := HP.open_I HOA.out (List.Mem.head _)
                      subst he
                      by_cases hc76 : x70 < ((y64).length : Int)
                      · replace HL2 := Lib.hid (ifT hc76 HL2.out)
                        have HK77 := Lib.hid hc76
                        go_wp2_with fail
                        try clear hc76
                        obtain ⟨o78, ho, hm⟩ := obind HL2.out
                        replace HL2 := Lib.hid hm; have HL3 := Lib.hid ho; clear hm ho
                        go_loopg [14, 15] F (fun gg ux81 ux82 wr => ∃ (x79 : Int) (x80 : Int), ux81 = .int .i64 x79 ∧ ux82 = .int .i64 x80 ∧ Hid (Below W73.heap.size W73 wr) ∧ Hid (L3_ColorLast_L3 F (v1) (y64) (x70) gg x79 x80 = some o78))
                        case atStart => exact ⟨0, 0, rfl, rfl, (Lib.hid (Below.refl _ _)), HL3⟩
                        case round =>
                          obtain ⟨x79, x80, rfl, rfl, HW3, HL3⟩ := hrel
                          rename World => W83
                          have hd := HW3.out
                          replace HOA := Lib.hid (HOA.out.below hd)
                          replace HD := Lib.hid (HD.out.trans (hd.mono HD.out.size))
                          replace HW1 := Lib.hid (HW1.out.trans (hd.mono HW1.out.size))
                          replace HW2 := Lib.hid (HW2.out.trans (hd.mono HW2.out.size))
                          clear hd
                          cases gk with
                          | zero => exact absurd ((L3_ColorLast_L3_0 ..).symm.trans HL3.out) (by intro h; cases h)
                          | succ g3 =>
                            replace HL3 := Lib.hid ((L3_ColorLast_L3_s ..).symm.trans HL3.out)
                            by_cases hc84 : x80 < ((y64).length : Int)
                            · replace HL3 := Lib.hid (ifT hc84 HL3.out)
                              have HK85 := Lib.hid hc84
                              try go_wp2_with fail
                              try clear hc84
                              obtain ⟨y86, hy87, hm⟩ := obind HL3.out
                              replace HL3 := Lib.hid hm; clear hm
                              obtain ⟨b88, o89, ea90, _, f91, f92, f93⟩ := ReadsI.ix (HP.rd_I HOA.out (List.Mem.head _)) hy87
                              cases ea90
                              try simp only [Nat.zero_add, Nat.add_zero, Int.toNat_natCast, Int.toNat_zero, Int.toNat_one] at f93
                              try rw [← HP.len_I HOA.out (List.Mem.head _)] at f92
                              have HY95 := Lib.hid hy87; clear hy87
                              obtain ⟨y96, hy97, hm⟩ := obind HL3.out
                              replace HL3 := Lib.hid hm; clear hm
                              obtain ⟨b98, o99, ea100, _, f101, f102, f103⟩ := ReadsI.ix (HP.rd_I HOA.out (List.Mem.head _)) hy97
                              cases ea100
                              try simp only [Nat.zero_add, Nat.add_zero, Int.toNat_natCast, Int.toNat_zero, Int.toNat_one] at f103
                              try rw [← HP.len_I HOA.out (List.Mem.head _)] at f102
                              have HY105 := Lib.hid hy97; clear hy97
                              obtain ⟨y108, hy106, hm⟩ := obind HL3.out
                              replace HL3 := Lib.hid hm; clear hm
                              have HC107 := Lib.hid (fun m => R1_Beside_ok (W83.drewN m) cap1 (ReadsL.drewN' (rdL HD.out HR1.out) m) hy106)
                              clear hy106
                              cases y108
                              · replace HL3 := Lib.hid (ifF Bool.false_ne_true HL3.out)
                                go_quiet (first | (go_at_call 20; exact quiet_left (HC107.out _)))
                                generalize hW : World.drewN W83 _ = W109
                                have hd : Dr W83 W109 := ⟨_, hW.symm⟩
                                clear hW
                                try clear f91 f92 f93 f101 f102 f103
                                replace HOA := Lib.hid (HOA.out.below (hd.below _))
                                replace HD := Lib.hid (HD.out.trans ((hd.below _).mono HD.out.size))
                                replace HW1 := Lib.hid (HW1.out.trans ((hd.below _).mono HW1.out.size))
                                replace HW2 := Lib.hid (HW2.out.trans ((hd.below _).mono HW2.out.size))
                                replace HW3 := Lib.hid (HW3.out.trans ((hd.below _).mono HW3.out.size))
                                clear hd
                                go_wp2_with fail
                                go_roundg g3
                                case measure => omega
                                case rel => exact ⟨x79, (wrap64 (x80 + 1)), rfl, rfl, HW3, HL3⟩
                              · replace HL3 := Lib.hid (ifT rfl HL3.out)
                                go_quiet (first | (go_at_call 20; exact quiet_left (HC107.out _)))
                                generalize hW : World.drewN W83 _ = W110
                                have hd : Dr W83 W110 := ⟨_, hW.symm⟩
                                clear hW
                                try clear f91 f92 f93 f101 f102 f103
                                replace HOA := Lib.hid (HOA.out.below (hd.below _))
                                replace HD := Lib.hid (HD.out.trans ((hd.below _).mono HD.out.size))
                                replace HW1 := Lib.hid (HW1.out.trans ((hd.below _).mono HW1.out.size))
                                replace HW2 := Lib.hid (HW2.out.trans ((hd.below _).mono HW2.out.size))
                                replace HW3 := Lib.hid (HW3.out.trans ((hd.below _).mono HW3.out.size))
                                clear hd
                                go_wp2_with fail
                                go_roundg g3
                                case measure => omega
                                case rel => exact ⟨(wrap64 (x79 + 1)), (wrap64 (x80 + 1)), rfl, rfl, HW3, HL3⟩
                            · replace HL3 := Lib.hid (ifF hc84 HL3.out)
                              have hc84d := decide_eq_false hc84
                              have HK85 := Lib.hid hc84
                              obtain rfl := Option.some.inj HL3.out
                              have hm := HL2.out; try dsimp only at hm
                              replace HL2 := Lib.hid hm; clear hm
                              obtain ⟨b111, hb, hm⟩ := obind HL2.out
                              replace HL2 := Lib.hid hm; have HB112 := Lib.hid hb; clear hm hb
                              cases x69
                              · replace HB112 := Lib.hid (ifF Bool.false_ne_true HB112.out)
                                obtain rfl := Option.some.inj HB112.out
                                go_wp2_with fail
                                try clear hc84 hc84d
                                go_roundg g2
                                case measure => omega
                                case rel => exact ⟨false, (wrap64 (x70 + 1)), rfl, rfl, HW2, HL2⟩
                              · replace HB112 := Lib.hid (ifT rfl HB112.out)
                                by_cases hc113 : y8 ≤ x79
                                · replace HB112 := Lib.hid (ifT hc113 HB112.out)
                                  have HK114 := Lib.hid hc113
                                  obtain rfl := Option.some.inj HB112.out
                                  go_wp2_with fail
                                  try clear hc84 hc84d hc113
                                  go_roundg g2
                                  case measure => omega
                                  case rel => exact ⟨true, (wrap64 (x70 + 1)), rfl, rfl, HW2, HL2⟩
                                · replace HB112 := Lib.hid (ifF hc113 HB112.out)
                                  have hc113d := decide_eq_false hc113
                                  have HK114 := Lib.hid hc113
                                  obtain rfl := Option.some.inj HB112.out
                                  go_wp2_with fail
                                  try clear hc84 hc84d hc113 hc113d
                                  go_roundg g2
                                  case measure => omega
                                  case rel => exact ⟨false, (wrap64 (x70 + 1)), rfl, rfl, HW2, HL2⟩
                      · replace HL2 := Lib.hid (ifF hc76 HL2.out)
                        have hc76d := decide_eq_false hc76
                        have HK77 := Lib.hid hc76
                        obtain rfl := Option.some.inj HL2.out
                        have hm := HL1.out; try dsimp only at hm
                        replace HL1 := Lib.hid hm; clear hm
                        cases x69
                        · replace HL1 := Lib.hid (ifF Bool.false_ne_true HL1.out)
                          go_wp2_with fail
                          try clear hc76 hc76d
                          go_roundg g1
                          case measure => omega
                          case rel => exact ⟨(wrap64 (x54 + 1)), rfl, HW1, HL1⟩
                        · replace HL1 := Lib.hid (ifT rfl HL1.out)
                          obtain rfl := Option.some.inj HL1.out
                          have hm := HM.out; try dsimp only at hm
                          replace HM := Lib.hid hm; clear hm
                          obtain rfl := Option.some.inj HM.out
                          go_wp2_with fail
                          go_ret
                          exact ⟨(by first | rfl | (refine congrArg (fun b => Ending.returned (Value.bool b)) ?_; first | (exact decide_eq_true (by omega)) | (exact decide_eq_false (by omega)) | (have q := hc76; rw [bne_iff_ne] at q ⊢; omega) | (have q := hc76; rw [bne_eq_false_iff_eq] at q ⊢; omega) | (have q := hc76; rw [beq_iff_eq] at q ⊢; omega) | (have q := hc76; rw [beq_eq_false_iff_ne] at q ⊢; omega) | (have q := hc76d; rw [bne_iff_ne] at q ⊢; omega) | (have q := hc76d; rw [bne_eq_false_iff_eq] at q ⊢; omega) | (have q := hc76d; rw [beq_iff_eq] at q ⊢; omega) | (have q := hc76d; rw [beq_eq_false_iff_ne] at q ⊢; omega))), HD.out⟩
                · replace HL1 := Lib.hid (ifF hc60 HL1.out)
                  have hc60d := decide_eq_false hc60
                  have HK61 := Lib.hid hc60
                  obtain rfl := Option.some.inj HL1.out
                  have hm := HM.out; try dsimp only at hm
                  replace HM := Lib.hid hm; clear hm
                  obtain rfl := Option.some.inj HM.out
                  go_wp2_with fail
                  refine HC58.out.mono ?_; rintro e w' ⟨rfl, rfl⟩
                  go_wp2_with fail
                  go_ret
                  exact ⟨(by first | rfl | (refine congrArg (fun b => Ending.returned (Value.bool b)) ?_; first | (exact decide_eq_true (by omega)) | (exact decide_eq_false (by omega)) | (have q := hc60; rw [bne_iff_ne] at q ⊢; omega) | (have q := hc60; rw [bne_eq_false_iff_eq] at q ⊢; omega) | (have q := hc60; rw [beq_iff_eq] at q ⊢; omega) | (have q := hc60; rw [beq_eq_false_iff_ne] at q ⊢; omega) | (have q := hc60d; rw [bne_iff_ne] at q ⊢; omega) | (have q := hc60d; rw [bne_eq_false_iff_eq] at q ⊢; omega) | (have q := hc60d; rw [beq_iff_eq] at q ⊢; omega) | (have q := hc60d; rw [beq_eq_false_iff_ne] at q ⊢; omega))), HD.out⟩
          · replace HM := Lib.hid (ifT rfl HM.out)
            obtain rfl := Option.some.inj HM.out
            go_wp2_with fail
            go_ret
            exact ⟨rfl, HD.out⟩
      · rw [errV_pos _ hz24] at HC19; replace HC19 := Lib.hid HC19
        go_wp2_with fail
        refine HC19.out.mono ?_; rintro e W28 ⟨V29, rfl, ho, hd⟩
        replace HOA := Lib.hid (HOA.out.call hd HD.out.size ho); clear ho
        replace HD := Lib.hid (HD.out.trans (hd.mono HD.out.size))
        clear hd
        have HZ31 := Lib.hid hz24; clear hz24
        go_upto_region 8 with (fail)
        obtain ⟨b115, hb, hm⟩ := obind HM.out
        replace HM := Lib.hid hm; have HB116 := Lib.hid hb; clear hm hb
        go_cut [61] (fun uq wr => uq = .bool b115 ∧ Hid (Below W28.heap.size W28 wr))
        case first =>
          have HWC117 := Lib.hid (Below.refl W28.heap.size W28)
          obtain ⟨b118, hb, hm⟩ := obind HB116.out
          replace HB116 := Lib.hid hm; have HB119 := Lib.hid hb; clear hm hb
          obtain ⟨b120, hb, hm⟩ := obind HB119.out
          replace HB119 := Lib.hid hm; have HB121 := Lib.hid hb; clear hm hb
          replace HB121 := Lib.hid (ifT (bne_iff_ne.2 HZ31.out) HB121.out)
          obtain rfl := Option.some.inj HB121.out
          replace HB119 := Lib.hid (ifT (by first | rfl | trivial) HB119.out)
          obtain rfl := Option.some.inj HB119.out
          replace HB116 := Lib.hid (ifT (by first | rfl | trivial) HB116.out)
          cases Option.some.inj HB116.out
          try go_wp2_with fail
          go_meet
          case rel => exact ⟨rfl, HWC117⟩
        case rest =>
          obtain ⟨rfl, HWC117⟩ := hcut
          rename World => W122
          have hd := HWC117.out
          replace HOA := Lib.hid (HOA.out.below hd)
          replace HD := Lib.hid (HD.out.trans (hd.mono HD.out.size))
          clear hd
          cases b115
          · replace HM := Lib.hid (ifF Bool.false_ne_true HM.out)
            go_wp2_with fail
            obtain ⟨o123, ho, hm⟩ := obind HM.out
            replace HM := Lib.hid hm; have HL1 := Lib.hid ho; clear hm ho
            go_loopg [10] F (fun gg ux125 wr => ∃ (x124 : Int), ux125 = .int .i64 x124 ∧ Hid (Below W122.heap.size W122 wr) ∧ Hid (L3_ColorLast_L1 F (v0) (v1) (y8) gg x124 = some o123))
            case atStart => exact ⟨1, rfl, (Lib.hid (Below.refl _ _)), HL1⟩
            case round =>
              obtain ⟨x124, rfl, HW1, HL1⟩ := hrel
              rename World => W126
              have hd := HW1.out
              replace HOA := Lib.hid (HOA.out.below hd)
              replace HD := Lib.hid (HD.out.trans (hd.mono HD.out.size))
              clear hd
              cases gk with
              | zero => exact absurd ((L3_ColorLast_L1_0 ..).symm.trans HL1.out) (by intro h; cases h)
              | succ g1 =>
                replace HL1 := Lib.hid ((L3_ColorLast_L1_s ..).symm.trans HL1.out)
                obtain ⟨y129, hy127, hm⟩ := obind HL1.out
                replace HL1 := Lib.hid hm; clear hm
                have HC128 := R3_Power_ok W126  hy127
                clear hy127
                replace HC128 := Lib.hid HC128
                by_cases hc130 : x124 < y129
                · replace HL1 := Lib.hid (ifT hc130 HL1.out)
                  have HK131 := Lib.hid hc130
                  obtain ⟨y134, hy132, hm⟩ := obind HL1.out
                  replace HL1 := Lib.hid hm; clear hm
                  have HC133 := R3_Members_ok W126  hy132
                  clear hy132
                  replace HC133 := Lib.hid HC133
                  go_wp2_with fail
                  refine HC128.out.mono ?_; rintro e w' ⟨rfl, rfl⟩
                  go_wp2_with fail
                  refine HC133.out.mono ?_; rintro e W135 ⟨V136, rfl, ho, hd⟩
                  try clear hc130
                  replace HOA := Lib.hid (HOA.out.call hd HD.out.size ho); clear ho
                  replace HD := Lib.hid (HD.out.trans (hd.mono HD.out.size))
                  replace HW1 := Lib.hid (HW1.out.trans (hd.mono HW1.out.size))
                  clear hd
                  go_wp2_with fail
                  obtain ⟨o138, ho, hm⟩ := obind HL1.out
                  replace HL1 := Lib.hid hm; have HL2 := Lib.hid ho; clear hm ho
                  go_loopg [12, 13] F (fun gg ux141 ux142 wr => ∃ (x139 : Bool) (x140 : Int), ux141 = .bool x139 ∧ ux142 = .int .i64 x140 ∧ Hid (Below W135.heap.size W135 wr) ∧ Hid (L3_ColorLast_L2 F (v1) (y8) (y134) gg x139 x140 = some o138))
                  case atStart => exact ⟨true, 0, rfl, rfl, (Lib.hid (Below.refl _ _)), HL2⟩
                  case round =>
                    obtain ⟨x139, x140, rfl, rfl, HW2, HL2⟩ := hrel
                    rename World => W143
                    have hd := HW2.out
                    replace HOA := Lib.hid (HOA.out.below hd)
                    replace HD := Lib.hid (HD.out.trans (hd.mono HD.out.size))
                    replace HW1 := Lib.hid (HW1.out.trans (hd.mono HW1.out.size))
                    clear hd
                    cases gk with
                    | zero => exact absurd ((L3_ColorLast_L2_0 ..).symm.trans HL2.out) (by intro h; cases h)
                    | succ g2 =>
                      replace HL2 := Lib.hid ((L3_ColorLast_L2_s ..).symm.trans HL2.out)
                      obtain ⟨A144, cap145, he, _⟩ := HP.open_I HOA.out (List.Mem.head _)
                      subst he
                      by_cases hc146 : x140 < ((y134).length : Int)
                      · replace HL2 := Lib.hid (ifT hc146 HL2.out)
                        have HK147 := Lib.hid hc146
                        go_wp2_with fail
                        try clear hc146
                        obtain ⟨o148, ho, hm⟩ := obind HL2.out
                        replace HL2 := Lib.hid hm; have HL3 := Lib.hid ho; clear hm ho
                        go_loopg [14, 15] F (fun gg ux151 ux152 wr => ∃ (x149 : Int) (x150 : Int), ux151 = .int .i64 x149 ∧ ux152 = .int .i64 x150 ∧ Hid (Below W143.heap.size W143 wr) ∧ Hid (L3_ColorLast_L3 F (v1) (y134) (x140) gg x149 x150 = some o148))
                        case atStart => exact ⟨0, 0, rfl, rfl, (Lib.hid (Below.refl _ _)), HL3⟩
                        case round =>
                          obtain ⟨x149, x150, rfl, rfl, HW3, HL3⟩ := hrel
                          rename World => W153
                          have hd := HW3.out
                          replace HOA := Lib.hid (HOA.out.below hd)
                          replace HD := Lib.hid (HD.out.trans (hd.mono HD.out.size))
                          replace HW1 := Lib.hid (HW1.out.trans (hd.mono HW1.out.size))
                          replace HW2 := Lib.hid (HW2.out.trans (hd.mono HW2.out.size))
                          clear hd
                          cases gk with
                          | zero => exact absurd ((L3_ColorLast_L3_0 ..).symm.trans HL3.out) (by intro h; cases h)
                          | succ g3 =>
                            replace HL3 := Lib.hid ((L3_ColorLast_L3_s ..).symm.trans HL3.out)
                            by_cases hc154 : x150 < ((y134).length : Int)
                            · replace HL3 := Lib.hid (ifT hc154 HL3.out)
                              have HK155 := Lib.hid hc154
                              try go_wp2_with fail
                              try clear hc154
                              obtain ⟨y156, hy157, hm⟩ := obind HL3.out
                              replace HL3 := Lib.hid hm; clear hm
                              obtain ⟨b158, o159, ea160, _, f161, f162, f163⟩ := ReadsI.ix (HP.rd_I HOA.out (List.Mem.head _)) hy157
                              cases ea160
                              try simp only [Nat.zero_add, Nat.add_zero, Int.toNat_natCast, Int.toNat_zero, Int.toNat_one] at f163
                              try rw [← HP.len_I HOA.out (List.Mem.head _)] at f162
                              have HY165 := Lib.hid hy157; clear hy157
                              obtain ⟨y166, hy167, hm⟩ := obind HL3.out
                              replace HL3 := Lib.hid hm; clear hm
                              obtain ⟨b168, o169, ea170, _, f171, f172, f173⟩ := ReadsI.ix (HP.rd_I HOA.out (List.Mem.head _)) hy167
                              cases ea170
                              try simp only [Nat.zero_add, Nat.add_zero, Int.toNat_natCast, Int.toNat_zero, Int.toNat_one] at f173
                              try rw [← HP.len_I HOA.out (List.Mem.head _)] at f172
                              have HY175 := Lib.hid hy167; clear hy167
                              obtain ⟨y178, hy176, hm⟩ := obind HL3.out
                              replace HL3 := Lib.hid hm; clear hm
                              have HC177 := Lib.hid (fun m => R1_Beside_ok (W153.drewN m) cap1 (ReadsL.drewN' (rdL HD.out HR1.out) m) hy176)
                              clear hy176
                              cases y178
                              · replace HL3 := Lib.hid (ifF Bool.false_ne_true HL3.out)
                                go_quiet (first | (go_at_call 20; exact quiet_left (HC177.out _)))
                                generalize hW : World.drewN W153 _ = W179
                                have hd : Dr W153 W179 := ⟨_, hW.symm⟩
                                clear hW
                                try clear f161 f162 f163 f171 f172 f173
                                replace HOA := Lib.hid (HOA.out.below (hd.below _))
                                replace HD := Lib.hid (HD.out.trans ((hd.below _).mono HD.out.size))
                                replace HW1 := Lib.hid (HW1.out.trans ((hd.below _).mono HW1.out.size))
                                replace HW2 := Lib.hid (HW2.out.trans ((hd.below _).mono HW2.out.size))
                                replace HW3 := Lib.hid (HW3.out.trans ((hd.below _).mono HW3.out.size))
                                clear hd
                                go_wp2_with fail
                                go_roundg g3
                                case measure => omega
                                case rel => exact ⟨x149, (wrap64 (x150 + 1)), rfl, rfl, HW3, HL3⟩
                              · replace HL3 := Lib.hid (ifT rfl HL3.out)
                                go_quiet (first | (go_at_call 20; exact quiet_left (HC177.out _)))
                                generalize hW : World.drewN W153 _ = W180
                                have hd : Dr W153 W180 := ⟨_, hW.symm⟩
                                clear hW
                                try clear f161 f162 f163 f171 f172 f173
                                replace HOA := Lib.hid (HOA.out.below (hd.below _))
                                replace HD := Lib.hid (HD.out.trans ((hd.below _).mono HD.out.size))
                                replace HW1 := Lib.hid (HW1.out.trans ((hd.below _).mono HW1.out.size))
                                replace HW2 := Lib.hid (HW2.out.trans ((hd.below _).mono HW2.out.size))
                                replace HW3 := Lib.hid (HW3.out.trans ((hd.below _).mono HW3.out.size))
                                clear hd
                                go_wp2_with fail
                                go_roundg g3
                                case measure => omega
                                case rel => exact ⟨(wrap64 (x149 + 1)), (wrap64 (x150 + 1)), rfl, rfl, HW3, HL3⟩
                            · replace HL3 := Lib.hid (ifF hc154 HL3.out)
                              have hc154d := decide_eq_false hc154
                              have HK155 := Lib.hid hc154
                              obtain rfl := Option.some.inj HL3.out
                              have hm := HL2.out; try dsimp only at hm
                              replace HL2 := Lib.hid hm; clear hm
                              obtain ⟨b181, hb, hm⟩ := obind HL2.out
                              replace HL2 := Lib.hid hm; have HB182 := Lib.hid hb; clear hm hb
                              cases x139
                              · replace HB182 := Lib.hid (ifF Bool.false_ne_true HB182.out)
                                obtain rfl := Option.some.inj HB182.out
                                go_wp2_with fail
                                try clear hc154 hc154d
                                go_roundg g2
                                case measure => omega
                                case rel => exact ⟨false, (wrap64 (x140 + 1)), rfl, rfl, HW2, HL2⟩
                              · replace HB182 := Lib.hid (ifT rfl HB182.out)
                                by_cases hc183 : y8 ≤ x149
                                · replace HB182 := Lib.hid (ifT hc183 HB182.out)
                                  have HK184 := Lib.hid hc183
                                  obtain rfl := Option.some.inj HB182.out
                                  go_wp2_with fail
                                  try clear hc154 hc154d hc183
                                  go_roundg g2
                                  case measure => omega
                                  case rel => exact ⟨true, (wrap64 (x140 + 1)), rfl, rfl, HW2, HL2⟩
                                · replace HB182 := Lib.hid (ifF hc183 HB182.out)
                                  have hc183d := decide_eq_false hc183
                                  have HK184 := Lib.hid hc183
                                  obtain rfl := Option.some.inj HB182.out
                                  go_wp2_with fail
                                  try clear hc154 hc154d hc183 hc183d
                                  go_roundg g2
                                  case measure => omega
                                  case rel => exact ⟨false, (wrap64 (x140 + 1)), rfl, rfl, HW2, HL2⟩
                      · replace HL2 := Lib.hid (ifF hc146 HL2.out)
                        have hc146d := decide_eq_false hc146
                        have HK147 := Lib.hid hc146
                        obtain rfl := Option.some.inj HL2.out
                        have hm := HL1.out; try dsimp only at hm
                        replace HL1 := Lib.hid hm; clear hm
                        cases x139
                        · replace HL1 := Lib.hid (ifF Bool.false_ne_true HL1.out)
                          go_wp2_with fail
                          try clear hc146 hc146d
                          go_roundg g1
                          case measure => omega
                          case rel => exact ⟨(wrap64 (x124 + 1)), rfl, HW1, HL1⟩
                        · replace HL1 := Lib.hid (ifT rfl HL1.out)
                          obtain rfl := Option.some.inj HL1.out
                          have hm := HM.out; try dsimp only at hm
                          replace HM := Lib.hid hm; clear hm
                          obtain rfl := Option.some.inj HM.out
                          go_wp2_with fail
                          go_ret
                          exact ⟨(by first | rfl | (refine congrArg (fun b => Ending.returned (Value.bool b)) ?_; first | (exact decide_eq_true (by omega)) | (exact decide_eq_false (by omega)) | (have q := hc146; rw [bne_iff_ne] at q ⊢; omega) | (have q := hc146; rw [bne_eq_false_iff_eq] at q ⊢; omega) | (have q := hc146; rw [beq_iff_eq] at q ⊢; omega) | (have q := hc146; rw [beq_eq_false_iff_ne] at q ⊢; omega) | (have q := hc146d; rw [bne_iff_ne] at q ⊢; omega) | (have q := hc146d; rw [bne_eq_false_iff_eq] at q ⊢; omega) | (have q := hc146d; rw [beq_iff_eq] at q ⊢; omega) | (have q := hc146d; rw [beq_eq_false_iff_ne] at q ⊢; omega))), HD.out⟩
                · replace HL1 := Lib.hid (ifF hc130 HL1.out)
                  have hc130d := decide_eq_false hc130
                  have HK131 := Lib.hid hc130
                  obtain rfl := Option.some.inj HL1.out
                  have hm := HM.out; try dsimp only at hm
                  replace HM := Lib.hid hm; clear hm
                  obtain rfl := Option.some.inj HM.out
                  go_wp2_with fail
                  refine HC128.out.mono ?_; rintro e w' ⟨rfl, rfl⟩
                  go_wp2_with fail
                  go_ret
                  exact ⟨(by first | rfl | (refine congrArg (fun b => Ending.returned (Value.bool b)) ?_; first | (exact decide_eq_true (by omega)) | (exact decide_eq_false (by omega)) | (have q := hc130; rw [bne_iff_ne] at q ⊢; omega) | (have q := hc130; rw [bne_eq_false_iff_eq] at q ⊢; omega) | (have q := hc130; rw [beq_iff_eq] at q ⊢; omega) | (have q := hc130; rw [beq_eq_false_iff_ne] at q ⊢; omega) | (have q := hc130d; rw [bne_iff_ne] at q ⊢; omega) | (have q := hc130d; rw [bne_eq_false_iff_eq] at q ⊢; omega) | (have q := hc130d; rw [beq_iff_eq] at q ⊢; omega) | (have q := hc130d; rw [beq_eq_false_iff_ne] at q ⊢; omega))), HD.out⟩
          · replace HM := Lib.hid (ifT rfl HM.out)
            obtain rfl := Option.some.inj HM.out
            go_wp2_with fail
            go_ret
            exact ⟨rfl, HD.out⟩
    · rw [errV_pos _ hz10] at HC6; replace HC6 := Lib.hid HC6
      go_wp2_with fail
      refine HC6.out.mono ?_; rintro e W14 ⟨V15, rfl, ho, hd⟩
      replace HOA := Lib.hid (HOA.out.call hd HD.out.size ho); clear ho
      replace HD := Lib.hid (HD.out.trans (hd.mono HD.out.size))
      clear hd
      have HZ17 := Lib.hid hz10; clear hz10
      replace HM := Lib.hid (ifT (bne_iff_ne.2 HZ17.out) HM.out)
      obtain ⟨b185, hb, hm⟩ := obind HM.out
      replace HM := Lib.hid hm; have HB186 := Lib.hid hb; clear hm hb
      obtain ⟨A187, cap188, he, _⟩ := HP.open_I HOA.out (List.Mem.head _)
      subst he
      rcases Bool.eq_false_or_eq_true (((y7).length : Int) == 0) with hc189 | hc189
      · replace HB186 := Lib.hid (ifT hc189 HB186.out)
        have HK190 := Lib.hid hc189
        rcases Bool.eq_false_or_eq_true (y8 == 0) with hc191 | hc191
        · replace HB186 := Lib.hid (ifT hc191 HB186.out)
          have HK192 := Lib.hid hc191
          obtain rfl := Option.some.inj HB186.out
          obtain rfl := Option.some.inj HM.out
          go_wp2_with fail
          go_ret
          exact ⟨(by first | rfl | (refine congrArg (fun b => Ending.returned (Value.bool b)) ?_; first | (exact decide_eq_true (by omega)) | (exact decide_eq_false (by omega)) | (have q := hc189; rw [bne_iff_ne] at q ⊢; omega) | (have q := hc189; rw [bne_eq_false_iff_eq] at q ⊢; omega) | (have q := hc189; rw [beq_iff_eq] at q ⊢; omega) | (have q := hc189; rw [beq_eq_false_iff_ne] at q ⊢; omega) | (have q := hc191; rw [bne_iff_ne] at q ⊢; omega) | (have q := hc191; rw [bne_eq_false_iff_eq] at q ⊢; omega) | (have q := hc191; rw [beq_iff_eq] at q ⊢; omega) | (have q := hc191; rw [beq_eq_false_iff_ne] at q ⊢; omega))), HD.out⟩
        · replace HB186 := Lib.hid (ifF (bF hc191) HB186.out)
          have HK192 := Lib.hid hc191
          obtain rfl := Option.some.inj HB186.out
          obtain rfl := Option.some.inj HM.out
          go_wp2_with fail
          go_ret
          exact ⟨(by first | rfl | (refine congrArg (fun b => Ending.returned (Value.bool b)) ?_; first | (exact decide_eq_true (by omega)) | (exact decide_eq_false (by omega)) | (have q := hc189; rw [bne_iff_ne] at q ⊢; omega) | (have q := hc189; rw [bne_eq_false_iff_eq] at q ⊢; omega) | (have q := hc189; rw [beq_iff_eq] at q ⊢; omega) | (have q := hc189; rw [beq_eq_false_iff_ne] at q ⊢; omega) | (have q := hc191; rw [bne_iff_ne] at q ⊢; omega) | (have q := hc191; rw [bne_eq_false_iff_eq] at q ⊢; omega) | (have q := hc191; rw [beq_iff_eq] at q ⊢; omega) | (have q := hc191; rw [beq_eq_false_iff_ne] at q ⊢; omega))), HD.out⟩
      · replace HB186 := Lib.hid (ifF (bF hc189) HB186.out)
        have HK190 := Lib.hid hc189
        obtain rfl := Option.some.inj HB186.out
        obtain rfl := Option.some.inj HM.out
        go_wp2_with fail
        go_ret
        exact ⟨(by first | rfl | (refine congrArg (fun b => Ending.returned (Value.bool b)) ?_; first | (exact decide_eq_true (by omega)) | (exact decide_eq_false (by omega)) | (have q := hc189; rw [bne_iff_ne] at q ⊢; omega) | (have q := hc189; rw [bne_eq_false_iff_eq] at q ⊢; omega) | (have q := hc189; rw [beq_iff_eq] at q ⊢; omega) | (have q := hc189; rw [beq_eq_false_iff_ne] at q ⊢; omega))), HD.out⟩
end Go.Proofs.Ytlecmgdkoanghaa
