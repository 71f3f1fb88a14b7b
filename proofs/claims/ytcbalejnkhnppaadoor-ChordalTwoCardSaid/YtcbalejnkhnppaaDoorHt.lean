import Derived.Test.YtcbalejnkhnppaaDoorHf
import Derived.Test.YtcbalejnkhnppaaDoorHa
import Derived.Test.YtcbalejnkhnppaaDoorGR
import Derived.Test.YtcbalejnkhnppaaDoorSlc
import Derived.Test.YtcbalejnkhnppaaDoorCh
import Derived.Test.YtcbalejnkhnppaaDoorCh2
import Derived.Test.YtcbalejnkhnppaaDoorBox
import Derived.Test.YtcbalejnkhnppaaDoorErr
set_option linter.all false
set_option maxRecDepth 100000
namespace Go.Proofs.YtcbalejnkhnppaaDoor
open Go.RowKit
attribute [local go_sem] Oper.semAt_some
def L3_ChordalTwo_L2 (F : Nat) (v1 : List (Int × Int)) (v9 : Int) : Nat → (Bool) → (Int) → Option (Bool × Int)
  | 0, _, _ => none
  | g+1, v8, v10 => if v10 < v9 then (if v8 = true then (R1_Beside F (v1) (v9) (v10)).bind fun y8 => if y8 = true then some true else some false else some false).bind fun b7 => L3_ChordalTwo_L2 F v1 v9 g (b7) ((wrap64 (v10 + 1))) else some (v8, v10)
theorem L3_ChordalTwo_L2_0 (F : Nat) (v1 : List (Int × Int)) (v9 : Int) (v8 : Bool) (v10 : Int) : L3_ChordalTwo_L2 F v1 v9 0 v8 v10 = none := by rw [L3_ChordalTwo_L2]
theorem L3_ChordalTwo_L2_s (F g : Nat) (v1 : List (Int × Int)) (v9 : Int) (v8 : Bool) (v10 : Int) : L3_ChordalTwo_L2 F v1 v9 (g+1) v8 v10 = (if v10 < v9 then (if v8 = true then (R1_Beside F (v1) (v9) (v10)).bind fun y8 => if y8 = true then some true else some false else some false).bind fun b7 => L3_ChordalTwo_L2 F v1 v9 g (b7) ((wrap64 (v10 + 1))) else some (v8, v10)) := by rw [L3_ChordalTwo_L2]
def L3_ChordalTwo_L1 (F : Nat) (v0 : Int) (v1 : List (Int × Int)) : Nat → (Bool) → (Int) → Option (Bool × Int)
  | 0, _, _ => none
  | g+1, v8, v9 => if v9 < v0 then (L3_ChordalTwo_L2 F (v1) (v9) F (v8) (0)).bind fun o9 => L3_ChordalTwo_L1 F v0 v1 g (o9.1) ((wrap64 (v9 + 1))) else some (v8, v9)
theorem L3_ChordalTwo_L1_0 (F : Nat) (v0 : Int) (v1 : List (Int × Int)) (v8 : Bool) (v9 : Int) : L3_ChordalTwo_L1 F v0 v1 0 v8 v9 = none := by rw [L3_ChordalTwo_L1]
theorem L3_ChordalTwo_L1_s (F g : Nat) (v0 : Int) (v1 : List (Int × Int)) (v8 : Bool) (v9 : Int) : L3_ChordalTwo_L1 F v0 v1 (g+1) v8 v9 = (if v9 < v0 then (L3_ChordalTwo_L2 F (v1) (v9) F (v8) (0)).bind fun o9 => L3_ChordalTwo_L1 F v0 v1 g (o9.1) ((wrap64 (v9 + 1))) else some (v8, v9)) := by rw [L3_ChordalTwo_L1]
def L3_ChordalTwo_L4 (F : Nat) (v1 : List (Int × Int)) (v4 : List Int) (v11 : Int) : Nat → (Int) → Option ((Int) ⊕ (Bool))
  | 0, _ => none
  | g+1, v12 => if v12 < v11 then ((ix v4 v11).bind fun y11 => (ix v4 v12).bind fun y12 => (R1_Beside F (v1) (y11) (y12)).bind fun y13 => if y13 = true then L3_ChordalTwo_L4 F v1 v4 v11 g ((wrap64 (v12 + 1))) else some (.inr (true))) else some (.inl (v12))
theorem L3_ChordalTwo_L4_0 (F : Nat) (v1 : List (Int × Int)) (v4 : List Int) (v11 : Int) (v12 : Int) : L3_ChordalTwo_L4 F v1 v4 v11 0 v12 = none := by rw [L3_ChordalTwo_L4]
theorem L3_ChordalTwo_L4_s (F g : Nat) (v1 : List (Int × Int)) (v4 : List Int) (v11 : Int) (v12 : Int) : L3_ChordalTwo_L4 F v1 v4 v11 (g+1) v12 = (if v12 < v11 then ((ix v4 v11).bind fun y11 => (ix v4 v12).bind fun y12 => (R1_Beside F (v1) (y11) (y12)).bind fun y13 => if y13 = true then L3_ChordalTwo_L4 F v1 v4 v11 g ((wrap64 (v12 + 1))) else some (.inr (true))) else some (.inl (v12))) := by rw [L3_ChordalTwo_L4]
def L3_ChordalTwo_L3 (F : Nat) (v1 : List (Int × Int)) (v4 : List Int) : Nat → (Int) → Option ((Int) ⊕ (Bool))
  | 0, _ => none
  | g+1, v11 => if v11 < ((v4).length : Int) then (L3_ChordalTwo_L4 F (v1) (v4) (v11) F (0)).bind fun o14 => match o14 with | .inr r => some (.inr (r)) | .inl o14 => L3_ChordalTwo_L3 F v1 v4 g ((wrap64 (v11 + 1))) else some (.inl (v11))
theorem L3_ChordalTwo_L3_0 (F : Nat) (v1 : List (Int × Int)) (v4 : List Int) (v11 : Int) : L3_ChordalTwo_L3 F v1 v4 0 v11 = none := by rw [L3_ChordalTwo_L3]
theorem L3_ChordalTwo_L3_s (F g : Nat) (v1 : List (Int × Int)) (v4 : List Int) (v11 : Int) : L3_ChordalTwo_L3 F v1 v4 (g+1) v11 = (if v11 < ((v4).length : Int) then (L3_ChordalTwo_L4 F (v1) (v4) (v11) F (0)).bind fun o14 => match o14 with | .inr r => some (.inr (r)) | .inl o14 => L3_ChordalTwo_L3 F v1 v4 g ((wrap64 (v11 + 1))) else some (.inl (v11))) := by rw [L3_ChordalTwo_L3]
def L3_ChordalTwo (F : Nat) (v0 : Int) (v1 : List (Int × Int)) : Option (Bool) := (L3_chordalFact F ).bind fun y1 => (if y1 = true then (chordal_Simple F (v0) (v1)).bind fun y2 => (chordal_Peel F (v0) (v1)).bind fun y3 => ((if (y2.2 != 0) = true then some true else if (y3.2 != 0) = true then some true else some false).bind fun b4 => if b4 = true then (if (y3.2 != 0) = true then some true else some false).bind fun b5 => some (b5) else ((R1_Lines F (v0) (v1)).bind fun y6 => if (y6 != 0) = true then some (false) else (L3_ChordalTwo_L1 F (v0) (v1) F (true) (0)).bind fun o10 => (L3_ChordalTwo_L3 F (v1) (y2.1) F (0)).bind fun o15 => match o15 with | .inr r => some (r) | .inl o15 => (if o10.1 = true then if (((y2.1).length : Int) == v0) = true then some true else some false else some false).bind fun b16 => some (b16))) else some (false))
set_option maxRecDepth 100000 in
set_option maxHeartbeats 4000000 in
theorem L3_ChordalTwo_ok {F : Nat} {v0 : Int} {v1 : List (Int × Int)} {A1 : Option Addr} {r : Bool} (w : World) (htc : TyCell w) (cap1 : Nat) (hr1 : ReadsL w w.heap.size A1 v1) (h : L3_ChordalTwo F v0 v1 = some r) :
    Calls Tryd.prog 5 #[.int .i64 v0, .slice A1 v1.length cap1] w fun e w' => e = .returned (.bool r) ∧ Below w.heap.size w w' := by
  have HTC := Lib.hid htc; clear htc
  have HR1 := Lib.hid hr1; clear hr1
  have HD := Lib.hid (Below.refl w.heap.size w)
  have HOA := Lib.hid (HP.nil (W := w) (B := w.heap.size))
  unfold L3_ChordalTwo at h
  have HM := Lib.hid h; clear h
  go_enter Tryd.func5, Tryd.ntmps5
  obtain ⟨y3, hy1, hm⟩ := obind HM.out
  replace HM := Lib.hid hm; clear hm
  have HC2 := L3_chordalFact_ok w (HTC.out.go HD.out)  hy1
  clear hy1
  replace HC2 := Lib.hid HC2
  go_wp2_with fail
  refine HC2.out.mono ?_; rintro e W4 ⟨rfl, hd⟩
  replace HOA := Lib.hid (HOA.out.below hd)
  replace HD := Lib.hid (HD.out.trans (hd.mono HD.out.size))
  clear hd
  cases y3
  · replace HM := Lib.hid (ifF Bool.false_ne_true HM.out)
    obtain rfl := Option.some.inj HM.out
    go_wp2_with fail
    go_ret
    exact ⟨rfl, HD.out⟩
  · replace HM := Lib.hid (ifT rfl HM.out)
    obtain ⟨⟨y7, y8⟩, hy5, hm⟩ := obind HM.out
    dsimp only at hm
    replace HM := Lib.hid hm; clear hm
    have HC6 := chordal_Simple_ok W4 cap1 (rdL HD.out HR1.out) hy5
    clear hy5
    by_cases hz9 : y8 = 0
    · subst hz9
      rw [errV_zero] at HC6; replace HC6 := Lib.hid HC6
      go_wp2_with fail
      refine HC6.out.mono ?_; rintro e W10 ⟨V11, rfl, ho, hd⟩
      replace HOA := Lib.hid (HOA.out.call hd HD.out.size ho); clear ho
      replace HD := Lib.hid (HD.out.trans (hd.mono HD.out.size))
      clear hd
      obtain ⟨⟨y19, y20⟩, hy17, hm⟩ := obind HM.out
      dsimp only at hm
      replace HM := Lib.hid hm; clear hm
      have HC18 := chordal_Peel_ok W10 cap1 (rdL HD.out HR1.out) hy17
      clear hy17
      by_cases hz21 : y20 = 0
      · subst hz21
        rw [errV_zero] at HC18; replace HC18 := Lib.hid HC18
        go_wp2_with fail
        refine HC18.out.mono ?_; rintro e W22 ⟨V23, rfl, ho, hd⟩
        replace HOA := Lib.hid (HOA.out.call hd HD.out.size ho); clear ho
        replace HD := Lib.hid (HD.out.trans (hd.mono HD.out.size))
        clear hd
        go_upto_region 6 with (fail)
        obtain ⟨b29, hb, hm⟩ := obind HM.out
        replace HM := Lib.hid hm; have HB30 := Lib.hid hb; clear hm hb
        go_cut [35] (fun uq wr => uq = .bool b29 ∧ Hid (Below W22.heap.size W22 wr))
        case first =>
          have HWC31 := Lib.hid (Below.refl W22.heap.size W22)
          replace HB30 := Lib.hid (ifF (by decide) HB30.out)
          replace HB30 := Lib.hid (ifF (by decide) HB30.out)
          cases Option.some.inj HB30.out
          try go_wp2_with fail
          go_meet
          case rel => exact ⟨rfl, HWC31⟩
        case rest =>
          obtain ⟨rfl, HWC31⟩ := hcut
          rename World => W32
          have hd := HWC31.out
          replace HOA := Lib.hid (HOA.out.below hd)
          replace HD := Lib.hid (HD.out.trans (hd.mono HD.out.size))
          clear hd
          cases b29
          · replace HM := Lib.hid (ifF Bool.false_ne_true HM.out)
            obtain ⟨y35, hy33, hm⟩ := obind HM.out
            replace HM := Lib.hid hm; clear hm
            have HC34 := R1_Lines_ok W32 cap1 (rdL HD.out HR1.out) hy33
            clear hy33
            replace HC34 := Lib.hid HC34
            go_wp2_with fail
            refine HC34.out.mono ?_; rintro e W36 ⟨rfl, hd⟩
            replace HOA := Lib.hid (HOA.out.below (hd.below _))
            replace HD := Lib.hid (HD.out.trans ((hd.below _).mono HD.out.size))
            clear hd
            rcases Bool.eq_false_or_eq_true (y35 != 0) with hc37 | hc37
            · replace HM := Lib.hid (ifT hc37 HM.out)
              have HK38 := Lib.hid hc37
              obtain rfl := Option.some.inj HM.out
              go_wp2_with fail
              go_ret
              exact ⟨(by first | rfl | (refine congrArg (fun b => Ending.returned (Value.bool b)) ?_; first | (exact decide_eq_true (by omega)) | (exact decide_eq_false (by omega)) | (have q := hc37; rw [bne_iff_ne] at q ⊢; omega) | (have q := hc37; rw [bne_eq_false_iff_eq] at q ⊢; omega) | (have q := hc37; rw [beq_iff_eq] at q ⊢; omega) | (have q := hc37; rw [beq_eq_false_iff_ne] at q ⊢; omega))), HD.out⟩
            · replace HM := Lib.hid (ifF (bF hc37) HM.out)
              have HK38 := Lib.hid hc37
              go_wp2_with fail
              try clear hc37
              obtain ⟨o39, ho, hm⟩ := obind HM.out
              replace HM := Lib.hid hm; have HL1 := Lib.hid ho; clear hm ho
              go_loopg [10, 11] F (fun gg ux42 ux43 wr => ∃ (x40 : Bool) (x41 : Int), ux42 = .bool x40 ∧ ux43 = .int .i64 x41 ∧ Hid (Below W36.heap.size W36 wr) ∧ Hid (L3_ChordalTwo_L1 F (v0) (v1) gg x40 x41 = some o39))
              case atStart => exact ⟨true, 0, rfl, rfl, (Lib.hid (Below.refl _ _)), HL1⟩
              case round =>
                obtain ⟨x40, x41, rfl, rfl, HW1, HL1⟩ := hrel
                rename World => W44
                have hd := HW1.out
                replace HOA := Lib.hid (HOA.out.below hd)
                replace HD := Lib.hid (HD.out.trans (hd.mono HD.out.size))
                clear hd
                cases gk with
                | zero => exact absurd ((L3_ChordalTwo_L1_0 ..).symm.trans HL1.out) (by intro h; cases h)
                | succ g1 =>
                  replace HL1 := Lib.hid ((L3_ChordalTwo_L1_s ..).symm.trans HL1.out)
                  by_cases hc45 : x41 < v0
                  · replace HL1 := Lib.hid (ifT hc45 HL1.out)
                    have HK46 := Lib.hid hc45
                    go_wp2_with fail
                    try clear hc45
                    obtain ⟨o47, ho, hm⟩ := obind HL1.out
                    replace HL1 := Lib.hid hm; have HL2 := Lib.hid ho; clear hm ho
                    go_loopg [10, 12] F (fun gg ux50 ux51 wr => ∃ (x48 : Bool) (x49 : Int), ux50 = .bool x48 ∧ ux51 = .int .i64 x49 ∧ Hid (Below W44.heap.size W44 wr) ∧ Hid (L3_ChordalTwo_L2 F (v1) (x41) gg x48 x49 = some o47))
                    case atStart => exact ⟨x40, 0, rfl, rfl, (Lib.hid (Below.refl _ _)), HL2⟩
                    case round =>
                      obtain ⟨x48, x49, rfl, rfl, HW2, HL2⟩ := hrel
                      rename World => W52
                      have hd := HW2.out
                      replace HOA := Lib.hid (HOA.out.below hd)
                      replace HD := Lib.hid (HD.out.trans (hd.mono HD.out.size))
                      replace HW1 := Lib.hid (HW1.out.trans (hd.mono HW1.out.size))
                      clear hd
                      cases gk with
                      | zero => exact absurd ((L3_ChordalTwo_L2_0 ..).symm.trans HL2.out) (by intro h; cases h)
                      | succ g2 =>
                        replace HL2 := Lib.hid ((L3_ChordalTwo_L2_s ..).symm.trans HL2.out)
                        by_cases hc53 : x49 < x41
                        · replace HL2 := Lib.hid (ifT hc53 HL2.out)
                          have HK54 := Lib.hid hc53
                          obtain ⟨b55, hb, hm⟩ := obind HL2.out
                          replace HL2 := Lib.hid hm; have HB56 := Lib.hid hb; clear hm hb
                          cases x48
                          · replace HB56 := Lib.hid (ifF Bool.false_ne_true HB56.out)
                            obtain rfl := Option.some.inj HB56.out
                            go_wp2_with fail
                            try clear hc53
                            go_roundg g2
                            case measure => omega
                            case rel => exact ⟨false, (wrap64 (x49 + 1)), rfl, rfl, HW2, HL2⟩
                          · replace HB56 := Lib.hid (ifT rfl HB56.out)
                            obtain ⟨y59, hy57, hm⟩ := obind HB56.out
                            replace HB56 := Lib.hid hm; clear hm
                            have HC58 := R1_Beside_ok W52 cap1 (rdL HD.out HR1.out) hy57
                            clear hy57
                            replace HC58 := Lib.hid HC58
                            cases y59
                            · replace HB56 := Lib.hid (ifF Bool.false_ne_true HB56.out)
                              obtain rfl := Option.some.inj HB56.out
                              go_wp2_with fail
                              refine HC58.out.mono ?_; rintro e w' ⟨rfl, rfl⟩
                              go_wp2_with fail
                              try clear hc53
                              go_roundg g2
                              case measure => omega
                              case rel => exact ⟨false, (wrap64 (x49 + 1)), rfl, rfl, HW2, HL2⟩
                            · replace HB56 := Lib.hid (ifT rfl HB56.out)
                              obtain rfl := Option.some.inj HB56.out
                              go_wp2_with fail
                              refine HC58.out.mono ?_; rintro e w' ⟨rfl, rfl⟩
                              go_wp2_with fail
                              try clear hc53
                              go_roundg g2
                              case measure => omega
                              case rel => exact ⟨true, (wrap64 (x49 + 1)), rfl, rfl, HW2, HL2⟩
                        · replace HL2 := Lib.hid (ifF hc53 HL2.out)
                          have hc53d := decide_eq_false hc53
                          have HK54 := Lib.hid hc53
                          obtain rfl := Option.some.inj HL2.out
                          have hm := HL1.out; try dsimp only at hm
                          replace HL1 := Lib.hid hm; clear hm
                          go_wp2_with fail
                          try clear hc53 hc53d
                          go_roundg g1
                          case measure => omega
                          case rel => exact ⟨x48, (wrap64 (x41 + 1)), rfl, rfl, HW1, HL1⟩
                  · replace HL1 := Lib.hid (ifF hc45 HL1.out)
                    have hc45d := decide_eq_false hc45
                    have HK46 := Lib.hid hc45
                    obtain rfl := Option.some.inj HL1.out
                    have hm := HM.out; try dsimp only at hm
                    replace HM := Lib.hid hm; clear hm
                    go_wp2_with fail
                    try clear hc45 hc45d
                    obtain ⟨o60, ho, hm⟩ := obind HM.out
                    replace HM := Lib.hid hm; have HL3 := Lib.hid ho; clear hm ho
                    go_loopg [13] F (fun gg ux62 wr => ∃ (x61 : Int), ux62 = .int .i64 x61 ∧ Hid (Below W44.heap.size W44 wr) ∧ Hid (L3_ChordalTwo_L3 F (v1) (y7) gg x61 = some o60))
                    case atStart => exact ⟨0, rfl, (Lib.hid (Below.refl _ _)), HL3⟩
                    case round =>
                      obtain ⟨x61, rfl, HW3, HL3⟩ := hrel
                      rename World => W63
                      have hd := HW3.out
                      replace HOA := Lib.hid (HOA.out.below hd)
                      replace HD := Lib.hid (HD.out.trans (hd.mono HD.out.size))
                      clear hd
                      cases gk with
                      | zero => exact absurd ((L3_ChordalTwo_L3_0 ..).symm.trans HL3.out) (by intro h; cases h)
                      | succ g3 =>
                        replace HL3 := Lib.hid ((L3_ChordalTwo_L3_s ..).symm.trans HL3.out)
                        obtain ⟨A64, cap65, he, _⟩ := HP.open_I HOA.out (List.Mem.tail _ (List.Mem.head _))
                        subst he
                        by_cases hc66 : x61 < ((y7).length : Int)
                        · replace HL3 := Lib.hid (ifT hc66 HL3.out)
                          have HK67 := Lib.hid hc66
                          go_wp2_with fail
                          try clear hc66
                          obtain ⟨o68, ho, hm⟩ := obind HL3.out
                          replace HL3 := Lib.hid hm; have HL4 := Lib.hid ho; clear hm ho
                          go_loopg [14] F (fun gg ux70 wr => ∃ (x69 : Int), ux70 = .int .i64 x69 ∧ Hid (Below W63.heap.size W63 wr) ∧ Hid (L3_ChordalTwo_L4 F (v1) (y7) (x61) gg x69 = some o68))
                          case atStart => exact ⟨0, rfl, (Lib.hid (Below.refl _ _)), HL4⟩
                          case round =>
                            obtain ⟨x69, rfl, HW4, HL4⟩ := hrel
                            rename World => W71
                            have hd := HW4.out
                            replace HOA := Lib.hid (HOA.out.below hd)
                            replace HD := Lib.hid (HD.out.trans (hd.mono HD.out.size))
                            replace HW3 := Lib.hid (HW3.out.trans (hd.mono HW3.out.size))
                            clear hd
                            cases gk with
                            | zero => exact absurd ((L3_ChordalTwo_L4_0 ..).symm.trans HL4.out) (by intro h; cases h)
                            | succ g4 =>
                              replace HL4 := Lib.hid ((L3_ChordalTwo_L4_s ..).symm.trans HL4.out)
                              by_cases hc72 : x69 < x61
                              · replace HL4 := Lib.hid (ifT hc72 HL4.out)
                                have HK73 := Lib.hid hc72
                                try go_wp2_with fail
                                try clear hc72
                                obtain ⟨y74, hy75, hm⟩ := obind HL4.out
                                replace HL4 := Lib.hid hm; clear hm
                                obtain ⟨b76, o77, ea78, _, f79, f80, f81⟩ := ReadsI.ix (HP.rd_I HOA.out (List.Mem.tail _ (List.Mem.head _))) hy75
                                cases ea78
                                try simp only [Nat.zero_add, Nat.add_zero, Int.toNat_natCast, Int.toNat_zero, Int.toNat_one] at f81
                                try rw [← HP.len_I HOA.out (List.Mem.tail _ (List.Mem.head _))] at f80
                                have HY83 := Lib.hid hy75; clear hy75
                                obtain ⟨y84, hy85, hm⟩ := obind HL4.out
                                replace HL4 := Lib.hid hm; clear hm
                                obtain ⟨b86, o87, ea88, _, f89, f90, f91⟩ := ReadsI.ix (HP.rd_I HOA.out (List.Mem.tail _ (List.Mem.head _))) hy85
                                cases ea88
                                try simp only [Nat.zero_add, Nat.add_zero, Int.toNat_natCast, Int.toNat_zero, Int.toNat_one] at f91
                                try rw [← HP.len_I HOA.out (List.Mem.tail _ (List.Mem.head _))] at f90
                                have HY93 := Lib.hid hy85; clear hy85
                                obtain ⟨y96, hy94, hm⟩ := obind HL4.out
                                replace HL4 := Lib.hid hm; clear hm
                                have HC95 := Lib.hid (fun m => R1_Beside_ok (W71.drewN m) cap1 (ReadsL.drewN' (rdL HD.out HR1.out) m) hy94)
                                clear hy94
                                cases y96
                                · replace HL4 := Lib.hid (ifF Bool.false_ne_true HL4.out)
                                  go_quiet (first | (go_at_call 12; exact quiet_left (HC95.out _)))
                                  generalize hW : World.drewN W71 _ = W97
                                  have hd : Dr W71 W97 := ⟨_, hW.symm⟩
                                  clear hW
                                  try clear f79 f80 f81 f89 f90 f91
                                  replace HOA := Lib.hid (HOA.out.below (hd.below _))
                                  replace HD := Lib.hid (HD.out.trans ((hd.below _).mono HD.out.size))
                                  replace HW3 := Lib.hid (HW3.out.trans ((hd.below _).mono HW3.out.size))
                                  replace HW4 := Lib.hid (HW4.out.trans ((hd.below _).mono HW4.out.size))
                                  clear hd
                                  obtain rfl := Option.some.inj HL4.out
                                  have hm := HL3.out; try dsimp only at hm
                                  replace HL3 := Lib.hid hm; clear hm
                                  obtain rfl := Option.some.inj HL3.out
                                  have hm := HM.out; try dsimp only at hm
                                  replace HM := Lib.hid hm; clear hm
                                  obtain rfl := Option.some.inj HM.out
                                  go_wp2_with fail
                                  go_ret
                                  exact ⟨rfl, HD.out⟩
                                · replace HL4 := Lib.hid (ifT rfl HL4.out)
                                  go_quiet (first | (go_at_call 12; exact quiet_left (HC95.out _)))
                                  generalize hW : World.drewN W71 _ = W98
                                  have hd : Dr W71 W98 := ⟨_, hW.symm⟩
                                  clear hW
                                  try clear f79 f80 f81 f89 f90 f91
                                  replace HOA := Lib.hid (HOA.out.below (hd.below _))
                                  replace HD := Lib.hid (HD.out.trans ((hd.below _).mono HD.out.size))
                                  replace HW3 := Lib.hid (HW3.out.trans ((hd.below _).mono HW3.out.size))
                                  replace HW4 := Lib.hid (HW4.out.trans ((hd.below _).mono HW4.out.size))
                                  clear hd
                                  go_wp2_with fail
                                  go_roundg g4
                                  case measure => omega
                                  case rel => exact ⟨(wrap64 (x69 + 1)), rfl, HW4, HL4⟩
                              · replace HL4 := Lib.hid (ifF hc72 HL4.out)
                                have hc72d := decide_eq_false hc72
                                have HK73 := Lib.hid hc72
                                obtain rfl := Option.some.inj HL4.out
                                have hm := HL3.out; try dsimp only at hm
                                replace HL3 := Lib.hid hm; clear hm
                                go_wp2_with fail
                                try clear hc72 hc72d
                                go_roundg g3
                                case measure => omega
                                case rel => exact ⟨(wrap64 (x61 + 1)), rfl, HW3, HL3⟩
                        · replace HL3 := Lib.hid (ifF hc66 HL3.out)
                          have hc66d := decide_eq_false hc66
                          have HK67 := Lib.hid hc66
                          obtain rfl := Option.some.inj HL3.out
                          have hm := HM.out; try dsimp only at hm
                          replace HM := Lib.hid hm; clear hm
                          obtain ⟨b99, hb, hm⟩ := obind HM.out
                          replace HM := Lib.hid hm; have HB100 := Lib.hid hb; clear hm hb
                          cases x40
                          · replace HB100 := Lib.hid (ifF Bool.false_ne_true HB100.out)
                            obtain rfl := Option.some.inj HB100.out
                            obtain rfl := Option.some.inj HM.out
                            go_wp2_with fail
                            go_ret
                            exact ⟨(by first | rfl | (refine congrArg (fun b => Ending.returned (Value.bool b)) ?_; first | (exact decide_eq_true (by omega)) | (exact decide_eq_false (by omega)) | (have q := hc66; rw [bne_iff_ne] at q ⊢; omega) | (have q := hc66; rw [bne_eq_false_iff_eq] at q ⊢; omega) | (have q := hc66; rw [beq_iff_eq] at q ⊢; omega) | (have q := hc66; rw [beq_eq_false_iff_ne] at q ⊢; omega) | (have q := hc66d; rw [bne_iff_ne] at q ⊢; omega) | (have q := hc66d; rw [bne_eq_false_iff_eq] at q ⊢; omega) | (have q := hc66d; rw [beq_iff_eq] at q ⊢; omega) | (have q := hc66d; rw [beq_eq_false_iff_ne] at q ⊢; omega))), HD.out⟩
                          · replace HB100 := Lib.hid (ifT rfl HB100.out)
                            rcases Bool.eq_false_or_eq_true (((y7).length : Int) == v0) with hc101 | hc101
                            · replace HB100 := Lib.hid (ifT hc101 HB100.out)
                              have HK102 := Lib.hid hc101
                              obtain rfl := Option.some.inj HB100.out
                              obtain rfl := Option.some.inj HM.out
                              go_wp2_with fail
                              go_ret
                              exact ⟨(by first | rfl | (refine congrArg (fun b => Ending.returned (Value.bool b)) ?_; first | (exact decide_eq_true (by omega)) | (exact decide_eq_false (by omega)) | (have q := hc66d; rw [bne_iff_ne] at q ⊢; omega) | (have q := hc66d; rw [bne_eq_false_iff_eq] at q ⊢; omega) | (have q := hc66d; rw [beq_iff_eq] at q ⊢; omega) | (have q := hc66d; rw [beq_eq_false_iff_ne] at q ⊢; omega) | (have q := hc101; rw [bne_iff_ne] at q ⊢; omega) | (have q := hc101; rw [bne_eq_false_iff_eq] at q ⊢; omega) | (have q := hc101; rw [beq_iff_eq] at q ⊢; omega) | (have q := hc101; rw [beq_eq_false_iff_ne] at q ⊢; omega))), HD.out⟩
                            · replace HB100 := Lib.hid (ifF (bF hc101) HB100.out)
                              have HK102 := Lib.hid hc101
                              obtain rfl := Option.some.inj HB100.out
                              obtain rfl := Option.some.inj HM.out
                              go_wp2_with fail
                              go_ret
                              exact ⟨(by first | rfl | (refine congrArg (fun b => Ending.returned (Value.bool b)) ?_; first | (exact decide_eq_true (by omega)) | (exact decide_eq_false (by omega)) | (have q := hc66d; rw [bne_iff_ne] at q ⊢; omega) | (have q := hc66d; rw [bne_eq_false_iff_eq] at q ⊢; omega) | (have q := hc66d; rw [beq_iff_eq] at q ⊢; omega) | (have q := hc66d; rw [beq_eq_false_iff_ne] at q ⊢; omega) | (have q := hc101; rw [bne_iff_ne] at q ⊢; omega) | (have q := hc101; rw [bne_eq_false_iff_eq] at q ⊢; omega) | (have q := hc101; rw [beq_iff_eq] at q ⊢; omega) | (have q := hc101; rw [beq_eq_false_iff_ne] at q ⊢; omega))), HD.out⟩
          · replace HM := Lib.hid (ifT rfl HM.out)
            obtain ⟨b103, hb, hm⟩ := obind HM.out
            replace HM := Lib.hid hm; have HB104 := Lib.hid hb; clear hm hb
            replace HB104 := Lib.hid (ifF (by decide) HB104.out)
            obtain rfl := Option.some.inj HB104.out
            obtain rfl := Option.some.inj HM.out
            go_wp2_with fail
            go_ret
            exact ⟨rfl, HD.out⟩
      · rw [errV_pos _ hz21] at HC18; replace HC18 := Lib.hid HC18
        go_wp2_with fail
        refine HC18.out.mono ?_; rintro e W25 ⟨V26, rfl, ho, hd⟩
        replace HOA := Lib.hid (HOA.out.call hd HD.out.size ho); clear ho
        replace HD := Lib.hid (HD.out.trans (hd.mono HD.out.size))
        clear hd
        have HZ28 := Lib.hid hz21; clear hz21
        go_upto_region 6 with (fail)
        obtain ⟨b105, hb, hm⟩ := obind HM.out
        replace HM := Lib.hid hm; have HB106 := Lib.hid hb; clear hm hb
        go_cut [35] (fun uq wr => uq = .bool b105 ∧ Hid (Below W25.heap.size W25 wr))
        case first =>
          have HWC107 := Lib.hid (Below.refl W25.heap.size W25)
          replace HB106 := Lib.hid (ifF (by decide) HB106.out)
          replace HB106 := Lib.hid (ifT (bne_iff_ne.2 HZ28.out) HB106.out)
          cases Option.some.inj HB106.out
          try go_wp2_with fail
          go_meet
          case rel => exact ⟨rfl, HWC107⟩
        case rest =>
          obtain ⟨rfl, HWC107⟩ := hcut
          rename World => W108
          have hd := HWC107.out
          replace HOA := Lib.hid (HOA.out.below hd)
          replace HD := Lib.hid (HD.out.trans (hd.mono HD.out.size))
          clear hd
          cases b105
          · replace HM := Lib.hid (ifF Bool.false_ne_true HM.out)
            obtain ⟨y111, hy109, hm⟩ := obind HM.out
            replace HM := Lib.hid hm; clear hm
            have HC110 := R1_Lines_ok W108 cap1 (rdL HD.out HR1.out) hy109
            clear hy109
            replace HC110 := Lib.hid HC110
            go_wp2_with fail
            refine HC110.out.mono ?_; rintro e W112 ⟨rfl, hd⟩
            replace HOA := Lib.hid (HOA.out.below (hd.below _))
            replace HD := Lib.hid (HD.out.trans ((hd.below _).mono HD.out.size))
            clear hd
            rcases Bool.eq_false_or_eq_true (y111 != 0) with hc113 | hc113
            · replace HM := Lib.hid (ifT hc113 HM.out)
              have HK114 := Lib.hid hc113
              obtain rfl := Option.some.inj HM.out
              go_wp2_with fail
              go_ret
              exact ⟨(by first | rfl | (refine congrArg (fun b => Ending.returned (Value.bool b)) ?_; first | (exact decide_eq_true (by omega)) | (exact decide_eq_false (by omega)) | (have q := hc113; rw [bne_iff_ne] at q ⊢; omega) | (have q := hc113; rw [bne_eq_false_iff_eq] at q ⊢; omega) | (have q := hc113; rw [beq_iff_eq] at q ⊢; omega) | (have q := hc113; rw [beq_eq_false_iff_ne] at q ⊢; omega))), HD.out⟩
            · replace HM := Lib.hid (ifF (bF hc113) HM.out)
              have HK114 := Lib.hid hc113
              go_wp2_with fail
              try clear hc113
              obtain ⟨o115, ho, hm⟩ := obind HM.out
              replace HM := Lib.hid hm; have HL1 := Lib.hid ho; clear hm ho
              go_loopg [10, 11] F (fun gg ux118 ux119 wr => ∃ (x116 : Bool) (x117 : Int), ux118 = .bool x116 ∧ ux119 = .int .i64 x117 ∧ Hid (Below W112.heap.size W112 wr) ∧ Hid (L3_ChordalTwo_L1 F (v0) (v1) gg x116 x117 = some o115))
              case atStart => exact ⟨true, 0, rfl, rfl, (Lib.hid (Below.refl _ _)), HL1⟩
              case round =>
                obtain ⟨x116, x117, rfl, rfl, HW1, HL1⟩ := hrel
                rename World => W120
                have hd := HW1.out
                replace HOA := Lib.hid (HOA.out.below hd)
                replace HD := Lib.hid (HD.out.trans (hd.mono HD.out.size))
                clear hd
                cases gk with
                | zero => exact absurd ((L3_ChordalTwo_L1_0 ..).symm.trans HL1.out) (by intro h; cases h)
                | succ g1 =>
                  replace HL1 := Lib.hid ((L3_ChordalTwo_L1_s ..).symm.trans HL1.out)
                  by_cases hc121 : x117 < v0
                  · replace HL1 := Lib.hid (ifT hc121 HL1.out)
                    have HK122 := Lib.hid hc121
                    go_wp2_with fail
                    try clear hc121
                    obtain ⟨o123, ho, hm⟩ := obind HL1.out
                    replace HL1 := Lib.hid hm; have HL2 := Lib.hid ho; clear hm ho
                    go_loopg [10, 12] F (fun gg ux126 ux127 wr => ∃ (x124 : Bool) (x125 : Int), ux126 = .bool x124 ∧ ux127 = .int .i64 x125 ∧ Hid (Below W120.heap.size W120 wr) ∧ Hid (L3_ChordalTwo_L2 F (v1) (x117) gg x124 x125 = some o123))
                    case atStart => exact ⟨x116, 0, rfl, rfl, (Lib.hid (Below.refl _ _)), HL2⟩
                    case round =>
                      obtain ⟨x124, x125, rfl, rfl, HW2, HL2⟩ := hrel
                      rename World => W128
                      have hd := HW2.out
                      replace HOA := Lib.hid (HOA.out.below hd)
                      replace HD := Lib.hid (HD.out.trans (hd.mono HD.out.size))
                      replace HW1 := Lib.hid (HW1.out.trans (hd.mono HW1.out.size))
                      clear hd
                      cases gk with
                      | zero => exact absurd ((L3_ChordalTwo_L2_0 ..).symm.trans HL2.out) (by intro h; cases h)
                      | succ g2 =>
                        replace HL2 := Lib.hid ((L3_ChordalTwo_L2_s ..).symm.trans HL2.out)
                        by_cases hc129 : x125 < x117
                        · replace HL2 := Lib.hid (ifT hc129 HL2.out)
                          have HK130 := Lib.hid hc129
                          obtain ⟨b131, hb, hm⟩ := obind HL2.out
                          replace HL2 := Lib.hid hm; have HB132 := Lib.hid hb; clear hm hb
                          cases x124
                          · replace HB132 := Lib.hid (ifF Bool.false_ne_true HB132.out)
                            obtain rfl := Option.some.inj HB132.out
                            go_wp2_with fail
                            try clear hc129
                            go_roundg g2
                            case measure => omega
                            case rel => exact ⟨false, (wrap64 (x125 + 1)), rfl, rfl, HW2, HL2⟩
                          · replace HB132 := Lib.hid (ifT rfl HB132.out)
                            obtain ⟨y135, hy133, hm⟩ := obind HB132.out
                            replace HB132 := Lib.hid hm; clear hm
                            have HC134 := R1_Beside_ok W128 cap1 (rdL HD.out HR1.out) hy133
                            clear hy133
                            replace HC134 := Lib.hid HC134
                            cases y135
                            · replace HB132 := Lib.hid (ifF Bool.false_ne_true HB132.out)
                              obtain rfl := Option.some.inj HB132.out
                              go_wp2_with fail
                              refine HC134.out.mono ?_; rintro e w' ⟨rfl, rfl⟩
                              go_wp2_with fail
                              try clear hc129
                              go_roundg g2
                              case measure => omega
                              case rel => exact ⟨false, (wrap64 (x125 + 1)), rfl, rfl, HW2, HL2⟩
                            · replace HB132 := Lib.hid (ifT rfl HB132.out)
                              obtain rfl := Option.some.inj HB132.out
                              go_wp2_with fail
                              refine HC134.out.mono ?_; rintro e w' ⟨rfl, rfl⟩
                              go_wp2_with fail
                              try clear hc129
                              go_roundg g2
                              case measure => omega
                              case rel => exact ⟨true, (wrap64 (x125 + 1)), rfl, rfl, HW2, HL2⟩
                        · replace HL2 := Lib.hid (ifF hc129 HL2.out)
                          have hc129d := decide_eq_false hc129
                          have HK130 := Lib.hid hc129
                          obtain rfl := Option.some.inj HL2.out
                          have hm := HL1.out; try dsimp only at hm
                          replace HL1 := Lib.hid hm; clear hm
                          go_wp2_with fail
                          try clear hc129 hc129d
                          go_roundg g1
                          case measure => omega
                          case rel => exact ⟨x124, (wrap64 (x117 + 1)), rfl, rfl, HW1, HL1⟩
                  · replace HL1 := Lib.hid (ifF hc121 HL1.out)
                    have hc121d := decide_eq_false hc121
                    have HK122 := Lib.hid hc121
                    obtain rfl := Option.some.inj HL1.out
                    have hm := HM.out; try dsimp only at hm
                    replace HM := Lib.hid hm; clear hm
                    go_wp2_with fail
                    try clear hc121 hc121d
                    obtain ⟨o136, ho, hm⟩ := obind HM.out
                    replace HM := Lib.hid hm; have HL3 := Lib.hid ho; clear hm ho
                    go_loopg [13] F (fun gg ux138 wr => ∃ (x137 : Int), ux138 = .int .i64 x137 ∧ Hid (Below W120.heap.size W120 wr) ∧ Hid (L3_ChordalTwo_L3 F (v1) (y7) gg x137 = some o136))
                    case atStart => exact ⟨0, rfl, (Lib.hid (Below.refl _ _)), HL3⟩
                    case round =>
                      obtain ⟨x137, rfl, HW3, HL3⟩ := hrel
                      rename World => W139
                      have hd := HW3.out
                      replace HOA := Lib.hid (HOA.out.below hd)
                      replace HD := Lib.hid (HD.out.trans (hd.mono HD.out.size))
                      clear hd
                      cases gk with
                      | zero => exact absurd ((L3_ChordalTwo_L3_0 ..).symm.trans HL3.out) (by intro h; cases h)
                      | succ g3 =>
                        replace HL3 := Lib.hid ((L3_ChordalTwo_L3_s ..).symm.trans HL3.out)
                        obtain ⟨A140, cap141, he, _⟩ := HP.open_I HOA.out (List.Mem.tail _ (List.Mem.head _))
                        subst he
                        by_cases hc142 : x137 < ((y7).length : Int)
                        · replace HL3 := Lib.hid (ifT hc142 HL3.out)
                          have HK143 := Lib.hid hc142
                          go_wp2_with fail
                          try clear hc142
                          obtain ⟨o144, ho, hm⟩ := obind HL3.out
                          replace HL3 := Lib.hid hm; have HL4 := Lib.hid ho; clear hm ho
                          go_loopg [14] F (fun gg ux146 wr => ∃ (x145 : Int), ux146 = .int .i64 x145 ∧ Hid (Below W139.heap.size W139 wr) ∧ Hid (L3_ChordalTwo_L4 F (v1) (y7) (x137) gg x145 = some o144))
                          case atStart => exact ⟨0, rfl, (Lib.hid (Below.refl _ _)), HL4⟩
                          case round =>
                            obtain ⟨x145, rfl, HW4, HL4⟩ := hrel
                            rename World => W147
                            have hd := HW4.out
                            replace HOA := Lib.hid (HOA.out.below hd)
                            replace HD := Lib.hid (HD.out.trans (hd.mono HD.out.size))
                            replace HW3 := Lib.hid (HW3.out.trans (hd.mono HW3.out.size))
                            clear hd
                            cases gk with
                            | zero => exact absurd ((L3_ChordalTwo_L4_0 ..).symm.trans HL4.out) (by intro h; cases h)
                            | succ g4 =>
                              replace HL4 := Lib.hid ((L3_ChordalTwo_L4_s ..).symm.trans HL4.out)
                              by_cases hc148 : x145 < x137
                              · replace HL4 := Lib.hid (ifT hc148 HL4.out)
                                have HK149 := Lib.hid hc148
                                try go_wp2_with fail
                                try clear hc148
                                obtain ⟨y150, hy151, hm⟩ := obind HL4.out
                                replace HL4 := Lib.hid hm; clear hm
                                obtain ⟨b152, o153, ea154, _, f155, f156, f157⟩ := ReadsI.ix (HP.rd_I HOA.out (List.Mem.tail _ (List.Mem.head _))) hy151
                                cases ea154
                                try simp only [Nat.zero_add, Nat.add_zero, Int.toNat_natCast, Int.toNat_zero, Int.toNat_one] at f157
                                try rw [← HP.len_I HOA.out (List.Mem.tail _ (List.Mem.head _))] at f156
                                have HY159 := Lib.hid hy151; clear hy151
                                obtain ⟨y160, hy161, hm⟩ := obind HL4.out
                                replace HL4 := Lib.hid hm; clear hm
                                obtain ⟨b162, o163, ea164, _, f165, f166, f167⟩ := ReadsI.ix (HP.rd_I HOA.out (List.Mem.tail _ (List.Mem.head _))) hy161
                                cases ea164
                                try simp only [Nat.zero_add, Nat.add_zero, Int.toNat_natCast, Int.toNat_zero, Int.toNat_one] at f167
                                try rw [← HP.len_I HOA.out (List.Mem.tail _ (List.Mem.head _))] at f166
                                have HY169 := Lib.hid hy161; clear hy161
                                obtain ⟨y172, hy170, hm⟩ := obind HL4.out
                                replace HL4 := Lib.hid hm; clear hm
                                have HC171 := Lib.hid (fun m => R1_Beside_ok (W147.drewN m) cap1 (ReadsL.drewN' (rdL HD.out HR1.out) m) hy170)
                                clear hy170
                                cases y172
                                · replace HL4 := Lib.hid (ifF Bool.false_ne_true HL4.out)
                                  go_quiet (first | (go_at_call 12; exact quiet_left (HC171.out _)))
                                  generalize hW : World.drewN W147 _ = W173
                                  have hd : Dr W147 W173 := ⟨_, hW.symm⟩
                                  clear hW
                                  try clear f155 f156 f157 f165 f166 f167
                                  replace HOA := Lib.hid (HOA.out.below (hd.below _))
                                  replace HD := Lib.hid (HD.out.trans ((hd.below _).mono HD.out.size))
                                  replace HW3 := Lib.hid (HW3.out.trans ((hd.below _).mono HW3.out.size))
                                  replace HW4 := Lib.hid (HW4.out.trans ((hd.below _).mono HW4.out.size))
                                  clear hd
                                  obtain rfl := Option.some.inj HL4.out
                                  have hm := HL3.out; try dsimp only at hm
                                  replace HL3 := Lib.hid hm; clear hm
                                  obtain rfl := Option.some.inj HL3.out
                                  have hm := HM.out; try dsimp only at hm
                                  replace HM := Lib.hid hm; clear hm
                                  obtain rfl := Option.some.inj HM.out
                                  go_wp2_with fail
                                  go_ret
                                  exact ⟨rfl, HD.out⟩
                                · replace HL4 := Lib.hid (ifT rfl HL4.out)
                                  go_quiet (first | (go_at_call 12; exact quiet_left (HC171.out _)))
                                  generalize hW : World.drewN W147 _ = W174
                                  have hd : Dr W147 W174 := ⟨_, hW.symm⟩
                                  clear hW
                                  try clear f155 f156 f157 f165 f166 f167
                                  replace HOA := Lib.hid (HOA.out.below (hd.below _))
                                  replace HD := Lib.hid (HD.out.trans ((hd.below _).mono HD.out.size))
                                  replace HW3 := Lib.hid (HW3.out.trans ((hd.below _).mono HW3.out.size))
                                  replace HW4 := Lib.hid (HW4.out.trans ((hd.below _).mono HW4.out.size))
                                  clear hd
                                  go_wp2_with fail
                                  go_roundg g4
                                  case measure => omega
                                  case rel => exact ⟨(wrap64 (x145 + 1)), rfl, HW4, HL4⟩
                              · replace HL4 := Lib.hid (ifF hc148 HL4.out)
                                have hc148d := decide_eq_false hc148
                                have HK149 := Lib.hid hc148
                                obtain rfl := Option.some.inj HL4.out
                                have hm := HL3.out; try dsimp only at hm
                                replace HL3 := Lib.hid hm; clear hm
                                go_wp2_with fail
                                try clear hc148 hc148d
                                go_roundg g3
                                case measure => omega
                                case rel => exact ⟨(wrap64 (x137 + 1)), rfl, HW3, HL3⟩
                        · replace HL3 := Lib.hid (ifF hc142 HL3.out)
                          have hc142d := decide_eq_false hc142
                          have HK143 := Lib.hid hc142
                          obtain rfl := Option.some.inj HL3.out
                          have hm := HM.out; try dsimp only at hm
                          replace HM := Lib.hid hm; clear hm
                          obtain ⟨b175, hb, hm⟩ := obind HM.out
                          replace HM := Lib.hid hm; have HB176 := Lib.hid hb; clear hm hb
                          cases x116
                          · replace HB176 := Lib.hid (ifF Bool.false_ne_true HB176.out)
                            obtain rfl := Option.some.inj HB176.out
                            obtain rfl := Option.some.inj HM.out
                            go_wp2_with fail
                            go_ret
                            exact ⟨(by first | rfl | (refine congrArg (fun b => Ending.returned (Value.bool b)) ?_; first | (exact decide_eq_true (by omega)) | (exact decide_eq_false (by omega)) | (have q := hc142; rw [bne_iff_ne] at q ⊢; omega) | (have q := hc142; rw [bne_eq_false_iff_eq] at q ⊢; omega) | (have q := hc142; rw [beq_iff_eq] at q ⊢; omega) | (have q := hc142; rw [beq_eq_false_iff_ne] at q ⊢; omega) | (have q := hc142d; rw [bne_iff_ne] at q ⊢; omega) | (have q := hc142d; rw [bne_eq_false_iff_eq] at q ⊢; omega) | (have q := hc142d; rw [beq_iff_eq] at q ⊢; omega) | (have q := hc142d; rw [beq_eq_false_iff_ne] at q ⊢; omega))), HD.out⟩
                          · replace HB176 := Lib.hid (ifT rfl HB176.out)
                            rcases Bool.eq_false_or_eq_true (((y7).length : Int) == v0) with hc177 | hc177
                            · replace HB176 := Lib.hid (ifT hc177 HB176.out)
                              have HK178 := Lib.hid hc177
                              obtain rfl := Option.some.inj HB176.out
                              obtain rfl := Option.some.inj HM.out
                              go_wp2_with fail
                              go_ret
                              exact ⟨(by first | rfl | (refine congrArg (fun b => Ending.returned (Value.bool b)) ?_; first | (exact decide_eq_true (by omega)) | (exact decide_eq_false (by omega)) | (have q := hc142d; rw [bne_iff_ne] at q ⊢; omega) | (have q := hc142d; rw [bne_eq_false_iff_eq] at q ⊢; omega) | (have q := hc142d; rw [beq_iff_eq] at q ⊢; omega) | (have q := hc142d; rw [beq_eq_false_iff_ne] at q ⊢; omega) | (have q := hc177; rw [bne_iff_ne] at q ⊢; omega) | (have q := hc177; rw [bne_eq_false_iff_eq] at q ⊢; omega) | (have q := hc177; rw [beq_iff_eq] at q ⊢; omega) | (have q := hc177; rw [beq_eq_false_iff_ne] at q ⊢; omega))), HD.out⟩
                            · replace HB176 := Lib.hid (ifF (bF hc177) HB176.out)
                              have HK178 := Lib.hid hc177
                              obtain rfl := Option.some.inj HB176.out
                              obtain rfl := Option.some.inj HM.out
                              go_wp2_with fail
                              go_ret
                              exact ⟨(by first | rfl | (refine congrArg (fun b => Ending.returned (Value.bool b)) ?_; first | (exact decide_eq_true (by omega)) | (exact decide_eq_false (by omega)) | (have q := hc142d; rw [bne_iff_ne] at q ⊢; omega) | (have q := hc142d; rw [bne_eq_false_iff_eq] at q ⊢; omega) | (have q := hc142d; rw [beq_iff_eq] at q ⊢; omega) | (have q := hc142d; rw [beq_eq_false_iff_ne] at q ⊢; omega) | (have q := hc177; rw [bne_iff_ne] at q ⊢; omega) | (have q := hc177; rw [bne_eq_false_iff_eq] at q ⊢; omega) | (have q := hc177; rw [beq_iff_eq] at q ⊢; omega) | (have q := hc177; rw [beq_eq_false_iff_ne] at q ⊢; omega))), HD.out⟩
          · replace HM := Lib.hid (ifT rfl HM.out)
            obtain ⟨b179, hb, hm⟩ := obind HM.out
            replace HM := Lib.hid hm; have HB180 := Lib.hid hb; clear hm hb
            replace HB180 := Lib.hid (ifT (bne_iff_ne.2 HZ28.out) HB180.out)
            obtain rfl := Option.some.inj HB180.out
            obtain rfl := Option.some.inj HM.out
            go_wp2_with fail
            go_ret
            exact ⟨rfl, HD.out⟩
    · rw [errV_pos _ hz9] at HC6; replace HC6 := Lib.hid HC6
      go_wp2_with fail
      refine HC6.out.mono ?_; rintro e W13 ⟨V14, rfl, ho, hd⟩
      replace HOA := Lib.hid (HOA.out.call hd HD.out.size ho); clear ho
      replace HD := Lib.hid (HD.out.trans (hd.mono HD.out.size))
      clear hd
      have HZ16 := Lib.hid hz9; clear hz9
      obtain ⟨⟨y183, y184⟩, hy181, hm⟩ := obind HM.out
      dsimp only at hm
      replace HM := Lib.hid hm; clear hm
      have HC182 := chordal_Peel_ok W13 cap1 (rdL HD.out HR1.out) hy181
      clear hy181
      by_cases hz185 : y184 = 0
      · subst hz185
        rw [errV_zero] at HC182; replace HC182 := Lib.hid HC182
        go_wp2_with fail
        refine HC182.out.mono ?_; rintro e W186 ⟨V187, rfl, ho, hd⟩
        replace HOA := Lib.hid (HOA.out.call hd HD.out.size ho); clear ho
        replace HD := Lib.hid (HD.out.trans (hd.mono HD.out.size))
        clear hd
        go_upto_region 6 with (fail)
        obtain ⟨b193, hb, hm⟩ := obind HM.out
        replace HM := Lib.hid hm; have HB194 := Lib.hid hb; clear hm hb
        go_cut [35] (fun uq wr => uq = .bool b193 ∧ Hid (Below W186.heap.size W186 wr))
        case first =>
          have HWC195 := Lib.hid (Below.refl W186.heap.size W186)
          replace HB194 := Lib.hid (ifT (bne_iff_ne.2 HZ16.out) HB194.out)
          cases Option.some.inj HB194.out
          try go_wp2_with fail
          go_meet
          case rel => exact ⟨rfl, HWC195⟩
        case rest =>
          obtain ⟨rfl, HWC195⟩ := hcut
          rename World => W196
          have hd := HWC195.out
          replace HOA := Lib.hid (HOA.out.below hd)
          replace HD := Lib.hid (HD.out.trans (hd.mono HD.out.size))
          clear hd
          cases b193
          · replace HM := Lib.hid (ifF Bool.false_ne_true HM.out)
            obtain ⟨y199, hy197, hm⟩ := obind HM.out
            replace HM := Lib.hid hm; clear hm
            have HC198 := R1_Lines_ok W196 cap1 (rdL HD.out HR1.out) hy197
            clear hy197
            replace HC198 := Lib.hid HC198
            go_wp2_with fail
            refine HC198.out.mono ?_; rintro e W200 ⟨rfl, hd⟩
            replace HOA := Lib.hid (HOA.out.below (hd.below _))
            replace HD := Lib.hid (HD.out.trans ((hd.below _).mono HD.out.size))
            clear hd
            rcases Bool.eq_false_or_eq_true (y199 != 0) with hc201 | hc201
            · replace HM := Lib.hid (ifT hc201 HM.out)
              have HK202 := Lib.hid hc201
              obtain rfl := Option.some.inj HM.out
              go_wp2_with fail
              go_ret
              exact ⟨(by first | rfl | (refine congrArg (fun b => Ending.returned (Value.bool b)) ?_; first | (exact decide_eq_true (by omega)) | (exact decide_eq_false (by omega)) | (have q := hc201; rw [bne_iff_ne] at q ⊢; omega) | (have q := hc201; rw [bne_eq_false_iff_eq] at q ⊢; omega) | (have q := hc201; rw [beq_iff_eq] at q ⊢; omega) | (have q := hc201; rw [beq_eq_false_iff_ne] at q ⊢; omega))), HD.out⟩
            · replace HM := Lib.hid (ifF (bF hc201) HM.out)
              have HK202 := Lib.hid hc201
              go_wp2_with fail
              try clear hc201
              obtain ⟨o203, ho, hm⟩ := obind HM.out
              replace HM := Lib.hid hm; have HL1 := Lib.hid ho; clear hm ho
              go_loopg [10, 11] F (fun gg ux206 ux207 wr => ∃ (x204 : Bool) (x205 : Int), ux206 = .bool x204 ∧ ux207 = .int .i64 x205 ∧ Hid (Below W200.heap.size W200 wr) ∧ Hid (L3_ChordalTwo_L1 F (v0) (v1) gg x204 x205 = some o203))
              case atStart => exact ⟨true, 0, rfl, rfl, (Lib.hid (Below.refl _ _)), HL1⟩
              case round =>
                obtain ⟨x204, x205, rfl, rfl, HW1, HL1⟩ := hrel
                rename World => W208
                have hd := HW1.out
                replace HOA := Lib.hid (HOA.out.below hd)
                replace HD := Lib.hid (HD.out.trans (hd.mono HD.out.size))
                clear hd
                cases gk with
                | zero => exact absurd ((L3_ChordalTwo_L1_0 ..).symm.trans HL1.out) (by intro h; cases h)
                | succ g1 =>
                  replace HL1 := Lib.hid ((L3_ChordalTwo_L1_s ..).symm.trans HL1.out)
                  by_cases hc209 : x205 < v0
                  · replace HL1 := Lib.hid (ifT hc209 HL1.out)
                    have HK210 := Lib.hid hc209
                    go_wp2_with fail
                    try clear hc209
                    obtain ⟨o211, ho, hm⟩ := obind HL1.out
                    replace HL1 := Lib.hid hm; have HL2 := Lib.hid ho; clear hm ho
                    go_loopg [10, 12] F (fun gg ux214 ux215 wr => ∃ (x212 : Bool) (x213 : Int), ux214 = .bool x212 ∧ ux215 = .int .i64 x213 ∧ Hid (Below W208.heap.size W208 wr) ∧ Hid (L3_ChordalTwo_L2 F (v1) (x205) gg x212 x213 = some o211))
                    case atStart => exact ⟨x204, 0, rfl, rfl, (Lib.hid (Below.refl _ _)), HL2⟩
                    case round =>
                      obtain ⟨x212, x213, rfl, rfl, HW2, HL2⟩ := hrel
                      rename World => W216
                      have hd := HW2.out
                      replace HOA := Lib.hid (HOA.out.below hd)
                      replace HD := Lib.hid (HD.out.trans (hd.mono HD.out.size))
                      replace HW1 := Lib.hid (HW1.out.trans (hd.mono HW1.out.size))
                      clear hd
                      cases gk with
                      | zero => exact absurd ((L3_ChordalTwo_L2_0 ..).symm.trans HL2.out) (by intro h; cases h)
                      | succ g2 =>
                        replace HL2 := Lib.hid ((L3_ChordalTwo_L2_s ..).symm.trans HL2.out)
                        by_cases hc217 : x213 < x205
                        · replace HL2 := Lib.hid (ifT hc217 HL2.out)
                          have HK218 := Lib.hid hc217
                          obtain ⟨b219, hb, hm⟩ := obind HL2.out
                          replace HL2 := Lib.hid hm; have HB220 := Lib.hid hb; clear hm hb
                          cases x212
                          · replace HB220 := Lib.hid (ifF Bool.false_ne_true HB220.out)
                            obtain rfl := Option.some.inj HB220.out
                            go_wp2_with fail
                            try clear hc217
                            go_roundg g2
                            case measure => omega
                            case rel => exact ⟨false, (wrap64 (x213 + 1)), rfl, rfl, HW2, HL2⟩
                          · replace HB220 := Lib.hid (ifT rfl HB220.out)
                            obtain ⟨y223, hy221, hm⟩ := obind HB220.out
                            replace HB220 := Lib.hid hm; clear hm
                            have HC222 := R1_Beside_ok W216 cap1 (rdL HD.out HR1.out) hy221
                            clear hy221
                            replace HC222 := Lib.hid HC222
                            cases y223
                            · replace HB220 := Lib.hid (ifF Bool.false_ne_true HB220.out)
                              obtain rfl := Option.some.inj HB220.out
                              go_wp2_with fail
                              refine HC222.out.mono ?_; rintro e w' ⟨rfl, rfl⟩
                              go_wp2_with fail
                              try clear hc217
                              go_roundg g2
                              case measure => omega
                              case rel => exact ⟨false, (wrap64 (x213 + 1)), rfl, rfl, HW2, HL2⟩
                            · replace HB220 := Lib.hid (ifT rfl HB220.out)
                              obtain rfl := Option.some.inj HB220.out
                              go_wp2_with fail
                              refine HC222.out.mono ?_; rintro e w' ⟨rfl, rfl⟩
                              go_wp2_with fail
                              try clear hc217
                              go_roundg g2
                              case measure => omega
                              case rel => exact ⟨true, (wrap64 (x213 + 1)), rfl, rfl, HW2, HL2⟩
                        · replace HL2 := Lib.hid (ifF hc217 HL2.out)
                          have hc217d := decide_eq_false hc217
                          have HK218 := Lib.hid hc217
                          obtain rfl := Option.some.inj HL2.out
                          have hm := HL1.out; try dsimp only at hm
                          replace HL1 := Lib.hid hm; clear hm
                          go_wp2_with fail
                          try clear hc217 hc217d
                          go_roundg g1
                          case measure => omega
                          case rel => exact ⟨x212, (wrap64 (x205 + 1)), rfl, rfl, HW1, HL1⟩
                  · replace HL1 := Lib.hid (ifF hc209 HL1.out)
                    have hc209d := decide_eq_false hc209
                    have HK210 := Lib.hid hc209
                    obtain rfl := Option.some.inj HL1.out
                    have hm := HM.out; try dsimp only at hm
                    replace HM := Lib.hid hm; clear hm
                    go_wp2_with fail
                    try clear hc209 hc209d
                    obtain ⟨o224, ho, hm⟩ := obind HM.out
                    replace HM := Lib.hid hm; have HL3 := Lib.hid ho; clear hm ho
                    go_loopg [13] F (fun gg ux226 wr => ∃ (x225 : Int), ux226 = .int .i64 x225 ∧ Hid (Below W208.heap.size W208 wr) ∧ Hid (L3_ChordalTwo_L3 F (v1) (y7) gg x225 = some o224))
                    case atStart => exact ⟨0, rfl, (Lib.hid (Below.refl _ _)), HL3⟩
                    case round =>
                      obtain ⟨x225, rfl, HW3, HL3⟩ := hrel
                      rename World => W227
                      have hd := HW3.out
                      replace HOA := Lib.hid (HOA.out.below hd)
                      replace HD := Lib.hid (HD.out.trans (hd.mono HD.out.size))
                      clear hd
                      cases gk with
                      | zero => exact absurd ((L3_ChordalTwo_L3_0 ..).symm.trans HL3.out) (by intro h; cases h)
                      | succ g3 =>
                        replace HL3 := Lib.hid ((L3_ChordalTwo_L3_s ..).symm.trans HL3.out)
                        obtain ⟨A228, cap229, he, _⟩ := HP.open_I HOA.out (List.Mem.tail _ (List.Mem.head _))
                        subst he
                        by_cases hc230 : x225 < ((y7).length : Int)
                        · replace HL3 := Lib.hid (ifT hc230 HL3.out)
                          have HK231 := Lib.hid hc230
                          go_wp2_with fail
                          try clear hc230
                          obtain ⟨o232, ho, hm⟩ := obind HL3.out
                          replace HL3 := Lib.hid hm; have HL4 := Lib.hid ho; clear hm ho
                          go_loopg [14] F (fun gg ux234 wr => ∃ (x233 : Int), ux234 = .int .i64 x233 ∧ Hid (Below W227.heap.size W227 wr) ∧ Hid (L3_ChordalTwo_L4 F (v1) (y7) (x225) gg x233 = some o232))
                          case atStart => exact ⟨0, rfl, (Lib.hid (Below.refl _ _)), HL4⟩
                          case round =>
                            obtain ⟨x233, rfl, HW4, HL4⟩ := hrel
                            rename World => W235
                            have hd := HW4.out
                            replace HOA := Lib.hid (HOA.out.below hd)
                            replace HD := Lib.hid (HD.out.trans (hd.mono HD.out.size))
                            replace HW3 := Lib.hid (HW3.out.trans (hd.mono HW3.out.size))
                            clear hd
                            cases gk with
                            | zero => exact absurd ((L3_ChordalTwo_L4_0 ..).symm.trans HL4.out) (by intro h; cases h)
                            | succ g4 =>
                              replace HL4 := Lib.hid ((L3_ChordalTwo_L4_s ..).symm.trans HL4.out)
                              by_cases hc236 : x233 < x225
                              · replace HL4 := Lib.hid (ifT hc236 HL4.out)
                                have HK237 := Lib.hid hc236
                                try go_wp2_with fail
                                try clear hc236
                                obtain ⟨y238, hy239, hm⟩ := obind HL4.out
                                replace HL4 := Lib.hid hm; clear hm
                                obtain ⟨b240, o241, ea242, _, f243, f244, f245⟩ := ReadsI.ix (HP.rd_I HOA.out (List.Mem.tail _ (List.Mem.head _))) hy239
                                cases ea242
                                try simp only [Nat.zero_add, Nat.add_zero, Int.toNat_natCast, Int.toNat_zero, Int.toNat_one] at f245
                                try rw [← HP.len_I HOA.out (List.Mem.tail _ (List.Mem.head _))] at f244
                                have HY247 := Lib.hid hy239; clear hy239
                                obtain ⟨y248, hy249, hm⟩ := obind HL4.out
                                replace HL4 := Lib.hid hm; clear hm
                                obtain ⟨b250, o251, ea252, _, f253, f254, f255⟩ := ReadsI.ix (HP.rd_I HOA.out (List.Mem.tail _ (List.Mem.head _))) hy249
                                cases ea252
                                try simp only [Nat.zero_add, Nat.add_zero, Int.toNat_natCast, Int.toNat_zero, Int.toNat_one] at f255
                                try rw [← HP.len_I HOA.out (List.Mem.tail _ (List.Mem.head _))] at f254
                                have HY257 := Lib.hid hy249; clear hy249
                                obtain ⟨y260, hy258, hm⟩ := obind HL4.out
                                replace HL4 := Lib.hid hm; clear hm
                                have HC259 := Lib.hid (fun m => R1_Beside_ok (W235.drewN m) cap1 (ReadsL.drewN' (rdL HD.out HR1.out) m) hy258)
                                clear hy258
                                cases y260
                                · replace HL4 := Lib.hid (ifF Bool.false_ne_true HL4.out)
                                  go_quiet (first | (go_at_call 12; exact quiet_left (HC259.out _)))
                                  generalize hW : World.drewN W235 _ = W261
                                  have hd : Dr W235 W261 := ⟨_, hW.symm⟩
                                  clear hW
                                  try clear f243 f244 f245 f253 f254 f255
                                  replace HOA := Lib.hid (HOA.out.below (hd.below _))
                                  replace HD := Lib.hid (HD.out.trans ((hd.below _).mono HD.out.size))
                                  replace HW3 := Lib.hid (HW3.out.trans ((hd.below _).mono HW3.out.size))
                                  replace HW4 := Lib.hid (HW4.out.trans ((hd.below _).mono HW4.out.size))
                                  clear hd
                                  obtain rfl := Option.some.inj HL4.out
                                  have hm := HL3.out; try dsimp only at hm
                                  replace HL3 := Lib.hid hm; clear hm
                                  obtain rfl := Option.some.inj HL3.out
                                  have hm := HM.out; try dsimp only at hm
                                  replace HM := Lib.hid hm; clear hm
                                  obtain rfl := Option.some.inj HM.out
                                  go_wp2_with fail
                                  go_ret
                                  exact ⟨rfl, HD.out⟩
                                · replace HL4 := Lib.hid (ifT rfl HL4.out)
                                  go_quiet (first | (go_at_call 12; exact quiet_left (HC259.out _)))
                                  generalize hW : World.drewN W235 _ = W262
                                  have hd : Dr W235 W262 := ⟨_, hW.symm⟩
                                  clear hW
                                  try clear f243 f244 f245 f253 f254 f255
                                  replace HOA := Lib.hid (HOA.out.below (hd.below _))
                                  replace HD := Lib.hid (HD.out.trans ((hd.below _).mono HD.out.size))
                                  replace HW3 := Lib.hid (HW3.out.trans ((hd.below _).mono HW3.out.size))
                                  replace HW4 := Lib.hid (HW4.out.trans ((hd.below _).mono HW4.out.size))
                                  clear hd
                                  go_wp2_with fail
                                  go_roundg g4
                                  case measure => omega
                                  case rel => exact ⟨(wrap64 (x233 + 1)), rfl, HW4, HL4⟩
                              · replace HL4 := Lib.hid (ifF hc236 HL4.out)
                                have hc236d := decide_eq_false hc236
                                have HK237 := Lib.hid hc236
                                obtain rfl := Option.some.inj HL4.out
                                have hm := HL3.out; try dsimp only at hm
                                replace HL3 := Lib.hid hm; clear hm
                                go_wp2_with fail
                                try clear hc236 hc236d
                                go_roundg g3
                                case measure => omega
                                case rel => exact ⟨(wrap64 (x225 + 1)), rfl, HW3, HL3⟩
                        · replace HL3 := Lib.hid (ifF hc230 HL3.out)
                          have hc230d := decide_eq_false hc230
                          have HK231 := Lib.hid hc230
                          obtain rfl := Option.some.inj HL3.out
                          have hm := HM.out; try dsimp only at hm
                          replace HM := Lib.hid hm; clear hm
                          obtain ⟨b263, hb, hm⟩ := obind HM.out
                          replace HM := Lib.hid hm; have HB264 := Lib.hid hb; clear hm hb
                          cases x204
                          · replace HB264 := Lib.hid (ifF Bool.false_ne_true HB264.out)
                            obtain rfl := Option.some.inj HB264.out
                            obtain rfl := Option.some.inj HM.out
                            go_wp2_with fail
                            go_ret
                            exact ⟨(by first | rfl | (refine congrArg (fun b => Ending.returned (Value.bool b)) ?_; first | (exact decide_eq_true (by omega)) | (exact decide_eq_false (by omega)) | (have q := hc230; rw [bne_iff_ne] at q ⊢; omega) | (have q := hc230; rw [bne_eq_false_iff_eq] at q ⊢; omega) | (have q := hc230; rw [beq_iff_eq] at q ⊢; omega) | (have q := hc230; rw [beq_eq_false_iff_ne] at q ⊢; omega) | (have q := hc230d; rw [bne_iff_ne] at q ⊢; omega) | (have q := hc230d; rw [bne_eq_false_iff_eq] at q ⊢; omega) | (have q := hc230d; rw [beq_iff_eq] at q ⊢; omega) | (have q := hc230d; rw [beq_eq_false_iff_ne] at q ⊢; omega))), HD.out⟩
                          · replace HB264 := Lib.hid (ifT rfl HB264.out)
                            rcases Bool.eq_false_or_eq_true (((y7).length : Int) == v0) with hc265 | hc265
                            · replace HB264 := Lib.hid (ifT hc265 HB264.out)
                              have HK266 := Lib.hid hc265
                              obtain rfl := Option.some.inj HB264.out
                              obtain rfl := Option.some.inj HM.out
                              go_wp2_with fail
                              go_ret
                              exact ⟨(by first | rfl | (refine congrArg (fun b => Ending.returned (Value.bool b)) ?_; first | (exact decide_eq_true (by omega)) | (exact decide_eq_false (by omega)) | (have q := hc230d; rw [bne_iff_ne] at q ⊢; omega) | (have q := hc230d; rw [bne_eq_false_iff_eq] at q ⊢; omega) | (have q := hc230d; rw [beq_iff_eq] at q ⊢; omega) | (have q := hc230d; rw [beq_eq_false_iff_ne] at q ⊢; omega) | (have q := hc265; rw [bne_iff_ne] at q ⊢; omega) | (have q := hc265; rw [bne_eq_false_iff_eq] at q ⊢; omega) | (have q := hc265; rw [beq_iff_eq] at q ⊢; omega) | (have q := hc265; rw [beq_eq_false_iff_ne] at q ⊢; omega))), HD.out⟩
                            · replace HB264 := Lib.hid (ifF (bF hc265) HB264.out)
                              have HK266 := Lib.hid hc265
                              obtain rfl := Option.some.inj HB264.out
                              obtain rfl := Option.some.inj HM.out
                              go_wp2_with fail
                              go_ret
                              exact ⟨(by first | rfl | (refine congrArg (fun b => Ending.returned (Value.bool b)) ?_; first | (exact decide_eq_true (by omega)) | (exact decide_eq_false (by omega)) | (have q := hc230d; rw [bne_iff_ne] at q ⊢; omega) | (have q := hc230d; rw [bne_eq_false_iff_eq] at q ⊢; omega) | (have q := hc230d; rw [beq_iff_eq] at q ⊢; omega) | (have q := hc230d; rw [beq_eq_false_iff_ne] at q ⊢; omega) | (have q := hc265; rw [bne_iff_ne] at q ⊢; omega) | (have q := hc265; rw [bne_eq_false_iff_eq] at q ⊢; omega) | (have q := hc265; rw [beq_iff_eq] at q ⊢; omega) | (have q := hc265; rw [beq_eq_false_iff_ne] at q ⊢; omega))), HD.out⟩
          · replace HM := Lib.hid (ifT rfl HM.out)
            obtain ⟨b267, hb, hm⟩ := obind HM.out
            replace HM := Lib.hid hm; have HB268 := Lib.hid hb; clear hm hb
            replace HB268 := Lib.hid (ifF (by decide) HB268.out)
            obtain rfl := Option.some.inj HB268.out
            obtain rfl := Option.some.inj HM.out
            go_wp2_with fail
            go_ret
            exact ⟨rfl, HD.out⟩
      · rw [errV_pos _ hz185] at HC182; replace HC182 := Lib.hid HC182
        go_wp2_with fail
        refine HC182.out.mono ?_; rintro e W189 ⟨V190, rfl, ho, hd⟩
        replace HOA := Lib.hid (HOA.out.call hd HD.out.size ho); clear ho
        replace HD := Lib.hid (HD.out.trans (hd.mono HD.out.size))
        clear hd
        have HZ192 := Lib.hid hz185; clear hz185
        go_upto_region 6 with (fail)
        obtain ⟨b269, hb, hm⟩ := obind HM.out
        replace HM := Lib.hid hm; have HB270 := Lib.hid hb; clear hm hb
        go_cut [35] (fun uq wr => uq = .bool b269 ∧ Hid (Below W189.heap.size W189 wr))
        case first =>
          have HWC271 := Lib.hid (Below.refl W189.heap.size W189)
          replace HB270 := Lib.hid (ifT (bne_iff_ne.2 HZ16.out) HB270.out)
          cases Option.some.inj HB270.out
          try go_wp2_with fail
          go_meet
          case rel => exact ⟨rfl, HWC271⟩
        case rest =>
          obtain ⟨rfl, HWC271⟩ := hcut
          rename World => W272
          have hd := HWC271.out
          replace HOA := Lib.hid (HOA.out.below hd)
          replace HD := Lib.hid (HD.out.trans (hd.mono HD.out.size))
          clear hd
          cases b269
          · replace HM := Lib.hid (ifF Bool.false_ne_true HM.out)
            obtain ⟨y275, hy273, hm⟩ := obind HM.out
            replace HM := Lib.hid hm; clear hm
            have HC274 := R1_Lines_ok W272 cap1 (rdL HD.out HR1.out) hy273
            clear hy273
            replace HC274 := Lib.hid HC274
            go_wp2_with fail
            refine HC274.out.mono ?_; rintro e W276 ⟨rfl, hd⟩
            replace HOA := Lib.hid (HOA.out.below (hd.below _))
            replace HD := Lib.hid (HD.out.trans ((hd.below _).mono HD.out.size))
            clear hd
            rcases Bool.eq_false_or_eq_true (y275 != 0) with hc277 | hc277
            · replace HM := Lib.hid (ifT hc277 HM.out)
              have HK278 := Lib.hid hc277
              obtain rfl := Option.some.inj HM.out
              go_wp2_with fail
              go_ret
              exact ⟨(by first | rfl | (refine congrArg (fun b => Ending.returned (Value.bool b)) ?_; first | (exact decide_eq_true (by omega)) | (exact decide_eq_false (by omega)) | (have q := hc277; rw [bne_iff_ne] at q ⊢; omega) | (have q := hc277; rw [bne_eq_false_iff_eq] at q ⊢; omega) | (have q := hc277; rw [beq_iff_eq] at q ⊢; omega) | (have q := hc277; rw [beq_eq_false_iff_ne] at q ⊢; omega))), HD.out⟩
            · replace HM := Lib.hid (ifF (bF hc277) HM.out)
              have HK278 := Lib.hid hc277
              go_wp2_with fail
              try clear hc277
              obtain ⟨o279, ho, hm⟩ := obind HM.out
              replace HM := Lib.hid hm; have HL1 := Lib.hid ho; clear hm ho
              go_loopg [10, 11] F (fun gg ux282 ux283 wr => ∃ (x280 : Bool) (x281 : Int), ux282 = .bool x280 ∧ ux283 = .int .i64 x281 ∧ Hid (Below W276.heap.size W276 wr) ∧ Hid (L3_ChordalTwo_L1 F (v0) (v1) gg x280 x281 = some o279))
              case atStart => exact ⟨true, 0, rfl, rfl, (Lib.hid (Below.refl _ _)), HL1⟩
              case round =>
                obtain ⟨x280, x281, rfl, rfl, HW1, HL1⟩ := hrel
                rename World => W284
                have hd := HW1.out
                replace HOA := Lib.hid (HOA.out.below hd)
                replace HD := Lib.hid (HD.out.trans (hd.mono HD.out.size))
                clear hd
                cases gk with
                | zero => exact absurd ((L3_ChordalTwo_L1_0 ..).symm.trans HL1.out) (by intro h; cases h)
                | succ g1 =>
                  replace HL1 := Lib.hid ((L3_ChordalTwo_L1_s ..).symm.trans HL1.out)
                  by_cases hc285 : x281 < v0
                  · replace HL1 := Lib.hid (ifT hc285 HL1.out)
                    have HK286 := Lib.hid hc285
                    go_wp2_with fail
                    try clear hc285
                    obtain ⟨o287, ho, hm⟩ := obind HL1.out
                    replace HL1 := Lib.hid hm; have HL2 := Lib.hid ho; clear hm ho
                    go_loopg [10, 12] F (fun gg ux290 ux291 wr => ∃ (x288 : Bool) (x289 : Int), ux290 = .bool x288 ∧ ux291 = .int .i64 x289 ∧ Hid (Below W284.heap.size W284 wr) ∧ Hid (L3_ChordalTwo_L2 F (v1) (x281) gg x288 x289 = some o287))
                    case atStart => exact ⟨x280, 0, rfl, rfl, (Lib.hid (Below.refl _ _)), HL2⟩
                    case round =>
                      obtain ⟨x288, x289, rfl, rfl, HW2, HL2⟩ := hrel
                      rename World => W292
                      have hd := HW2.out
                      replace HOA := Lib.hid (HOA.out.below hd)
                      replace HD := Lib.hid (HD.out.trans (hd.mono HD.out.size))
                      replace HW1 := Lib.hid (HW1.out.trans (hd.mono HW1.out.size))
                      clear hd
                      cases gk with
                      | zero => exact absurd ((L3_ChordalTwo_L2_0 ..).symm.trans HL2.out) (by intro h; cases h)
                      | succ g2 =>
                        replace HL2 := Lib.hid ((L3_ChordalTwo_L2_s ..).symm.trans HL2.out)
                        by_cases hc293 : x289 < x281
                        · replace HL2 := Lib.hid (ifT hc293 HL2.out)
                          have HK294 := Lib.hid hc293
                          obtain ⟨b295, hb, hm⟩ := obind HL2.out
                          replace HL2 := Lib.hid hm; have HB296 := Lib.hid hb; clear hm hb
                          cases x288
                          · replace HB296 := Lib.hid (ifF Bool.false_ne_true HB296.out)
                            obtain rfl := Option.some.inj HB296.out
                            go_wp2_with fail
                            try clear hc293
                            go_roundg g2
                            case measure => omega
                            case rel => exact ⟨false, (wrap64 (x289 + 1)), rfl, rfl, HW2, HL2⟩
                          · replace HB296 := Lib.hid (ifT rfl HB296.out)
                            obtain ⟨y299, hy297, hm⟩ := obind HB296.out
                            replace HB296 := Lib.hid hm; clear hm
                            have HC298 := R1_Beside_ok W292 cap1 (rdL HD.out HR1.out) hy297
                            clear hy297
                            replace HC298 := Lib.hid HC298
                            cases y299
                            · replace HB296 := Lib.hid (ifF Bool.false_ne_true HB296.out)
                              obtain rfl := Option.some.inj HB296.out
                              go_wp2_with fail
                              refine HC298.out.mono ?_; rintro e w' ⟨rfl, rfl⟩
                              go_wp2_with fail
                              try clear hc293
                              go_roundg g2
                              case measure => omega
                              case rel => exact ⟨false, (wrap64 (x289 + 1)), rfl, rfl, HW2, HL2⟩
                            · replace HB296 := Lib.hid (ifT rfl HB296.out)
                              obtain rfl := Option.some.inj HB296.out
                              go_wp2_with fail
                              refine HC298.out.mono ?_; rintro e w' ⟨rfl, rfl⟩
                              go_wp2_with fail
                              try clear hc293
                              go_roundg g2
                              case measure => omega
                              case rel => exact ⟨true, (wrap64 (x289 + 1)), rfl, rfl, HW2, HL2⟩
                        · replace HL2 := Lib.hid (ifF hc293 HL2.out)
                          have hc293d := decide_eq_false hc293
                          have HK294 := Lib.hid hc293
                          obtain rfl := Option.some.inj HL2.out
                          have hm := HL1.out; try dsimp only at hm
                          replace HL1 := Lib.hid hm; clear hm
                          go_wp2_with fail
                          try clear hc293 hc293d
                          go_roundg g1
                          case measure => omega
                          case rel => exact ⟨x288, (wrap64 (x281 + 1)), rfl, rfl, HW1, HL1⟩
                  · replace HL1 := Lib.hid (ifF hc285 HL1.out)
                    have hc285d := decide_eq_false hc285
                    have HK286 := Lib.hid hc285
                    obtain rfl := Option.some.inj HL1.out
                    have hm := HM.out; try dsimp only at hm
                    replace HM := Lib.hid hm; clear hm
                    go_wp2_with fail
                    try clear hc285 hc285d
                    obtain ⟨o300, ho, hm⟩ := obind HM.out
                    replace HM := Lib.hid hm; have HL3 := Lib.hid ho; clear hm ho
                    go_loopg [13] F (fun gg ux302 wr => ∃ (x301 : Int), ux302 = .int .i64 x301 ∧ Hid (Below W284.heap.size W284 wr) ∧ Hid (L3_ChordalTwo_L3 F (v1) (y7) gg x301 = some o300))
                    case atStart => exact ⟨0, rfl, (Lib.hid (Below.refl _ _)), HL3⟩
                    case round =>
                      obtain ⟨x301, rfl, HW3, HL3⟩ := hrel
                      rename World => W303
                      have hd := HW3.out
                      replace HOA := Lib.hid (HOA.out.below hd)
                      replace HD := Lib.hid (HD.out.trans (hd.mono HD.out.size))
                      clear hd
                      cases gk with
                      | zero => exact absurd ((L3_ChordalTwo_L3_0 ..).symm.trans HL3.out) (by intro h; cases h)
                      | succ g3 =>
                        replace HL3 := Lib.hid ((L3_ChordalTwo_L3_s ..).symm.trans HL3.out)
                        obtain ⟨A304, cap305, he, _⟩ := HP.open_I HOA.out (List.Mem.tail _ (List.Mem.head _))
                        subst he
                        by_cases hc306 : x301 < ((y7).length : Int)
                        · replace HL3 := Lib.hid (ifT hc306 HL3.out)
                          have HK307 := Lib.hid hc306
                          go_wp2_with fail
                          try clear hc306
                          obtain ⟨o308, ho, hm⟩ := obind HL3.out
                          replace HL3 := Lib.hid hm; have HL4 := Lib.hid ho; clear hm ho
                          go_loopg [14] F (fun gg ux310 wr => ∃ (x309 : Int), ux310 = .int .i64 x309 ∧ Hid (Below W303.heap.size W303 wr) ∧ Hid (L3_ChordalTwo_L4 F (v1) (y7) (x301) gg x309 = some o308))
                          case atStart => exact ⟨0, rfl, (Lib.hid (Below.refl _ _)), HL4⟩
                          case round =>
                            obtain ⟨x309, rfl, HW4, HL4⟩ := hrel
                            rename World => W311
                            have hd := HW4.out
                            replace HOA := Lib.hid (HOA.out.below hd)
                            replace HD := Lib.hid (HD.out.trans (hd.mono HD.out.size))
                            replace HW3 := Lib.hid (HW3.out.trans (hd.mono HW3.out.size))
                            clear hd
                            cases gk with
                            | zero => exact absurd ((L3_ChordalTwo_L4_0 ..).symm.trans HL4.out) (by intro h; cases h)
                            | succ g4 =>
                              replace HL4 := Lib.hid ((L3_ChordalTwo_L4_s ..).symm.trans HL4.out)
                              by_cases hc312 : x309 < x301
                              · replace HL4 := Lib.hid (ifT hc312 HL4.out)
                                have HK313 := Lib.hid hc312
                                try go_wp2_with fail
                                try clear hc312
                                obtain ⟨y314, hy315, hm⟩ := obind HL4.out
                                replace HL4 := Lib.hid hm; clear hm
                                obtain ⟨b316, o317, ea318, _, f319, f320, f321⟩ := ReadsI.ix (HP.rd_I HOA.out (List.Mem.tail _ (List.Mem.head _))) hy315
                                cases ea318
                                try simp only [Nat.zero_add, Nat.add_zero, Int.toNat_natCast, Int.toNat_zero, Int.toNat_one] at f321
                                try rw [← HP.len_I HOA.out (List.Mem.tail _ (List.Mem.head _))] at f320
                                have HY323 := Lib.hid hy315; clear hy315
                                obtain ⟨y324, hy325, hm⟩ := obind HL4.out
                                replace HL4 := Lib.hid hm; clear hm
                                obtain ⟨b326, o327, ea328, _, f329, f330, f331⟩ := ReadsI.ix (HP.rd_I HOA.out (List.Mem.tail _ (List.Mem.head _))) hy325
                                cases ea328
                                try simp only [Nat.zero_add, Nat.add_zero, Int.toNat_natCast, Int.toNat_zero, Int.toNat_one] at f331
                                try rw [← HP.len_I HOA.out (List.Mem.tail _ (List.Mem.head _))] at f330
                                have HY333 := Lib.hid hy325; clear hy325
                                obtain ⟨y336, hy334, hm⟩ := obind HL4.out
                                replace HL4 := Lib.hid hm; clear hm
                                have HC335 := Lib.hid (fun m => R1_Beside_ok (W311.drewN m) cap1 (ReadsL.drewN' (rdL HD.out HR1.out) m) hy334)
                                clear hy334
                                cases y336
                                · replace HL4 := Lib.hid (ifF Bool.false_ne_true HL4.out)
                                  go_quiet (first | (go_at_call 12; exact quiet_left (HC335.out _)))
                                  generalize hW : World.drewN W311 _ = W337
                                  have hd : Dr W311 W337 := ⟨_, hW.symm⟩
                                  clear hW
                                  try clear f319 f320 f321 f329 f330 f331
                                  replace HOA := Lib.hid (HOA.out.below (hd.below _))
                                  replace HD := Lib.hid (HD.out.trans ((hd.below _).mono HD.out.size))
                                  replace HW3 := Lib.hid (HW3.out.trans ((hd.below _).mono HW3.out.size))
                                  replace HW4 := Lib.hid (HW4.out.trans ((hd.below _).mono HW4.out.size))
                                  clear hd
                                  obtain rfl := Option.some.inj HL4.out
                                  have hm := HL3.out; try dsimp only at hm
                                  replace HL3 := Lib.hid hm; clear hm
                                  obtain rfl := Option.some.inj HL3.out
                                  have hm := HM.out; try dsimp only at hm
                                  replace HM := Lib.hid hm; clear hm
                                  obtain rfl := Option.some.inj HM.out
                                  go_wp2_with fail
                                  go_ret
                                  exact ⟨rfl, HD.out⟩
                                · replace HL4 := Lib.hid (ifT rfl HL4.out)
                                  go_quiet (first | (go_at_call 12; exact quiet_left (HC335.out _)))
                                  generalize hW : World.drewN W311 _ = W338
                                  have hd : Dr W311 W338 := ⟨_, hW.symm⟩
                                  clear hW
                                  try clear f319 f320 f321 f329 f330 f331
                                  replace HOA := Lib.hid (HOA.out.below (hd.below _))
                                  replace HD := Lib.hid (HD.out.trans ((hd.below _).mono HD.out.size))
                                  replace HW3 := Lib.hid (HW3.out.trans ((hd.below _).mono HW3.out.size))
                                  replace HW4 := Lib.hid (HW4.out.trans ((hd.below _).mono HW4.out.size))
                                  clear hd
                                  go_wp2_with fail
                                  go_roundg g4
                                  case measure => omega
                                  case rel => exact ⟨(wrap64 (x309 + 1)), rfl, HW4, HL4⟩
                              · replace HL4 := Lib.hid (ifF hc312 HL4.out)
                                have hc312d := decide_eq_false hc312
                                have HK313 := Lib.hid hc312
                                obtain rfl := Option.some.inj HL4.out
                                have hm := HL3.out; try dsimp only at hm
                                replace HL3 := Lib.hid hm; clear hm
                                go_wp2_with fail
                                try clear hc312 hc312d
                                go_roundg g3
                                case measure => omega
                                case rel => exact ⟨(wrap64 (x301 + 1)), rfl, HW3, HL3⟩
                        · replace HL3 := Lib.hid (ifF hc306 HL3.out)
                          have hc306d := decide_eq_false hc306
                          have HK307 := Lib.hid hc306
                          obtain rfl := Option.some.inj HL3.out
                          have hm := HM.out; try dsimp only at hm
                          replace HM := Lib.hid hm; clear hm
                          obtain ⟨b339, hb, hm⟩ := obind HM.out
                          replace HM := Lib.hid hm; have HB340 := Lib.hid hb; clear hm hb
                          cases x280
                          · replace HB340 := Lib.hid (ifF Bool.false_ne_true HB340.out)
                            obtain rfl := Option.some.inj HB340.out
                            obtain rfl := Option.some.inj HM.out
                            go_wp2_with fail
                            go_ret
                            exact ⟨(by first | rfl | (refine congrArg (fun b => Ending.returned (Value.bool b)) ?_; first | (exact decide_eq_true (by omega)) | (exact decide_eq_false (by omega)) | (have q := hc306; rw [bne_iff_ne] at q ⊢; omega) | (have q := hc306; rw [bne_eq_false_iff_eq] at q ⊢; omega) | (have q := hc306; rw [beq_iff_eq] at q ⊢; omega) | (have q := hc306; rw [beq_eq_false_iff_ne] at q ⊢; omega) | (have q := hc306d; rw [bne_iff_ne] at q ⊢; omega) | (have q := hc306d; rw [bne_eq_false_iff_eq] at q ⊢; omega) | (have q := hc306d; rw [beq_iff_eq] at q ⊢; omega) | (have q := hc306d; rw [beq_eq_false_iff_ne] at q ⊢; omega))), HD.out⟩
                          · replace HB340 := Lib.hid (ifT rfl HB340.out)
                            rcases Bool.eq_false_or_eq_true (((y7).length : Int) == v0) with hc341 | hc341
                            · replace HB340 := Lib.hid (ifT hc341 HB340.out)
                              have HK342 := Lib.hid hc341
                              obtain rfl := Option.some.inj HB340.out
                              obtain rfl := Option.some.inj HM.out
                              go_wp2_with fail
                              go_ret
                              exact ⟨(by first | rfl | (refine congrArg (fun b => Ending.returned (Value.bool b)) ?_; first | (exact decide_eq_true (by omega)) | (exact decide_eq_false (by omega)) | (have q := hc306d; rw [bne_iff_ne] at q ⊢; omega) | (have q := hc306d; rw [bne_eq_false_iff_eq] at q ⊢; omega) | (have q := hc306d; rw [beq_iff_eq] at q ⊢; omega) | (have q := hc306d; rw [beq_eq_false_iff_ne] at q ⊢; omega) | (have q := hc341; rw [bne_iff_ne] at q ⊢; omega) | (have q := hc341; rw [bne_eq_false_iff_eq] at q ⊢; omega) | (have q := hc341; rw [beq_iff_eq] at q ⊢; omega) | (have q := hc341; rw [beq_eq_false_iff_ne] at q ⊢; omega))), HD.out⟩
                            · replace HB340 := Lib.hid (ifF (bF hc341) HB340.out)
                              have HK342 := Lib.hid hc341
                              obtain rfl := Option.some.inj HB340.out
                              obtain rfl := Option.some.inj HM.out
                              go_wp2_with fail
                              go_ret
                              exact ⟨(by first | rfl | (refine congrArg (fun b => Ending.returned (Value.bool b)) ?_; first | (exact decide_eq_true (by omega)) | (exact decide_eq_false (by omega)) | (have q := hc306d; rw [bne_iff_ne] at q ⊢; omega) | (have q := hc306d; rw [bne_eq_false_iff_eq] at q ⊢; omega) | (have q := hc306d; rw [beq_iff_eq] at q ⊢; omega) | (have q := hc306d; rw [beq_eq_false_iff_ne] at q ⊢; omega) | (have q := hc341; rw [bne_iff_ne] at q ⊢; omega) | (have q := hc341; rw [bne_eq_false_iff_eq] at q ⊢; omega) | (have q := hc341; rw [beq_iff_eq] at q ⊢; omega) | (have q := hc341; rw [beq_eq_false_iff_ne] at q ⊢; omega))), HD.out⟩
          · replace HM := Lib.hid (ifT rfl HM.out)
            obtain ⟨b343, hb, hm⟩ := obind HM.out
            replace HM := Lib.hid hm; have HB344 := Lib.hid hb; clear hm hb
            replace HB344 := Lib.hid (ifT (bne_iff_ne.2 HZ192.out) HB344.out)
            obtain rfl := Option.some.inj HB344.out
            obtain rfl := Option.some.inj HM.out
            go_wp2_with fail
            go_ret
            exact ⟨rfl, HD.out⟩
end Go.Proofs.YtcbalejnkhnppaaDoor
