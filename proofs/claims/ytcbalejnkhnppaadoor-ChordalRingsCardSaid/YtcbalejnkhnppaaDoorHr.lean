import Derived.Test.YtcbalejnkhnppaaDoorHf
import Derived.Test.YtcbalejnkhnppaaDoorHa
import Derived.Test.YtcbalejnkhnppaaDoorGR
import Derived.Test.YtcbalejnkhnppaaDoorGF
import Derived.Test.YtcbalejnkhnppaaDoorSlc
import Derived.Test.YtcbalejnkhnppaaDoorCh
import Derived.Test.YtcbalejnkhnppaaDoorCh2
import Derived.Test.YtcbalejnkhnppaaDoorAst
import Derived.Test.YtcbalejnkhnppaaDoorBox
import Derived.Test.YtcbalejnkhnppaaDoorErr
set_option linter.all false
set_option maxRecDepth 100000
namespace Go.Proofs.YtcbalejnkhnppaaDoor
open Go.RowKit
attribute [local go_sem] Oper.semAt_some
def L3_ChordalRings_L3 (F : Nat) (v1 : List (Int × Int)) (v8 : List Int) (v11 : Int) : Nat → (List (Int × Int)) → (Int) → (Int) → Option (List (Int × Int) × Int × Int)
  | 0, _, _, _ => none
  | g+1, v10, v12, v13 => if v13 < ((v8).length : Int) then ((ix v8 v11).bind fun y7 => (ix v8 v13).bind fun y8 => (R1_Beside F (v1) (y7) (y8)).bind fun y9 => if y9 = true then (ix v8 v11).bind fun y11 => (ix v8 v13).bind fun y12 => (app v10 (y11, y12)).bind fun y10 => L3_ChordalRings_L3 F v1 v8 v11 g (y10) ((wrap64 (v12 + 1))) ((wrap64 (v13 + 1))) else L3_ChordalRings_L3 F v1 v8 v11 g (v10) (v12) ((wrap64 (v13 + 1)))) else some (v10, v12, v13)
theorem L3_ChordalRings_L3_0 (F : Nat) (v1 : List (Int × Int)) (v8 : List Int) (v11 : Int) (v10 : List (Int × Int)) (v12 : Int) (v13 : Int) : L3_ChordalRings_L3 F v1 v8 v11 0 v10 v12 v13 = none := by rw [L3_ChordalRings_L3]
theorem L3_ChordalRings_L3_s (F g : Nat) (v1 : List (Int × Int)) (v8 : List Int) (v11 : Int) (v10 : List (Int × Int)) (v12 : Int) (v13 : Int) : L3_ChordalRings_L3 F v1 v8 v11 (g+1) v10 v12 v13 = (if v13 < ((v8).length : Int) then ((ix v8 v11).bind fun y7 => (ix v8 v13).bind fun y8 => (R1_Beside F (v1) (y7) (y8)).bind fun y9 => if y9 = true then (ix v8 v11).bind fun y11 => (ix v8 v13).bind fun y12 => (app v10 (y11, y12)).bind fun y10 => L3_ChordalRings_L3 F v1 v8 v11 g (y10) ((wrap64 (v12 + 1))) ((wrap64 (v13 + 1))) else L3_ChordalRings_L3 F v1 v8 v11 g (v10) (v12) ((wrap64 (v13 + 1)))) else some (v10, v12, v13)) := by rw [L3_ChordalRings_L3]
def L3_ChordalRings_L2 (F : Nat) (v1 : List (Int × Int)) (v8 : List Int) : Nat → (Bool) → (List (Int × Int)) → (Int) → Option (Bool × List (Int × Int) × Int)
  | 0, _, _, _ => none
  | g+1, v9, v10, v11 => if v11 < ((v8).length : Int) then (L3_ChordalRings_L3 F (v1) (v8) (v11) F (v10) (0) (0)).bind fun o13 => (if v9 = true then if (o13.2.1 == 2) = true then some true else some false else some false).bind fun b14 => L3_ChordalRings_L2 F v1 v8 g (b14) (o13.1) ((wrap64 (v11 + 1))) else some (v9, v10, v11)
theorem L3_ChordalRings_L2_0 (F : Nat) (v1 : List (Int × Int)) (v8 : List Int) (v9 : Bool) (v10 : List (Int × Int)) (v11 : Int) : L3_ChordalRings_L2 F v1 v8 0 v9 v10 v11 = none := by rw [L3_ChordalRings_L2]
theorem L3_ChordalRings_L2_s (F g : Nat) (v1 : List (Int × Int)) (v8 : List Int) (v9 : Bool) (v10 : List (Int × Int)) (v11 : Int) : L3_ChordalRings_L2 F v1 v8 (g+1) v9 v10 v11 = (if v11 < ((v8).length : Int) then (L3_ChordalRings_L3 F (v1) (v8) (v11) F (v10) (0) (0)).bind fun o13 => (if v9 = true then if (o13.2.1 == 2) = true then some true else some false else some false).bind fun b14 => L3_ChordalRings_L2 F v1 v8 g (b14) (o13.1) ((wrap64 (v11 + 1))) else some (v9, v10, v11)) := by rw [L3_ChordalRings_L2]
def L3_ChordalRings_L4 (F : Nat) (v8 : List Int) (v14 : List (List Int)) : Nat → (Bool) → (Int) → Option (Bool × Int)
  | 0, _, _ => none
  | g+1, v15, v16 => if v16 < ((v8).length : Int) then (if v15 = true then (ix v8 0).bind fun y18 => (ix v14 y18).bind fun y19 => (ix v8 v16).bind fun y20 => (ix y19 y20).bind fun y21 => if 0 ≤ y21 then some true else some false else some false).bind fun b17 => L3_ChordalRings_L4 F v8 v14 g (b17) ((wrap64 (v16 + 1))) else some (v15, v16)
theorem L3_ChordalRings_L4_0 (F : Nat) (v8 : List Int) (v14 : List (List Int)) (v15 : Bool) (v16 : Int) : L3_ChordalRings_L4 F v8 v14 0 v15 v16 = none := by rw [L3_ChordalRings_L4]
theorem L3_ChordalRings_L4_s (F g : Nat) (v8 : List Int) (v14 : List (List Int)) (v15 : Bool) (v16 : Int) : L3_ChordalRings_L4 F v8 v14 (g+1) v15 v16 = (if v16 < ((v8).length : Int) then (if v15 = true then (ix v8 0).bind fun y18 => (ix v14 y18).bind fun y19 => (ix v8 v16).bind fun y20 => (ix y19 y20).bind fun y21 => if 0 ≤ y21 then some true else some false else some false).bind fun b17 => L3_ChordalRings_L4 F v8 v14 g (b17) ((wrap64 (v16 + 1))) else some (v15, v16)) := by rw [L3_ChordalRings_L4]
def L3_ChordalRings_L1 (F : Nat) (v0 : Int) (v1 : List (Int × Int)) : Nat → (Bool) → (Int) → Option (Bool × Int)
  | 0, _, _ => none
  | g+1, v6, v7 => (R3_Power F (v0)).bind fun y5 => if v7 < y5 then (R3_Members F (v7)).bind fun y6 => (if ((y6).length : Int) < 4 then L3_ChordalRings_L1 F v0 v1 g (v6) ((wrap64 (v7 + 1))) else (L3_ChordalRings_L2 F (v1) (y6) F (true) ([]) (0)).bind fun o15 => (if o15.1 = true then (R1_Far F (v0) (o15.2.1) (true) ((-1))).bind fun y16 => (L3_ChordalRings_L4 F (y6) (y16) F (true) (0)).bind fun o22 => (if v6 = true then some true else if o22.1 = true then some true else some false).bind fun b23 => L3_ChordalRings_L1 F v0 v1 g (b23) ((wrap64 (v7 + 1))) else L3_ChordalRings_L1 F v0 v1 g (v6) ((wrap64 (v7 + 1))))) else some (v6, v7)
theorem L3_ChordalRings_L1_0 (F : Nat) (v0 : Int) (v1 : List (Int × Int)) (v6 : Bool) (v7 : Int) : L3_ChordalRings_L1 F v0 v1 0 v6 v7 = none := by rw [L3_ChordalRings_L1]
theorem L3_ChordalRings_L1_s (F g : Nat) (v0 : Int) (v1 : List (Int × Int)) (v6 : Bool) (v7 : Int) : L3_ChordalRings_L1 F v0 v1 (g+1) v6 v7 = ((R3_Power F (v0)).bind fun y5 => if v7 < y5 then (R3_Members F (v7)).bind fun y6 => (if ((y6).length : Int) < 4 then L3_ChordalRings_L1 F v0 v1 g (v6) ((wrap64 (v7 + 1))) else (L3_ChordalRings_L2 F (v1) (y6) F (true) ([]) (0)).bind fun o15 => (if o15.1 = true then (R1_Far F (v0) (o15.2.1) (true) ((-1))).bind fun y16 => (L3_ChordalRings_L4 F (y6) (y16) F (true) (0)).bind fun o22 => (if v6 = true then some true else if o22.1 = true then some true else some false).bind fun b23 => L3_ChordalRings_L1 F v0 v1 g (b23) ((wrap64 (v7 + 1))) else L3_ChordalRings_L1 F v0 v1 g (v6) ((wrap64 (v7 + 1))))) else some (v6, v7)) := by rw [L3_ChordalRings_L1]
def L3_ChordalRings (F : Nat) (v0 : Int) (v1 : List (Int × Int)) : Option (Bool) := (L3_chordalFact F ).bind fun y1 => (if y1 = true then (chordal_Peel F (v0) (v1)).bind fun y2 => ((R1_Lines F (v0) (v1)).bind fun y3 => if (y3 != 0) = true then (if (y2.2 != 0) = true then some true else some false).bind fun b4 => some (b4) else (L3_ChordalRings_L1 F (v0) (v1) F (false) (0)).bind fun o24 => ((if (y2.2 != 0) = true then some true else some false).bind fun b26 => if (o24.1 == b26) = true then if (y2.2 == 0) = true then some true else (mErr (y2.2) (5)).bind fun y27 => if y27 = true then some true else some false else some false).bind fun b25 => some (b25)) else some (false))
set_option maxRecDepth 100000 in
set_option maxHeartbeats 4000000 in
theorem L3_ChordalRings_ok {F : Nat} {v0 : Int} {v1 : List (Int × Int)} {A1 : Option Addr} {r : Bool} (w : World) (htc : TyCell w) (cap1 : Nat) (hr1 : ReadsL w w.heap.size A1 v1) (h : L3_ChordalRings F v0 v1 = some r) :
    Calls Tryd.prog 3 #[.int .i64 v0, .slice A1 v1.length cap1] w fun e w' => e = .returned (.bool r) ∧ Below w.heap.size w w' := by
  have HTC := Lib.hid htc; clear htc
  have HR1 := Lib.hid hr1; clear hr1
  have HD := Lib.hid (Below.refl w.heap.size w)
  have HOA := Lib.hid (HP.nil (W := w) (B := w.heap.size))
  unfold L3_ChordalRings at h
  have HM := Lib.hid h; clear h
  go_enter Tryd.func3, Tryd.ntmps3
  obtain ⟨y3, hy1, hm⟩ := obind HM.out
  replace HM := Lib.hid hm; clear hm
  have HC2 := L3_chordalFact_ok w (HTC.out.go HD.out)  hy1
  clear hy1
  replace HC2 := Lib.hid HC2
  go_wp2_with fail
  refine HC2.out.mono ?_; rintro e W4 ⟨rfl, hd⟩
  replace HOA := Lib.hid (HOA.out.below hd)
  replace HD := Lib.hid (HD.out.trans (hd.mono HD.out.size))
  clear hd
  cases y3
  · replace HM := Lib.hid (ifF Bool.false_ne_true HM.out)
    obtain rfl := Option.some.inj HM.out
    go_wp2_with fail
    go_ret
    exact ⟨rfl, HD.out⟩
  · replace HM := Lib.hid (ifT rfl HM.out)
    obtain ⟨⟨y7, y8⟩, hy5, hm⟩ := obind HM.out
    dsimp only at hm
    replace HM := Lib.hid hm; clear hm
    have HC6 := chordal_Peel_ok W4 cap1 (rdL HD.out HR1.out) hy5
    clear hy5
    by_cases hz9 : y8 = 0
    · subst hz9
      rw [errV_zero] at HC6; replace HC6 := Lib.hid HC6
      go_wp2_with fail
      refine HC6.out.mono ?_; rintro e W10 ⟨V11, rfl, ho, hd⟩
      replace HOA := Lib.hid (HOA.out.call hd HD.out.size ho); clear ho
      replace HD := Lib.hid (HD.out.trans (hd.mono HD.out.size))
      clear hd
      obtain ⟨y19, hy17, hm⟩ := obind HM.out
      replace HM := Lib.hid hm; clear hm
      have HC18 := R1_Lines_ok W10 cap1 (rdL HD.out HR1.out) hy17
      clear hy17
      replace HC18 := Lib.hid HC18
      go_wp2_with fail
      refine HC18.out.mono ?_; rintro e W20 ⟨rfl, hd⟩
      replace HOA := Lib.hid (HOA.out.below (hd.below _))
      replace HD := Lib.hid (HD.out.trans ((hd.below _).mono HD.out.size))
      clear hd
      rcases Bool.eq_false_or_eq_true (y19 != 0) with hc21 | hc21
      · replace HM := Lib.hid (ifT hc21 HM.out)
        have HK22 := Lib.hid hc21
        obtain ⟨b23, hb, hm⟩ := obind HM.out
        replace HM := Lib.hid hm; have HB24 := Lib.hid hb; clear hm hb
        replace HB24 := Lib.hid (ifF (by decide) HB24.out)
        obtain rfl := Option.some.inj HB24.out
        obtain rfl := Option.some.inj HM.out
        go_wp2_with fail
        go_ret
        exact ⟨(by first | rfl | (refine congrArg (fun b => Ending.returned (Value.bool b)) ?_; first | (exact decide_eq_true (by omega)) | (exact decide_eq_false (by omega)) | (have q := hc21; rw [bne_iff_ne] at q ⊢; omega) | (have q := hc21; rw [bne_eq_false_iff_eq] at q ⊢; omega) | (have q := hc21; rw [beq_iff_eq] at q ⊢; omega) | (have q := hc21; rw [beq_eq_false_iff_ne] at q ⊢; omega))), HD.out⟩
      · replace HM := Lib.hid (ifF (bF hc21) HM.out)
        have HK22 := Lib.hid hc21
        go_wp2_with fail
        try clear hc21
        obtain ⟨o25, ho, hm⟩ := obind HM.out
        replace HM := Lib.hid hm; have HL1 := Lib.hid ho; clear hm ho
        go_loopg [8, 9] F (fun gg ux28 ux29 wr => ∃ (x26 : Bool) (x27 : Int), ux28 = .bool x26 ∧ ux29 = .int .i64 x27 ∧ Hid (Below w.heap.size w wr) ∧ Hid (HP wr w.heap.size [.fl (owI V11 (y7))]) ∧ Hid (L3_ChordalRings_L1 F (v0) (v1) gg x26 x27 = some o25))
        case atStart => exact ⟨false, 0, rfl, rfl, HD, HOA, HL1⟩
        case round =>
          obtain ⟨x26, x27, rfl, rfl, HD, HOA, HL1⟩ := hrel
          rename World => W30
          cases gk with
          | zero => exact absurd ((L3_ChordalRings_L1_0 ..).symm.trans HL1.out) (by intro h; cases h)
          | succ g1 =>
            replace HL1 := Lib.hid ((L3_ChordalRings_L1_s ..).symm.trans HL1.out)
            obtain ⟨y33, hy31, hm⟩ := obind HL1.out
            replace HL1 := Lib.hid hm; clear hm
            have HC32 := R3_Power_ok W30  hy31
            clear hy31
            replace HC32 := Lib.hid HC32
            by_cases hc34 : x27 < y33
            · replace HL1 := Lib.hid (ifT hc34 HL1.out)
              have HK35 := Lib.hid hc34
              obtain ⟨y38, hy36, hm⟩ := obind HL1.out
              replace HL1 := Lib.hid hm; clear hm
              have HC37 := R3_Members_ok W30  hy36
              clear hy36
              replace HC37 := Lib.hid HC37
              go_wp2_with fail
              refine HC32.out.mono ?_; rintro e w' ⟨rfl, rfl⟩
              go_wp2_with fail
              refine HC37.out.mono ?_; rintro e W39 ⟨V40, rfl, ho, hd⟩
              try clear hc34
              replace HOA := Lib.hid (HOA.out.call hd HD.out.size ho); clear ho
              replace HD := Lib.hid (HD.out.trans (hd.mono HD.out.size))
              clear hd
              obtain ⟨A42, cap43, he, _⟩ := HP.open_I HOA.out (List.Mem.head _)
              subst he
              by_cases hc44 : ((y38).length : Int) < 4
              · replace HL1 := Lib.hid (ifT hc44 HL1.out)
                have HK45 := Lib.hid hc44
                have hc44n := hc44; try norm_cast at hc44n
                go_wp2_with fail
                try clear hc44 hc44n
                replace HOA := Lib.hid (HOA.out.sub (.cons _ (.cons₂ _ .slnil)))
                go_roundg g1
                case measure => omega
                case rel => exact ⟨x26, (wrap64 (x27 + 1)), rfl, rfl, HD, HOA, HL1⟩
              · replace HL1 := Lib.hid (ifF hc44 HL1.out)
                have hc44d := decide_eq_false hc44
                have HK45 := Lib.hid hc44
                have hc44n := hc44; try norm_cast at hc44n
                replace HOA := Lib.hid (show HP _ _ (.fl (owL (.slice none 0 0) ([])) :: _) from HOA.out.pushNil _ _)
                go_wp2_with fail
                try clear hc44 hc44n hc44d
                obtain ⟨o47, ho, hm⟩ := obind HL1.out
                replace HL1 := Lib.hid hm; have HL2 := Lib.hid ho; clear hm ho
                go_loopg [11, 12, 13] F (fun gg ux51 ux52 ux53 wr => ∃ (x48 : Bool) (x49 : List (Int × Int)) (x50 : Int) (V54 : Value), ux51 = .bool x48 ∧ V54 = ux52 ∧ ux53 = .int .i64 x50 ∧ Hid (Below w.heap.size w wr) ∧ Hid (HP wr w.heap.size [.fl (owL V54 (x49)), .fl (owI (.slice A42 (y38).length cap43) (y38)), .fl (owI V11 (y7))]) ∧ Hid (L3_ChordalRings_L2 F (v1) (y38) gg x48 x49 x50 = some o47))
                case atStart => exact ⟨true, [], 0, (.slice none 0 0), rfl, rfl, rfl, HD, HOA, HL2⟩
                case round =>
                  obtain ⟨x48, x49, x50, V54, rfl, rfl, rfl, HD, HOA, HL2⟩ := hrel
                  rename World => W55
                  cases gk with
                  | zero => exact absurd ((L3_ChordalRings_L2_0 ..).symm.trans HL2.out) (by intro h; cases h)
                  | succ g2 =>
                    replace HL2 := Lib.hid ((L3_ChordalRings_L2_s ..).symm.trans HL2.out)
                    by_cases hc56 : x50 < ((y38).length : Int)
                    · replace HL2 := Lib.hid (ifT hc56 HL2.out)
                      have HK57 := Lib.hid hc56
                      go_wp2_with fail
                      try clear hc56
                      obtain ⟨o58, ho, hm⟩ := obind HL2.out
                      replace HL2 := Lib.hid hm; have HL3 := Lib.hid ho; clear hm ho
                      go_loopg [12, 14, 15] F (fun gg ux62 ux63 ux64 wr => ∃ (x59 : List (Int × Int)) (x60 : Int) (x61 : Int) (V65 : Value), V65 = ux62 ∧ ux63 = .int .i64 x60 ∧ ux64 = .int .i64 x61 ∧ Hid (Below w.heap.size w wr) ∧ Hid (HP wr w.heap.size [.fl (owL V65 (x59)), .fl (owI (.slice A42 (y38).length cap43) (y38)), .fl (owI V11 (y7))]) ∧ Hid (L3_ChordalRings_L3 F (v1) (y38) (x50) gg x59 x60 x61 = some o58))
                      case atStart => exact ⟨x49, 0, 0, V54, rfl, rfl, rfl, HD, HOA, HL3⟩
                      case round =>
                        obtain ⟨x59, x60, x61, V65, rfl, rfl, rfl, HD, HOA, HL3⟩ := hrel
                        rename World => W66
                        cases gk with
                        | zero => exact absurd ((L3_ChordalRings_L3_0 ..).symm.trans HL3.out) (by intro h; cases h)
                        | succ g3 =>
                          replace HL3 := Lib.hid ((L3_ChordalRings_L3_s ..).symm.trans HL3.out)
                          by_cases hc67 : x61 < ((y38).length : Int)
                          · replace HL3 := Lib.hid (ifT hc67 HL3.out)
                            have HK68 := Lib.hid hc67
                            try go_wp2_with fail
                            try clear hc67
                            obtain ⟨y69, hy70, hm⟩ := obind HL3.out
                            replace HL3 := Lib.hid hm; clear hm
                            obtain ⟨b71, o72, ea73, _, f74, f75, f76⟩ := ReadsI.ix (HP.rd_I HOA.out (List.Mem.tail _ (List.Mem.head _))) hy70
                            cases ea73
                            try simp only [Nat.zero_add, Nat.add_zero, Int.toNat_natCast, Int.toNat_zero, Int.toNat_one] at f76
                            try rw [← HP.len_I HOA.out (List.Mem.tail _ (List.Mem.head _))] at f75
                            have HY78 := Lib.hid hy70; clear hy70
                            obtain ⟨y79, hy80, hm⟩ := obind HL3.out
                            replace HL3 := Lib.hid hm; clear hm
                            obtain ⟨b81, o82, ea83, _, f84, f85, f86⟩ := ReadsI.ix (HP.rd_I HOA.out (List.Mem.tail _ (List.Mem.head _))) hy80
                            cases ea83
                            try simp only [Nat.zero_add, Nat.add_zero, Int.toNat_natCast, Int.toNat_zero, Int.toNat_one] at f86
                            try rw [← HP.len_I HOA.out (List.Mem.tail _ (List.Mem.head _))] at f85
                            have HY88 := Lib.hid hy80; clear hy80
                            obtain ⟨y91, hy89, hm⟩ := obind HL3.out
                            replace HL3 := Lib.hid hm; clear hm
                            have HC90 := Lib.hid (fun m => R1_Beside_ok (W66.drewN m) cap1 (ReadsL.drewN' (rdL HD.out HR1.out) m) hy89)
                            clear hy89
                            cases y91
                            · replace HL3 := Lib.hid (ifF Bool.false_ne_true HL3.out)
                              go_quiet (first | (go_at_call 12; exact quiet_left (HC90.out _)))
                              generalize hW : World.drewN W66 _ = W92
                              have hd : Dr W66 W92 := ⟨_, hW.symm⟩
                              clear hW
                              try clear f74 f75 f76 f84 f85 f86
                              replace HOA := Lib.hid (HOA.out.below (hd.below _))
                              replace HD := Lib.hid (HD.out.trans ((hd.below _).mono HD.out.size))
                              clear hd
                              go_wp2_with fail
                              go_roundg g3
                              case measure => omega
                              case rel => exact ⟨x59, x60, (wrap64 (x61 + 1)), V65, rfl, rfl, rfl, HD, HOA, HL3⟩
                            · replace HL3 := Lib.hid (ifT rfl HL3.out)
                              go_quiet (first | (go_at_call 12; exact quiet_left (HC90.out _)))
                              generalize hW : World.drewN W66 _ = W93
                              have hd : Dr W66 W93 := ⟨_, hW.symm⟩
                              clear hW
                              try clear f74 f75 f76 f84 f85 f86
                              replace HOA := Lib.hid (HOA.out.below (hd.below _))
                              replace HD := Lib.hid (HD.out.trans ((hd.below _).mono HD.out.size))
                              clear hd
                              try go_wp2_with fail
                              obtain ⟨y94, hy95, hm⟩ := obind HL3.out
                              replace HL3 := Lib.hid hm; clear hm
                              obtain ⟨b96, o97, ea98, _, f99, f100, f101⟩ := ReadsI.ix (HP.rd_I HOA.out (List.Mem.tail _ (List.Mem.head _))) hy95
                              cases ea98
                              try simp only [Nat.zero_add, Nat.add_zero, Int.toNat_natCast, Int.toNat_zero, Int.toNat_one] at f101
                              try rw [← HP.len_I HOA.out (List.Mem.tail _ (List.Mem.head _))] at f100
                              have HY103 := Lib.hid hy95; clear hy95
                              obtain ⟨y104, hy105, hm⟩ := obind HL3.out
                              replace HL3 := Lib.hid hm; clear hm
                              obtain ⟨b106, o107, ea108, _, f109, f110, f111⟩ := ReadsI.ix (HP.rd_I HOA.out (List.Mem.tail _ (List.Mem.head _))) hy105
                              cases ea108
                              try simp only [Nat.zero_add, Nat.add_zero, Int.toNat_natCast, Int.toNat_zero, Int.toNat_one] at f111
                              try rw [← HP.len_I HOA.out (List.Mem.tail _ (List.Mem.head _))] at f110
                              have HY113 := Lib.hid hy105; clear hy105
                              obtain ⟨y114, hy115, hm⟩ := obind HL3.out
                              replace HL3 := Lib.hid hm; clear hm
                              obtain ⟨f116, hy115⟩ := app_some hy115; subst hy115
                              have HF119 := Lib.hid f116; clear f116
                              have hd1 := Dr.one W93
                              replace HOA := Lib.hid (HOA.out.dr hd1)
                              replace HD := Lib.hid (HD.out.trans (hd1.below _))
                              clear hd1
                              go_region_law (first | (refine hp_appL_st (World.drew W93) (.tmp 69) (.tmp 79) 22 Tryd.underlying22 rfl rfl (L1 := []) HOA.out (by simp [Act.eval, Act.put]) (by simp [Act.eval, Act.put]) HF119.out HD.out.size ?_; intro g120 cap121 W118 hoa hd; have HOA2 := Lib.hid hoa; have HD2 := Lib.hid hd; clear hoa hd))
                              all_goals
                                try clear f99 f100 f101 f109 f110 f111
                                replace HOA := Lib.hid (show HP W118 w.heap.size [.fl (owL (.slice (some ⟨g120, 0, none⟩) ((x59).length + 1) cap121) ((x59 ++ [(y94, y104)]))), .fl (owI (.slice (some ⟨b71, o72, none⟩) (y38).length cap43) (y38)), .fl (owI V11 (y7))] from by have q := HOA2.out; (try simp only [i64w] at q); exact q); clear HOA2
                                replace HD := Lib.hid (HD.out.trans HD2.out); clear HD2
                                go_wp2_with fail
                                go_roundg g3
                                case measure => omega
                                case rel => exact ⟨(x59 ++ [(y94, y104)]), (wrap64 (x60 + 1)), (wrap64 (x61 + 1)), (.slice (some ⟨g120, 0, none⟩) ((x59).length + 1) cap121), rfl, rfl, rfl, HD, HOA, HL3⟩
                          · replace HL3 := Lib.hid (ifF hc67 HL3.out)
                            have hc67d := decide_eq_false hc67
                            have HK68 := Lib.hid hc67
                            obtain rfl := Option.some.inj HL3.out
                            have hm := HL2.out; try dsimp only at hm
                            replace HL2 := Lib.hid hm; clear hm
                            obtain ⟨b122, hb, hm⟩ := obind HL2.out
                            replace HL2 := Lib.hid hm; have HB123 := Lib.hid hb; clear hm hb
                            cases x48
                            · replace HB123 := Lib.hid (ifF Bool.false_ne_true HB123.out)
                              obtain rfl := Option.some.inj HB123.out
                              go_wp2_with fail
                              try clear hc67 hc67d
                              go_roundg g2
                              case measure => omega
                              case rel => exact ⟨false, x59, (wrap64 (x50 + 1)), V65, rfl, rfl, rfl, HD, HOA, HL2⟩
                            · replace HB123 := Lib.hid (ifT rfl HB123.out)
                              rcases Bool.eq_false_or_eq_true (x60 == 2) with hc124 | hc124
                              · replace HB123 := Lib.hid (ifT hc124 HB123.out)
                                have HK125 := Lib.hid hc124
                                obtain rfl := Option.some.inj HB123.out
                                go_wp2_with fail
                                try clear hc67 hc67d hc124
                                go_roundg g2
                                case measure => omega
                                case rel => exact ⟨true, x59, (wrap64 (x50 + 1)), V65, rfl, rfl, rfl, HD, HOA, HL2⟩
                              · replace HB123 := Lib.hid (ifF (bF hc124) HB123.out)
                                have HK125 := Lib.hid hc124
                                obtain rfl := Option.some.inj HB123.out
                                go_wp2_with fail
                                try clear hc67 hc67d hc124
                                go_roundg g2
                                case measure => omega
                                case rel => exact ⟨false, x59, (wrap64 (x50 + 1)), V65, rfl, rfl, rfl, HD, HOA, HL2⟩
                    · replace HL2 := Lib.hid (ifF hc56 HL2.out)
                      have hc56d := decide_eq_false hc56
                      have HK57 := Lib.hid hc56
                      obtain rfl := Option.some.inj HL2.out
                      have hm := HL1.out; try dsimp only at hm
                      replace HL1 := Lib.hid hm; clear hm
                      cases x48
                      · replace HL1 := Lib.hid (ifF Bool.false_ne_true HL1.out)
                        go_wp2_with fail
                        try clear hc56 hc56d
                        replace HOA := Lib.hid (HOA.out.sub (.cons _ (.cons _ (.cons₂ _ .slnil))))
                        go_roundg g1
                        case measure => omega
                        case rel => exact ⟨x26, (wrap64 (x27 + 1)), rfl, rfl, HD, HOA, HL1⟩
                      · replace HL1 := Lib.hid (ifT rfl HL1.out)
                        obtain ⟨y128, hy126, hm⟩ := obind HL1.out
                        replace HL1 := Lib.hid hm; clear hm
                        obtain ⟨A129, cap130, he, _⟩ := HP.open_L HOA.out (List.Mem.head _)
                        subst he
                        have HC127 := R1_Far_ok W55 cap130 (HP.rd_L HOA.out (List.Mem.head _)) hy126
                        clear hy126
                        replace HC127 := Lib.hid HC127
                        go_wp2_with fail
                        refine HC127.out.mono ?_; rintro e W131 ⟨V132, rfl, ho, hd⟩
                        try clear hc56 hc56d
                        replace HOA := Lib.hid (HOA.out.callR hd HD.out.size ho); clear ho
                        replace HD := Lib.hid (HD.out.trans (hd.mono HD.out.size))
                        clear hd
                        go_wp2_with fail
                        obtain ⟨o134, ho, hm⟩ := obind HL1.out
                        replace HL1 := Lib.hid hm; have HL4 := Lib.hid ho; clear hm ho
                        go_loopg [17, 18] F (fun gg ux137 ux138 wr => ∃ (x135 : Bool) (x136 : Int), ux137 = .bool x135 ∧ ux138 = .int .i64 x136 ∧ Hid (Below W131.heap.size W131 wr) ∧ Hid (L3_ChordalRings_L4 F (y38) (y128) gg x135 x136 = some o134))
                        case atStart => exact ⟨true, 0, rfl, rfl, (Lib.hid (Below.refl _ _)), HL4⟩
                        case round =>
                          obtain ⟨x135, x136, rfl, rfl, HW4, HL4⟩ := hrel
                          rename World => W139
                          have hd := HW4.out
                          replace HOA := Lib.hid (HOA.out.below hd)
                          replace HD := Lib.hid (HD.out.trans (hd.mono HD.out.size))
                          clear hd
                          cases gk with
                          | zero => exact absurd ((L3_ChordalRings_L4_0 ..).symm.trans HL4.out) (by intro h; cases h)
                          | succ g4 =>
                            replace HL4 := Lib.hid ((L3_ChordalRings_L4_s ..).symm.trans HL4.out)
                            by_cases hc140 : x136 < ((y38).length : Int)
                            · replace HL4 := Lib.hid (ifT hc140 HL4.out)
                              have HK141 := Lib.hid hc140
                              try go_wp2_with fail
                              try clear hc140
                              obtain ⟨b142, hb, hm⟩ := obind HL4.out
                              replace HL4 := Lib.hid hm; have HB143 := Lib.hid hb; clear hm hb
                              cases x135
                              · replace HB143 := Lib.hid (ifF Bool.false_ne_true HB143.out)
                                obtain rfl := Option.some.inj HB143.out
                                go_quiet (fail)
                                generalize hW : World.drewN W139 _ = W144
                                have hd : Dr W139 W144 := ⟨_, hW.symm⟩
                                clear hW
                                replace HOA := Lib.hid (HOA.out.below (hd.below _))
                                replace HD := Lib.hid (HD.out.trans ((hd.below _).mono HD.out.size))
                                replace HW4 := Lib.hid (HW4.out.trans ((hd.below _).mono HW4.out.size))
                                clear hd
                                go_wp2_with fail
                                go_roundg g4
                                case measure => omega
                                case rel => exact ⟨false, (wrap64 (x136 + 1)), rfl, rfl, HW4, HL4⟩
                              · replace HB143 := Lib.hid (ifT rfl HB143.out)
                                obtain ⟨y145, hy146, hm⟩ := obind HB143.out
                                replace HB143 := Lib.hid hm; clear hm
                                obtain ⟨b147, o148, ea149, _, f150, f151, f152⟩ := ReadsI.ix (HP.rd_I HOA.out (List.Mem.tail _ (List.Mem.tail _ (List.Mem.head _)))) hy146
                                cases ea149
                                try simp only [Nat.zero_add, Nat.add_zero, Int.toNat_natCast, Int.toNat_zero, Int.toNat_one] at f152
                                have f151n := f151; try norm_cast at f151n
                                try rw [← HP.len_I HOA.out (List.Mem.tail _ (List.Mem.tail _ (List.Mem.head _)))] at f151
                                have HY154 := Lib.hid hy146; clear hy146
                                obtain ⟨A157, cap158, he, _⟩ := HP.open_R HOA.out (List.Mem.head _)
                                subst he
                                obtain ⟨y155, hy156, hm⟩ := obind HB143.out
                                replace HB143 := Lib.hid hm; clear hm
                                obtain ⟨b159, o160, A166, cap167, ea161, _, f162, f163, f164, hrr⟩ := ReadsR.ix (HP.rd_R HOA.out (List.Mem.head _)) hy156
                                cases ea161
                                try simp only [Nat.zero_add, Nat.add_zero, Int.toNat_natCast, Int.toNat_zero, Int.toNat_one] at f164
                                have HR168 := Lib.hid hrr; clear hrr
                                try rw [← HP.len_R HOA.out (List.Mem.head _)] at f163
                                have HY169 := Lib.hid hy156; clear hy156
                                obtain ⟨y170, hy171, hm⟩ := obind HB143.out
                                replace HB143 := Lib.hid hm; clear hm
                                obtain ⟨b172, o173, ea174, _, f175, f176, f177⟩ := ReadsI.ix (HP.rd_I HOA.out (List.Mem.tail _ (List.Mem.tail _ (List.Mem.head _)))) hy171
                                cases ea174
                                try simp only [Nat.zero_add, Nat.add_zero, Int.toNat_natCast, Int.toNat_zero, Int.toNat_one] at f177
                                try rw [← HP.len_I HOA.out (List.Mem.tail _ (List.Mem.tail _ (List.Mem.head _)))] at f176
                                have HY179 := Lib.hid hy171; clear hy171
                                obtain ⟨y180, hy181, hm⟩ := obind HB143.out
                                replace HB143 := Lib.hid hm; clear hm
                                obtain ⟨b182, o183, ea184, _, f185, f186, f187⟩ := ReadsI.ix HR168.out hy181
                                cases ea184
                                try simp only [Nat.zero_add, Nat.add_zero, Int.toNat_natCast, Int.toNat_zero, Int.toNat_one] at f187
                                have HY189 := Lib.hid hy181; clear hy181
                                by_cases hc190 : 0 ≤ y180
                                · replace HB143 := Lib.hid (ifT hc190 HB143.out)
                                  have HK191 := Lib.hid hc190
                                  obtain rfl := Option.some.inj HB143.out
                                  go_quiet (fail)
                                  generalize hW : World.drewN W139 _ = W192
                                  have hd : Dr W139 W192 := ⟨_, hW.symm⟩
                                  clear hW
                                  try clear f150 f151 f152 f151n f162 f163 f164 f175 f176 f177 f185 f186 f187 hc190
                                  replace HOA := Lib.hid (HOA.out.below (hd.below _))
                                  replace HR168 := Lib.hid (rdI (hd.below _) HR168.out)
                                  replace HD := Lib.hid (HD.out.trans ((hd.below _).mono HD.out.size))
                                  replace HW4 := Lib.hid (HW4.out.trans ((hd.below _).mono HW4.out.size))
                                  clear hd
                                  go_wp2_with fail
                                  go_roundg g4
                                  case measure => omega
                                  case rel => exact ⟨true, (wrap64 (x136 + 1)), rfl, rfl, HW4, HL4⟩
                                · replace HB143 := Lib.hid (ifF hc190 HB143.out)
                                  have hc190d := decide_eq_false hc190
                                  have HK191 := Lib.hid hc190
                                  obtain rfl := Option.some.inj HB143.out
                                  go_quiet (fail)
                                  generalize hW : World.drewN W139 _ = W193
                                  have hd : Dr W139 W193 := ⟨_, hW.symm⟩
                                  clear hW
                                  try clear f150 f151 f152 f151n f162 f163 f164 f175 f176 f177 f185 f186 f187 hc190 hc190d
                                  replace HOA := Lib.hid (HOA.out.below (hd.below _))
                                  replace HR168 := Lib.hid (rdI (hd.below _) HR168.out)
                                  replace HD := Lib.hid (HD.out.trans ((hd.below _).mono HD.out.size))
                                  replace HW4 := Lib.hid (HW4.out.trans ((hd.below _).mono HW4.out.size))
                                  clear hd
                                  go_wp2_with fail
                                  go_roundg g4
                                  case measure => omega
                                  case rel => exact ⟨false, (wrap64 (x136 + 1)), rfl, rfl, HW4, HL4⟩
                            · replace HL4 := Lib.hid (ifF hc140 HL4.out)
                              have hc140d := decide_eq_false hc140
                              have HK141 := Lib.hid hc140
                              obtain rfl := Option.some.inj HL4.out
                              have hm := HL1.out; try dsimp only at hm
                              replace HL1 := Lib.hid hm; clear hm
                              obtain ⟨b194, hb, hm⟩ := obind HL1.out
                              replace HL1 := Lib.hid hm; have HB195 := Lib.hid hb; clear hm hb
                              cases x26
                              · replace HB195 := Lib.hid (ifF Bool.false_ne_true HB195.out)
                                cases x135
                                · replace HB195 := Lib.hid (ifF Bool.false_ne_true HB195.out)
                                  obtain rfl := Option.some.inj HB195.out
                                  go_wp2_with fail
                                  try clear hc140 hc140d
                                  replace HOA := Lib.hid (HOA.out.sub (.cons _ (.cons _ (.cons _ (.cons₂ _ .slnil)))))
                                  go_roundg g1
                                  case measure => omega
                                  case rel => exact ⟨false, (wrap64 (x27 + 1)), rfl, rfl, HD, HOA, HL1⟩
                                · replace HB195 := Lib.hid (ifT rfl HB195.out)
                                  obtain rfl := Option.some.inj HB195.out
                                  go_wp2_with fail
                                  try clear hc140 hc140d
                                  replace HOA := Lib.hid (HOA.out.sub (.cons _ (.cons _ (.cons _ (.cons₂ _ .slnil)))))
                                  go_roundg g1
                                  case measure => omega
                                  case rel => exact ⟨true, (wrap64 (x27 + 1)), rfl, rfl, HD, HOA, HL1⟩
                              · replace HB195 := Lib.hid (ifT rfl HB195.out)
                                obtain rfl := Option.some.inj HB195.out
                                go_wp2_with fail
                                try clear hc140 hc140d
                                replace HOA := Lib.hid (HOA.out.sub (.cons _ (.cons _ (.cons _ (.cons₂ _ .slnil)))))
                                go_roundg g1
                                case measure => omega
                                case rel => exact ⟨true, (wrap64 (x27 + 1)), rfl, rfl, HD, HOA, HL1⟩
            · replace HL1 := Lib.hid (ifF hc34 HL1.out)
              have hc34d := decide_eq_false hc34
              have HK35 := Lib.hid hc34
              obtain rfl := Option.some.inj HL1.out
              have hm := HM.out; try dsimp only at hm
              replace HM := Lib.hid hm; clear hm
              obtain ⟨b196, hb, hm⟩ := obind HM.out
              replace HM := Lib.hid hm; have HB197 := Lib.hid hb; clear hm hb
              obtain ⟨b198, hb, hm⟩ := obind HB197.out
              replace HB197 := Lib.hid hm; have HB199 := Lib.hid hb; clear hm hb
              replace HB199 := Lib.hid (ifF (by decide) HB199.out)
              obtain rfl := Option.some.inj HB199.out
              cases x26
              · replace HB197 := Lib.hid (ifT (by decide) HB197.out)
                replace HB197 := Lib.hid (ifT (by decide) HB197.out)
                obtain rfl := Option.some.inj HB197.out
                obtain rfl := Option.some.inj HM.out
                go_wp2_with fail
                refine HC32.out.mono ?_; rintro e w' ⟨rfl, rfl⟩
                go_wp2_with fail
                go_ret
                exact ⟨(by first | rfl | (refine congrArg (fun b => Ending.returned (Value.bool b)) ?_; first | (exact decide_eq_true (by omega)) | (exact decide_eq_false (by omega)) | (have q := hc34; rw [bne_iff_ne] at q ⊢; omega) | (have q := hc34; rw [bne_eq_false_iff_eq] at q ⊢; omega) | (have q := hc34; rw [beq_iff_eq] at q ⊢; omega) | (have q := hc34; rw [beq_eq_false_iff_ne] at q ⊢; omega) | (have q := hc34d; rw [bne_iff_ne] at q ⊢; omega) | (have q := hc34d; rw [bne_eq_false_iff_eq] at q ⊢; omega) | (have q := hc34d; rw [beq_iff_eq] at q ⊢; omega) | (have q := hc34d; rw [beq_eq_false_iff_ne] at q ⊢; omega))), HD.out⟩
              · replace HB197 := Lib.hid (ifF (by decide) HB197.out)
                obtain rfl := Option.some.inj HB197.out
                obtain rfl := Option.some.inj HM.out
                go_wp2_with fail
                refine HC32.out.mono ?_; rintro e w' ⟨rfl, rfl⟩
                go_wp2_with fail
                go_ret
                exact ⟨(by first | rfl | (refine congrArg (fun b => Ending.returned (Value.bool b)) ?_; first | (exact decide_eq_true (by omega)) | (exact decide_eq_false (by omega)) | (have q := hc34; rw [bne_iff_ne] at q ⊢; omega) | (have q := hc34; rw [bne_eq_false_iff_eq] at q ⊢; omega) | (have q := hc34; rw [beq_iff_eq] at q ⊢; omega) | (have q := hc34; rw [beq_eq_false_iff_ne] at q ⊢; omega) | (have q := hc34d; rw [bne_iff_ne] at q ⊢; omega) | (have q := hc34d; rw [bne_eq_false_iff_eq] at q ⊢; omega) | (have q := hc34d; rw [beq_iff_eq] at q ⊢; omega) | (have q := hc34d; rw [beq_eq_false_iff_ne] at q ⊢; omega))), HD.out⟩
    · rw [errV_pos _ hz9] at HC6; replace HC6 := Lib.hid HC6
      go_wp2_with fail
      refine HC6.out.mono ?_; rintro e W13 ⟨V14, rfl, ho, hd⟩
      replace HOA := Lib.hid (HOA.out.call hd HD.out.size ho); clear ho
      replace HD := Lib.hid (HD.out.trans (hd.mono HD.out.size))
      clear hd
      have HZ16 := Lib.hid hz9; clear hz9
      obtain ⟨y202, hy200, hm⟩ := obind HM.out
      replace HM := Lib.hid hm; clear hm
      have HC201 := R1_Lines_ok W13 cap1 (rdL HD.out HR1.out) hy200
      clear hy200
      replace HC201 := Lib.hid HC201
      go_wp2_with fail
      refine HC201.out.mono ?_; rintro e W203 ⟨rfl, hd⟩
      replace HOA := Lib.hid (HOA.out.below (hd.below _))
      replace HD := Lib.hid (HD.out.trans ((hd.below _).mono HD.out.size))
      clear hd
      rcases Bool.eq_false_or_eq_true (y202 != 0) with hc204 | hc204
      · replace HM := Lib.hid (ifT hc204 HM.out)
        have HK205 := Lib.hid hc204
        obtain ⟨b206, hb, hm⟩ := obind HM.out
        replace HM := Lib.hid hm; have HB207 := Lib.hid hb; clear hm hb
        replace HB207 := Lib.hid (ifT (bne_iff_ne.2 HZ16.out) HB207.out)
        obtain rfl := Option.some.inj HB207.out
        obtain rfl := Option.some.inj HM.out
        go_wp2_with fail
        go_ret
        exact ⟨(by first | rfl | (refine congrArg (fun b => Ending.returned (Value.bool b)) ?_; first | (exact decide_eq_true (by omega)) | (exact decide_eq_false (by omega)) | (have q := hc204; rw [bne_iff_ne] at q ⊢; omega) | (have q := hc204; rw [bne_eq_false_iff_eq] at q ⊢; omega) | (have q := hc204; rw [beq_iff_eq] at q ⊢; omega) | (have q := hc204; rw [beq_eq_false_iff_ne] at q ⊢; omega))), HD.out⟩
      · replace HM := Lib.hid (ifF (bF hc204) HM.out)
        have HK205 := Lib.hid hc204
        go_wp2_with fail
        try clear hc204
        obtain ⟨o208, ho, hm⟩ := obind HM.out
        replace HM := Lib.hid hm; have HL1 := Lib.hid ho; clear hm ho
        go_loopg [8, 9] F (fun gg ux211 ux212 wr => ∃ (x209 : Bool) (x210 : Int), ux211 = .bool x209 ∧ ux212 = .int .i64 x210 ∧ Hid (Below w.heap.size w wr) ∧ Hid (HP wr w.heap.size [.fl (owI V14 (y7))]) ∧ Hid (L3_ChordalRings_L1 F (v0) (v1) gg x209 x210 = some o208))
        case atStart => exact ⟨false, 0, rfl, rfl, HD, HOA, HL1⟩
        case round =>
          obtain ⟨x209, x210, rfl, rfl, HD, HOA, HL1⟩ := hrel
          rename World => W213
          cases gk with
          | zero => exact absurd ((L3_ChordalRings_L1_0 ..).symm.trans HL1.out) (by intro h; cases h)
          | succ g1 =>
            replace HL1 := Lib.hid ((L3_ChordalRings_L1_s ..).symm.trans HL1.out)
            obtain ⟨y216, hy214, hm⟩ := obind HL1.out
            replace HL1 := Lib.hid hm; clear hm
            have HC215 := R3_Power_ok W213  hy214
            clear hy214
            replace HC215 := Lib.hid HC215
            by_cases hc217 : x210 < y216
            · replace HL1 := Lib.hid (ifT hc217 HL1.out)
              have HK218 := Lib.hid hc217
              obtain ⟨y221, hy219, hm⟩ := obind HL1.out
              replace HL1 := Lib.hid hm; clear hm
              have HC220 := R3_Members_ok W213  hy219
              clear hy219
              replace HC220 := Lib.hid HC220
              go_wp2_with fail
              refine HC215.out.mono ?_; rintro e w' ⟨rfl, rfl⟩
              go_wp2_with fail
              refine HC220.out.mono ?_; rintro e W222 ⟨V223, rfl, ho, hd⟩
              try clear hc217
              replace HOA := Lib.hid (HOA.out.call hd HD.out.size ho); clear ho
              replace HD := Lib.hid (HD.out.trans (hd.mono HD.out.size))
              clear hd
              obtain ⟨A225, cap226, he, _⟩ := HP.open_I HOA.out (List.Mem.head _)
              subst he
              by_cases hc227 : ((y221).length : Int) < 4
              · replace HL1 := Lib.hid (ifT hc227 HL1.out)
                have HK228 := Lib.hid hc227
                have hc227n := hc227; try norm_cast at hc227n
                go_wp2_with fail
                try clear hc227 hc227n
                replace HOA := Lib.hid (HOA.out.sub (.cons _ (.cons₂ _ .slnil)))
                go_roundg g1
                case measure => omega
                case rel => exact ⟨x209, (wrap64 (x210 + 1)), rfl, rfl, HD, HOA, HL1⟩
              · replace HL1 := Lib.hid (ifF hc227 HL1.out)
                have hc227d := decide_eq_false hc227
                have HK228 := Lib.hid hc227
                have hc227n := hc227; try norm_cast at hc227n
                replace HOA := Lib.hid (show HP _ _ (.fl (owL (.slice none 0 0) ([])) :: _) from HOA.out.pushNil _ _)
                go_wp2_with fail
                try clear hc227 hc227n hc227d
                obtain ⟨o230, ho, hm⟩ := obind HL1.out
                replace HL1 := Lib.hid hm; have HL2 := Lib.hid ho; clear hm ho
                go_loopg [11, 12, 13] F (fun gg ux234 ux235 ux236 wr => ∃ (x231 : Bool) (x232 : List (Int × Int)) (x233 : Int) (V237 : Value), ux234 = .bool x231 ∧ V237 = ux235 ∧ ux236 = .int .i64 x233 ∧ Hid (Below w.heap.size w wr) ∧ Hid (HP wr w.heap.size [.fl (owL V237 (x232)), .fl (owI (.slice A225 (y221).length cap226) (y221)), .fl (owI V14 (y7))]) ∧ Hid (L3_ChordalRings_L2 F (v1) (y221) gg x231 x232 x233 = some o230))
                case atStart => exact ⟨true, [], 0, (.slice none 0 0), rfl, rfl, rfl, HD, HOA, HL2⟩
                case round =>
                  obtain ⟨x231, x232, x233, V237, rfl, rfl, rfl, HD, HOA, HL2⟩ := hrel
                  rename World => W238
                  cases gk with
                  | zero => exact absurd ((L3_ChordalRings_L2_0 ..).symm.trans HL2.out) (by intro h; cases h)
                  | succ g2 =>
                    replace HL2 := Lib.hid ((L3_ChordalRings_L2_s ..).symm.trans HL2.out)
                    by_cases hc239 : x233 < ((y221).length : Int)
                    · replace HL2 := Lib.hid (ifT hc239 HL2.out)
                      have HK240 := Lib.hid hc239
                      go_wp2_with fail
                      try clear hc239
                      obtain ⟨o241, ho, hm⟩ := obind HL2.out
                      replace HL2 := Lib.hid hm; have HL3 := Lib.hid ho; clear hm ho
                      go_loopg [12, 14, 15] F (fun gg ux245 ux246 ux247 wr => ∃ (x242 : List (Int × Int)) (x243 : Int) (x244 : Int) (V248 : Value), V248 = ux245 ∧ ux246 = .int .i64 x243 ∧ ux247 = .int .i64 x244 ∧ Hid (Below w.heap.size w wr) ∧ Hid (HP wr w.heap.size [.fl (owL V248 (x242)), .fl (owI (.slice A225 (y221).length cap226) (y221)), .fl (owI V14 (y7))]) ∧ Hid (L3_ChordalRings_L3 F (v1) (y221) (x233) gg x242 x243 x244 = some o241))
                      case atStart => exact ⟨x232, 0, 0, V237, rfl, rfl, rfl, HD, HOA, HL3⟩
                      case round =>
                        obtain ⟨x242, x243, x244, V248, rfl, rfl, rfl, HD, HOA, HL3⟩ := hrel
                        rename World => W249
                        cases gk with
                        | zero => exact absurd ((L3_ChordalRings_L3_0 ..).symm.trans HL3.out) (by intro h; cases h)
                        | succ g3 =>
                          replace HL3 := Lib.hid ((L3_ChordalRings_L3_s ..).symm.trans HL3.out)
                          by_cases hc250 : x244 < ((y221).length : Int)
                          · replace HL3 := Lib.hid (ifT hc250 HL3.out)
                            have HK251 := Lib.hid hc250
                            try go_wp2_with fail
                            try clear hc250
                            obtain ⟨y252, hy253, hm⟩ := obind HL3.out
                            replace HL3 := Lib.hid hm; clear hm
                            obtain ⟨b254, o255, ea256, _, f257, f258, f259⟩ := ReadsI.ix (HP.rd_I HOA.out (List.Mem.tail _ (List.Mem.head _))) hy253
                            cases ea256
                            try simp only [Nat.zero_add, Nat.add_zero, Int.toNat_natCast, Int.toNat_zero, Int.toNat_one] at f259
                            try rw [← HP.len_I HOA.out (List.Mem.tail _ (List.Mem.head _))] at f258
                            have HY261 := Lib.hid hy253; clear hy253
                            obtain ⟨y262, hy263, hm⟩ := obind HL3.out
                            replace HL3 := Lib.hid hm; clear hm
                            obtain ⟨b264, o265, ea266, _, f267, f268, f269⟩ := ReadsI.ix (HP.rd_I HOA.out (List.Mem.tail _ (List.Mem.head _))) hy263
                            cases ea266
                            try simp only [Nat.zero_add, Nat.add_zero, Int.toNat_natCast, Int.toNat_zero, Int.toNat_one] at f269
                            try rw [← HP.len_I HOA.out (List.Mem.tail _ (List.Mem.head _))] at f268
                            have HY271 := Lib.hid hy263; clear hy263
                            obtain ⟨y274, hy272, hm⟩ := obind HL3.out
                            replace HL3 := Lib.hid hm; clear hm
                            have HC273 := Lib.hid (fun m => R1_Beside_ok (W249.drewN m) cap1 (ReadsL.drewN' (rdL HD.out HR1.out) m) hy272)
                            clear hy272
                            cases y274
                            · replace HL3 := Lib.hid (ifF Bool.false_ne_true HL3.out)
                              go_quiet (first | (go_at_call 12; exact quiet_left (HC273.out _)))
                              generalize hW : World.drewN W249 _ = W275
                              have hd : Dr W249 W275 := ⟨_, hW.symm⟩
                              clear hW
                              try clear f257 f258 f259 f267 f268 f269
                              replace HOA := Lib.hid (HOA.out.below (hd.below _))
                              replace HD := Lib.hid (HD.out.trans ((hd.below _).mono HD.out.size))
                              clear hd
                              go_wp2_with fail
                              go_roundg g3
                              case measure => omega
                              case rel => exact ⟨x242, x243, (wrap64 (x244 + 1)), V248, rfl, rfl, rfl, HD, HOA, HL3⟩
                            · replace HL3 := Lib.hid (ifT rfl HL3.out)
                              go_quiet (first | (go_at_call 12; exact quiet_left (HC273.out _)))
                              generalize hW : World.drewN W249 _ = W276
                              have hd : Dr W249 W276 := ⟨_, hW.symm⟩
                              clear hW
                              try clear f257 f258 f259 f267 f268 f269
                              replace HOA := Lib.hid (HOA.out.below (hd.below _))
                              replace HD := Lib.hid (HD.out.trans ((hd.below _).mono HD.out.size))
                              clear hd
                              try go_wp2_with fail
                              obtain ⟨y277, hy278, hm⟩ := obind HL3.out
                              replace HL3 := Lib.hid hm; clear hm
                              obtain ⟨b279, o280, ea281, _, f282, f283, f284⟩ := ReadsI.ix (HP.rd_I HOA.out (List.Mem.tail _ (List.Mem.head _))) hy278
                              cases ea281
                              try simp only [Nat.zero_add, Nat.add_zero, Int.toNat_natCast, Int.toNat_zero, Int.toNat_one] at f284
                              try rw [← HP.len_I HOA.out (List.Mem.tail _ (List.Mem.head _))] at f283
                              have HY286 := Lib.hid hy278; clear hy278
                              obtain ⟨y287, hy288, hm⟩ := obind HL3.out
                              replace HL3 := Lib.hid hm; clear hm
                              obtain ⟨b289, o290, ea291, _, f292, f293, f294⟩ := ReadsI.ix (HP.rd_I HOA.out (List.Mem.tail _ (List.Mem.head _))) hy288
                              cases ea291
                              try simp only [Nat.zero_add, Nat.add_zero, Int.toNat_natCast, Int.toNat_zero, Int.toNat_one] at f294
                              try rw [← HP.len_I HOA.out (List.Mem.tail _ (List.Mem.head _))] at f293
                              have HY296 := Lib.hid hy288; clear hy288
                              obtain ⟨y297, hy298, hm⟩ := obind HL3.out
                              replace HL3 := Lib.hid hm; clear hm
                              obtain ⟨f299, hy298⟩ := app_some hy298; subst hy298
                              have HF302 := Lib.hid f299; clear f299
                              have hd1 := Dr.one W276
                              replace HOA := Lib.hid (HOA.out.dr hd1)
                              replace HD := Lib.hid (HD.out.trans (hd1.below _))
                              clear hd1
                              go_region_law (first | (refine hp_appL_st (World.drew W276) (.tmp 69) (.tmp 79) 22 Tryd.underlying22 rfl rfl (L1 := []) HOA.out (by simp [Act.eval, Act.put]) (by simp [Act.eval, Act.put]) HF302.out HD.out.size ?_; intro g303 cap304 W301 hoa hd; have HOA2 := Lib.hid hoa; have HD2 := Lib.hid hd; clear hoa hd))
                              all_goals
                                try clear f282 f283 f284 f292 f293 f294
                                replace HOA := Lib.hid (show HP W301 w.heap.size [.fl (owL (.slice (some ⟨g303, 0, none⟩) ((x242).length + 1) cap304) ((x242 ++ [(y277, y287)]))), .fl (owI (.slice (some ⟨b254, o255, none⟩) (y221).length cap226) (y221)), .fl (owI V14 (y7))] from by have q := HOA2.out; (try simp only [i64w] at q); exact q); clear HOA2
                                replace HD := Lib.hid (HD.out.trans HD2.out); clear HD2
                                go_wp2_with fail
                                go_roundg g3
                                case measure => omega
                                case rel => exact ⟨(x242 ++ [(y277, y287)]), (wrap64 (x243 + 1)), (wrap64 (x244 + 1)), (.slice (some ⟨g303, 0, none⟩) ((x242).length + 1) cap304), rfl, rfl, rfl, HD, HOA, HL3⟩
                          · replace HL3 := Lib.hid (ifF hc250 HL3.out)
                            have hc250d := decide_eq_false hc250
                            have HK251 := Lib.hid hc250
                            obtain rfl := Option.some.inj HL3.out
                            have hm := HL2.out; try dsimp only at hm
                            replace HL2 := Lib.hid hm; clear hm
                            obtain ⟨b305, hb, hm⟩ := obind HL2.out
                            replace HL2 := Lib.hid hm; have HB306 := Lib.hid hb; clear hm hb
                            cases x231
                            · replace HB306 := Lib.hid (ifF Bool.false_ne_true HB306.out)
                              obtain rfl := Option.some.inj HB306.out
                              go_wp2_with fail
                              try clear hc250 hc250d
                              go_roundg g2
                              case measure => omega
                              case rel => exact ⟨false, x242, (wrap64 (x233 + 1)), V248, rfl, rfl, rfl, HD, HOA, HL2⟩
                            · replace HB306 := Lib.hid (ifT rfl HB306.out)
                              rcases Bool.eq_false_or_eq_true (x243 == 2) with hc307 | hc307
                              · replace HB306 := Lib.hid (ifT hc307 HB306.out)
                                have HK308 := Lib.hid hc307
                                obtain rfl := Option.some.inj HB306.out
                                go_wp2_with fail
                                try clear hc250 hc250d hc307
                                go_roundg g2
                                case measure => omega
                                case rel => exact ⟨true, x242, (wrap64 (x233 + 1)), V248, rfl, rfl, rfl, HD, HOA, HL2⟩
                              · replace HB306 := Lib.hid (ifF (bF hc307) HB306.out)
                                have HK308 := Lib.hid hc307
                                obtain rfl := Option.some.inj HB306.out
                                go_wp2_with fail
                                try clear hc250 hc250d hc307
                                go_roundg g2
                                case measure => omega
                                case rel => exact ⟨false, x242, (wrap64 (x233 + 1)), V248, rfl, rfl, rfl, HD, HOA, HL2⟩
                    · replace HL2 := Lib.hid (ifF hc239 HL2.out)
                      have hc239d := decide_eq_false hc239
                      have HK240 := Lib.hid hc239
                      obtain rfl := Option.some.inj HL2.out
                      have hm := HL1.out; try dsimp only at hm
                      replace HL1 := Lib.hid hm; clear hm
                      cases x231
                      · replace HL1 := Lib.hid (ifF Bool.false_ne_true HL1.out)
                        go_wp2_with fail
                        try clear hc239 hc239d
                        replace HOA := Lib.hid (HOA.out.sub (.cons _ (.cons _ (.cons₂ _ .slnil))))
                        go_roundg g1
                        case measure => omega
                        case rel => exact ⟨x209, (wrap64 (x210 + 1)), rfl, rfl, HD, HOA, HL1⟩
                      · replace HL1 := Lib.hid (ifT rfl HL1.out)
                        obtain ⟨y311, hy309, hm⟩ := obind HL1.out
                        replace HL1 := Lib.hid hm; clear hm
                        obtain ⟨A312, cap313, he, _⟩ := HP.open_L HOA.out (List.Mem.head _)
                        subst he
                        have HC310 := R1_Far_ok W238 cap313 (HP.rd_L HOA.out (List.Mem.head _)) hy309
                        clear hy309
                        replace HC310 := Lib.hid HC310
                        go_wp2_with fail
                        refine HC310.out.mono ?_; rintro e W314 ⟨V315, rfl, ho, hd⟩
                        try clear hc239 hc239d
                        replace HOA := Lib.hid (HOA.out.callR hd HD.out.size ho); clear ho
                        replace HD := Lib.hid (HD.out.trans (hd.mono HD.out.size))
                        clear hd
                        go_wp2_with fail
                        obtain ⟨o317, ho, hm⟩ := obind HL1.out
                        replace HL1 := Lib.hid hm; have HL4 := Lib.hid ho; clear hm ho
                        go_loopg [17, 18] F (fun gg ux320 ux321 wr => ∃ (x318 : Bool) (x319 : Int), ux320 = .bool x318 ∧ ux321 = .int .i64 x319 ∧ Hid (Below W314.heap.size W314 wr) ∧ Hid (L3_ChordalRings_L4 F (y221) (y311) gg x318 x319 = some o317))
                        case atStart => exact ⟨true, 0, rfl, rfl, (Lib.hid (Below.refl _ _)), HL4⟩
                        case round =>
                          obtain ⟨x318, x319, rfl, rfl, HW4, HL4⟩ := hrel
                          rename World => W322
                          have hd := HW4.out
                          replace HOA := Lib.hid (HOA.out.below hd)
                          replace HD := Lib.hid (HD.out.trans (hd.mono HD.out.size))
                          clear hd
                          cases gk with
                          | zero => exact absurd ((L3_ChordalRings_L4_0 ..).symm.trans HL4.out) (by intro h; cases h)
                          | succ g4 =>
                            replace HL4 := Lib.hid ((L3_ChordalRings_L4_s ..).symm.trans HL4.out)
                            by_cases hc323 : x319 < ((y221).length : Int)
                            · replace HL4 := Lib.hid (ifT hc323 HL4.out)
                              have HK324 := Lib.hid hc323
                              try go_wp2_with fail
                              try clear hc323
                              obtain ⟨b325, hb, hm⟩ := obind HL4.out
                              replace HL4 := Lib.hid hm; have HB326 := Lib.hid hb; clear hm hb
                              cases x318
                              · replace HB326 := Lib.hid (ifF Bool.false_ne_true HB326.out)
                                obtain rfl := Option.some.inj HB326.out
                                go_quiet (fail)
                                generalize hW : World.drewN W322 _ = W327
                                have hd : Dr W322 W327 := ⟨_, hW.symm⟩
                                clear hW
                                replace HOA := Lib.hid (HOA.out.below (hd.below _))
                                replace HD := Lib.hid (HD.out.trans ((hd.below _).mono HD.out.size))
                                replace HW4 := Lib.hid (HW4.out.trans ((hd.below _).mono HW4.out.size))
                                clear hd
                                go_wp2_with fail
                                go_roundg g4
                                case measure => omega
                                case rel => exact ⟨false, (wrap64 (x319 + 1)), rfl, rfl, HW4, HL4⟩
                              · replace HB326 := Lib.hid (ifT rfl HB326.out)
                                obtain ⟨y328, hy329, hm⟩ := obind HB326.out
                                replace HB326 := Lib.hid hm; clear hm
                                obtain ⟨b330, o331, ea332, _, f333, f334, f335⟩ := ReadsI.ix (HP.rd_I HOA.out (List.Mem.tail _ (List.Mem.tail _ (List.Mem.head _)))) hy329
                                cases ea332
                                try simp only [Nat.zero_add, Nat.add_zero, Int.toNat_natCast, Int.toNat_zero, Int.toNat_one] at f335
                                have f334n := f334; try norm_cast at f334n
                                try rw [← HP.len_I HOA.out (List.Mem.tail _ (List.Mem.tail _ (List.Mem.head _)))] at f334
                                have HY337 := Lib.hid hy329; clear hy329
                                obtain ⟨A340, cap341, he, _⟩ := HP.open_R HOA.out (List.Mem.head _)
                                subst he
                                obtain ⟨y338, hy339, hm⟩ := obind HB326.out
                                replace HB326 := Lib.hid hm; clear hm
                                obtain ⟨b342, o343, A349, cap350, ea344, _, f345, f346, f347, hrr⟩ := ReadsR.ix (HP.rd_R HOA.out (List.Mem.head _)) hy339
                                cases ea344
                                try simp only [Nat.zero_add, Nat.add_zero, Int.toNat_natCast, Int.toNat_zero, Int.toNat_one] at f347
                                have HR351 := Lib.hid hrr; clear hrr
                                try rw [← HP.len_R HOA.out (List.Mem.head _)] at f346
                                have HY352 := Lib.hid hy339; clear hy339
                                obtain ⟨y353, hy354, hm⟩ := obind HB326.out
                                replace HB326 := Lib.hid hm; clear hm
                                obtain ⟨b355, o356, ea357, _, f358, f359, f360⟩ := ReadsI.ix (HP.rd_I HOA.out (List.Mem.tail _ (List.Mem.tail _ (List.Mem.head _)))) hy354
                                cases ea357
                                try simp only [Nat.zero_add, Nat.add_zero, Int.toNat_natCast, Int.toNat_zero, Int.toNat_one] at f360
                                try rw [← HP.len_I HOA.out (List.Mem.tail _ (List.Mem.tail _ (List.Mem.head _)))] at f359
                                have HY362 := Lib.hid hy354; clear hy354
                                obtain ⟨y363, hy364, hm⟩ := obind HB326.out
                                replace HB326 := Lib.hid hm; clear hm
                                obtain ⟨b365, o366, ea367, _, f368, f369, f370⟩ := ReadsI.ix HR351.out hy364
                                cases ea367
                                try simp only [Nat.zero_add, Nat.add_zero, Int.toNat_natCast, Int.toNat_zero, Int.toNat_one] at f370
                                have HY372 := Lib.hid hy364; clear hy364
                                by_cases hc373 : 0 ≤ y363
                                · replace HB326 := Lib.hid (ifT hc373 HB326.out)
                                  have HK374 := Lib.hid hc373
                                  obtain rfl := Option.some.inj HB326.out
                                  go_quiet (fail)
                                  generalize hW : World.drewN W322 _ = W375
                                  have hd : Dr W322 W375 := ⟨_, hW.symm⟩
                                  clear hW
                                  try clear f333 f334 f335 f334n f345 f346 f347 f358 f359 f360 f368 f369 f370 hc373
                                  replace HOA := Lib.hid (HOA.out.below (hd.below _))
                                  replace HR351 := Lib.hid (rdI (hd.below _) HR351.out)
                                  replace HD := Lib.hid (HD.out.trans ((hd.below _).mono HD.out.size))
                                  replace HW4 := Lib.hid (HW4.out.trans ((hd.below _).mono HW4.out.size))
                                  clear hd
                                  go_wp2_with fail
                                  go_roundg g4
                                  case measure => omega
                                  case rel => exact ⟨true, (wrap64 (x319 + 1)), rfl, rfl, HW4, HL4⟩
                                · replace HB326 := Lib.hid (ifF hc373 HB326.out)
                                  have hc373d := decide_eq_false hc373
                                  have HK374 := Lib.hid hc373
                                  obtain rfl := Option.some.inj HB326.out
                                  go_quiet (fail)
                                  generalize hW : World.drewN W322 _ = W376
                                  have hd : Dr W322 W376 := ⟨_, hW.symm⟩
                                  clear hW
                                  try clear f333 f334 f335 f334n f345 f346 f347 f358 f359 f360 f368 f369 f370 hc373 hc373d
                                  replace HOA := Lib.hid (HOA.out.below (hd.below _))
                                  replace HR351 := Lib.hid (rdI (hd.below _) HR351.out)
                                  replace HD := Lib.hid (HD.out.trans ((hd.below _).mono HD.out.size))
                                  replace HW4 := Lib.hid (HW4.out.trans ((hd.below _).mono HW4.out.size))
                                  clear hd
                                  go_wp2_with fail
                                  go_roundg g4
                                  case measure => omega
                                  case rel => exact ⟨false, (wrap64 (x319 + 1)), rfl, rfl, HW4, HL4⟩
                            · replace HL4 := Lib.hid (ifF hc323 HL4.out)
                              have hc323d := decide_eq_false hc323
                              have HK324 := Lib.hid hc323
                              obtain rfl := Option.some.inj HL4.out
                              have hm := HL1.out; try dsimp only at hm
                              replace HL1 := Lib.hid hm; clear hm
                              obtain ⟨b377, hb, hm⟩ := obind HL1.out
                              replace HL1 := Lib.hid hm; have HB378 := Lib.hid hb; clear hm hb
                              cases x209
                              · replace HB378 := Lib.hid (ifF Bool.false_ne_true HB378.out)
                                cases x318
                                · replace HB378 := Lib.hid (ifF Bool.false_ne_true HB378.out)
                                  obtain rfl := Option.some.inj HB378.out
                                  go_wp2_with fail
                                  try clear hc323 hc323d
                                  replace HOA := Lib.hid (HOA.out.sub (.cons _ (.cons _ (.cons _ (.cons₂ _ .slnil)))))
                                  go_roundg g1
                                  case measure => omega
                                  case rel => exact ⟨false, (wrap64 (x210 + 1)), rfl, rfl, HD, HOA, HL1⟩
                                · replace HB378 := Lib.hid (ifT rfl HB378.out)
                                  obtain rfl := Option.some.inj HB378.out
                                  go_wp2_with fail
                                  try clear hc323 hc323d
                                  replace HOA := Lib.hid (HOA.out.sub (.cons _ (.cons _ (.cons _ (.cons₂ _ .slnil)))))
                                  go_roundg g1
                                  case measure => omega
                                  case rel => exact ⟨true, (wrap64 (x210 + 1)), rfl, rfl, HD, HOA, HL1⟩
                              · replace HB378 := Lib.hid (ifT rfl HB378.out)
                                obtain rfl := Option.some.inj HB378.out
                                go_wp2_with fail
                                try clear hc323 hc323d
                                replace HOA := Lib.hid (HOA.out.sub (.cons _ (.cons _ (.cons _ (.cons₂ _ .slnil)))))
                                go_roundg g1
                                case measure => omega
                                case rel => exact ⟨true, (wrap64 (x210 + 1)), rfl, rfl, HD, HOA, HL1⟩
            · replace HL1 := Lib.hid (ifF hc217 HL1.out)
              have hc217d := decide_eq_false hc217
              have HK218 := Lib.hid hc217
              obtain rfl := Option.some.inj HL1.out
              have hm := HM.out; try dsimp only at hm
              replace HM := Lib.hid hm; clear hm
              obtain ⟨b379, hb, hm⟩ := obind HM.out
              replace HM := Lib.hid hm; have HB380 := Lib.hid hb; clear hm hb
              obtain ⟨b381, hb, hm⟩ := obind HB380.out
              replace HB380 := Lib.hid hm; have HB382 := Lib.hid hb; clear hm hb
              replace HB382 := Lib.hid (ifT (bne_iff_ne.2 HZ16.out) HB382.out)
              obtain rfl := Option.some.inj HB382.out
              cases x209
              · replace HB380 := Lib.hid (ifF (by decide) HB380.out)
                obtain rfl := Option.some.inj HB380.out
                obtain rfl := Option.some.inj HM.out
                go_wp2_with fail
                refine HC215.out.mono ?_; rintro e w' ⟨rfl, rfl⟩
                go_wp2_with fail
                go_ret
                exact ⟨(by first | rfl | (refine congrArg (fun b => Ending.returned (Value.bool b)) ?_; first | (exact decide_eq_true (by omega)) | (exact decide_eq_false (by omega)) | (have q := hc217; rw [bne_iff_ne] at q ⊢; omega) | (have q := hc217; rw [bne_eq_false_iff_eq] at q ⊢; omega) | (have q := hc217; rw [beq_iff_eq] at q ⊢; omega) | (have q := hc217; rw [beq_eq_false_iff_ne] at q ⊢; omega) | (have q := hc217d; rw [bne_iff_ne] at q ⊢; omega) | (have q := hc217d; rw [bne_eq_false_iff_eq] at q ⊢; omega) | (have q := hc217d; rw [beq_iff_eq] at q ⊢; omega) | (have q := hc217d; rw [beq_eq_false_iff_ne] at q ⊢; omega))), HD.out⟩
              · replace HB380 := Lib.hid (ifT (by decide) HB380.out)
                replace HB380 := Lib.hid (ifF (fun h => HZ16.out (eq_of_beq h)) HB380.out)
                obtain ⟨y385, hy383, hm⟩ := obind HB380.out
                replace HB380 := Lib.hid hm; clear hm
                have HC384 := mErr_ok W213 (HTC.out.go HD.out)  hy383
                clear hy383
                rw [errV_pos _ HZ16.out] at HC384
                replace HC384 := Lib.hid HC384
                go_wp2_with fail
                refine HC215.out.mono ?_; rintro e w' ⟨rfl, rfl⟩
                go_wp2_with fail
                refine HC384.out.mono ?_; rintro e W386 ⟨rfl, hd⟩
                try clear hc217 hc217d
                replace HOA := Lib.hid (HOA.out.below hd)
                replace HD := Lib.hid (HD.out.trans (hd.mono HD.out.size))
                clear hd
                cases y385
                · replace HB380 := Lib.hid (ifF Bool.false_ne_true HB380.out)
                  obtain rfl := Option.some.inj HB380.out
                  obtain rfl := Option.some.inj HM.out
                  go_wp2_with fail
                  go_ret
                  exact ⟨rfl, HD.out⟩
                · replace HB380 := Lib.hid (ifT rfl HB380.out)
                  obtain rfl := Option.some.inj HB380.out
                  obtain rfl := Option.some.inj HM.out
                  go_wp2_with fail
                  go_ret
                  exact ⟨rfl, HD.out⟩
end Go.Proofs.YtcbalejnkhnppaaDoor
