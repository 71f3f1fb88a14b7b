import Derived.Test.YtabkmceajgpdjaaDoorGR
import Derived.Test.YtabkmceajgpdjaaDoorC2
import Derived.Test.YtabkmceajgpdjaaDoorLd
import Derived.Test.YtabkmceajgpdjaaDoorBSt
import Derived.Test.YtabkmceajgpdjaaDoorErr
set_option linter.all false
set_option maxRecDepth 100000
namespace Go.Proofs.YtabkmceajgpdjaaDoor
open Go.RowKit
def R1_Rising_L2 (F : Nat) (v0 : List Int) (v3 : List Bool) : Nat → (Int) → (Int) → Option (Int × Int)
  | 0, _, _ => none
  | g+1, v5, v6 => if v6 < ((v0).length : Int) then (((ix v3 v6).bind fun y3 => if y3 = true then some false else if v5 < 0 then some true else (ix v0 v6).bind fun y4 => (ix v0 v5).bind fun y5 => if y4 < y5 then some true else some false).bind fun b2 => if b2 = true then R1_Rising_L2 F v0 v3 g (v6) ((wrap64 (v6 + 1))) else R1_Rising_L2 F v0 v3 g (v5) ((wrap64 (v6 + 1)))) else some (v5, v6)
theorem R1_Rising_L2_0 (F : Nat) (v0 : List Int) (v3 : List Bool) (v5 : Int) (v6 : Int) : R1_Rising_L2 F v0 v3 0 v5 v6 = none := by rw [R1_Rising_L2]
theorem R1_Rising_L2_s (F g : Nat) (v0 : List Int) (v3 : List Bool) (v5 : Int) (v6 : Int) : R1_Rising_L2 F v0 v3 (g+1) v5 v6 = (if v6 < ((v0).length : Int) then (((ix v3 v6).bind fun y3 => if y3 = true then some false else if v5 < 0 then some true else (ix v0 v6).bind fun y4 => (ix v0 v5).bind fun y5 => if y4 < y5 then some true else some false).bind fun b2 => if b2 = true then R1_Rising_L2 F v0 v3 g (v6) ((wrap64 (v6 + 1))) else R1_Rising_L2 F v0 v3 g (v5) ((wrap64 (v6 + 1)))) else some (v5, v6)) := by rw [R1_Rising_L2]
def R1_Rising_L1 (F : Nat) (v0 : List Int) : Nat → (List Int) → (List Bool) → (Int) → Option (List Int × List Bool × Int)
  | 0, _, _, _ => none
  | g+1, v2, v3, v4 => if v4 < ((v0).length : Int) then (R1_Rising_L2 F (v0) (v3) F ((-1)) (0)).bind fun o6 => (st v3 o6.1 true).bind fun y7 => (ix v0 o6.1).bind fun y9 => (app v2 y9).bind fun y8 => R1_Rising_L1 F v0 g (y8) (y7) ((wrap64 (v4 + 1))) else some (v2, v3, v4)
theorem R1_Rising_L1_0 (F : Nat) (v0 : List Int) (v2 : List Int) (v3 : List Bool) (v4 : Int) : R1_Rising_L1 F v0 0 v2 v3 v4 = none := by rw [R1_Rising_L1]
theorem R1_Rising_L1_s (F g : Nat) (v0 : List Int) (v2 : List Int) (v3 : List Bool) (v4 : Int) : R1_Rising_L1 F v0 (g+1) v2 v3 v4 = (if v4 < ((v0).length : Int) then (R1_Rising_L2 F (v0) (v3) F ((-1)) (0)).bind fun o6 => (st v3 o6.1 true).bind fun y7 => (ix v0 o6.1).bind fun y9 => (app v2 y9).bind fun y8 => R1_Rising_L1 F v0 g (y8) (y7) ((wrap64 (v4 + 1))) else some (v2, v3, v4)) := by rw [R1_Rising_L1]
def R1_Rising (F : Nat) (v0 : List Int) : Option (List Int) := (mkB ((v0).length : Int)).bind fun y1 => (R1_Rising_L1 F (v0) F ([]) (y1) (0)).bind fun o10 => some (o10.1)
set_option maxRecDepth 100000 in
set_option maxHeartbeats 4000000 in
theorem R1_Rising_ok {F : Nat} {v0 : List Int} {A0 : Option Addr} {r : List Int} (w : World) (cap0 : Nat) (hr0 : ReadsI w w.heap.size A0 v0) (h : R1_Rising F v0 = some r) :
    Calls Tryd.prog 31 #[.slice A0 v0.length cap0] w (PostG (fun v => v) (fun v => owI v r) w.heap.size w) := by
  have HR0 := Lib.hid hr0; clear hr0
  have HD := Lib.hid (Below.refl w.heap.size w)
  have HOA := Lib.hid (HP.nil (W := w) (B := w.heap.size))
  unfold R1_Rising at h
  have HM := Lib.hid h; clear h
  go_enter Tryd.func31, Tryd.ntmps31
  replace HOA := Lib.hid (show HP _ _ (.fl (owI (.slice none 0 0) ([])) :: _) from HOA.out.pushNil _ _)
  obtain ⟨y2, hy3, hm⟩ := obind HM.out
  replace HM := Lib.hid hm; clear hm
  obtain ⟨f4, hy3⟩ := mkB_some hy3
  obtain ⟨N8, hN9⟩ : ∃ N, Int.toNat ((v0).length : Int) = N := ⟨_, rfl⟩
  rw [hN9] at hy3; subst hy3
  have hmk5 := run_makeB f4; simp only [hN9] at hmk5
  have hd : Below w.heap.size w (w.alloc (.cells (Array.replicate N8 (Value.bool false)) 4)) := (Below.refl _ _).alloc (Nat.le_refl _) _
  have ho := mkB_ok w f4; rw [hN9] at ho; clear hN9
  go_upto_region 3 with (refine upon_go ?_; go_simp)
  generalize hW : World.alloc w _ = W6 at *
  clear hW hmk5 f4
  replace HOA := Lib.hid (HOA.out.call hd HD.out.size ho); clear ho
  replace HD := Lib.hid (HD.out.trans (hd.mono HD.out.size))
  clear hd
  go_wp2_with fail
  obtain ⟨o10, ho, hm⟩ := obind HM.out
  replace HM := Lib.hid hm; have HL1 := Lib.hid ho; clear hm ho
  go_loopg [3, 5] F (fun gg ux14 ux15 wr => ∃ (x11 : List Int) (x12 : List Bool) (x13 : Int) (V16 : Value), V16 = ux14 ∧ ux15 = .int .i64 x13 ∧ Hid (Below w.heap.size w wr) ∧ Hid (HP wr w.heap.size [.fl (owB (.slice (some ⟨w.heap.size, 0, none⟩) N8 N8) (x12)), .fl (owI V16 (x11))]) ∧ Hid (R1_Rising_L1 F (v0) gg x11 x12 x13 = some o10))
  case atStart => exact ⟨[], (List.replicate N8 false), 0, (.slice none 0 0), rfl, rfl, HD, HOA, HL1⟩
  case round =>
    obtain ⟨x11, x12, x13, V16, rfl, rfl, HD, HOA, HL1⟩ := hrel
    rename World => W17
    cases gk with
    | zero => exact absurd ((R1_Rising_L1_0 ..).symm.trans HL1.out) (by intro h; cases h)
    | succ g1 =>
      replace HL1 := Lib.hid ((R1_Rising_L1_s ..).symm.trans HL1.out)
      by_cases hc18 : x13 < ((v0).length : Int)
      · replace HL1 := Lib.hid (ifT hc18 HL1.out)
        have HK19 := Lib.hid hc18
        go_wp2_with fail
        try clear hc18
        obtain ⟨o20, ho, hm⟩ := obind HL1.out
        replace HL1 := Lib.hid hm; have HL2 := Lib.hid ho; clear hm ho
        go_loopg [6, 7] F (fun gg ux23 ux24 wr => ∃ (x21 : Int) (x22 : Int), ux23 = .int .i64 x21 ∧ ux24 = .int .i64 x22 ∧ Hid (Below W17.heap.size W17 wr) ∧ Hid (R1_Rising_L2 F (v0) (x12) gg x21 x22 = some o20))
        case atStart => exact ⟨(-1), 0, rfl, rfl, (Lib.hid (Below.refl _ _)), HL2⟩
        case round =>
          obtain ⟨x21, x22, rfl, rfl, HW2, HL2⟩ := hrel
          rename World => W25
          have hd := HW2.out
          replace HOA := Lib.hid (HOA.out.below hd)
          replace HD := Lib.hid (HD.out.trans (hd.mono HD.out.size))
          clear hd
          cases gk with
          | zero => exact absurd ((R1_Rising_L2_0 ..).symm.trans HL2.out) (by intro h; cases h)
          | succ g2 =>
            replace HL2 := Lib.hid ((R1_Rising_L2_s ..).symm.trans HL2.out)
            by_cases hc26 : x22 < ((v0).length : Int)
            · replace HL2 := Lib.hid (ifT hc26 HL2.out)
              have HK27 := Lib.hid hc26
              try go_wp2_with fail
              try clear hc26
              obtain ⟨b28, hb, hm⟩ := obind HL2.out
              replace HL2 := Lib.hid hm; have HB29 := Lib.hid hb; clear hm hb
              obtain ⟨y30, hy31, hm⟩ := obind HB29.out
              replace HB29 := Lib.hid hm; clear hm
              obtain ⟨b32, o33, ea34, _, f35, f36, f37⟩ := ReadsB.ix (HP.rd_B HOA.out (List.Mem.head _)) hy31
              cases ea34
              try simp only [Nat.zero_add, Nat.add_zero, Int.toNat_natCast, Int.toNat_zero, Int.toNat_one] at f37
              try rw [← HP.len_B HOA.out (List.Mem.head _)] at f36
              have HY39 := Lib.hid hy31; clear hy31
              cases y30
              · replace HB29 := Lib.hid (ifF Bool.false_ne_true HB29.out)
                by_cases hc40 : x21 < 0
                · replace HB29 := Lib.hid (ifT hc40 HB29.out)
                  have HK41 := Lib.hid hc40
                  obtain rfl := Option.some.inj HB29.out
                  replace HL2 := Lib.hid (ifT (by first | rfl | trivial) HL2.out)
                  go_quiet (fail)
                  generalize hW : World.drewN W25 _ = W42
                  have hd : Dr W25 W42 := ⟨_, hW.symm⟩
                  clear hW
                  try clear f35 f36 f37 hc40
                  replace HOA := Lib.hid (HOA.out.below (hd.below _))
                  replace HD := Lib.hid (HD.out.trans ((hd.below _).mono HD.out.size))
                  replace HW2 := Lib.hid (HW2.out.trans ((hd.below _).mono HW2.out.size))
                  clear hd
                  go_wp2_with fail
                  go_roundg g2
                  case measure => omega
                  case rel => exact ⟨x22, (wrap64 (x22 + 1)), rfl, rfl, HW2, HL2⟩
                · replace HB29 := Lib.hid (ifF hc40 HB29.out)
                  have hc40d := decide_eq_false hc40
                  have HK41 := Lib.hid hc40
                  obtain ⟨y43, hy44, hm⟩ := obind HB29.out
                  replace HB29 := Lib.hid hm; clear hm
                  obtain ⟨b45, o46, ea47, _, f48, f49, f50⟩ := ReadsI.ix (rdI HD.out HR0.out) hy44
                  cases ea47
                  try simp only [Nat.zero_add, Nat.add_zero, Int.toNat_natCast, Int.toNat_zero, Int.toNat_one] at f50
                  have HY52 := Lib.hid hy44; clear hy44
                  obtain ⟨y53, hy54, hm⟩ := obind HB29.out
                  replace HB29 := Lib.hid hm; clear hm
                  obtain ⟨b55, o56, ea57, _, f58, f59, f60⟩ := ReadsI.ix (rdI HD.out HR0.out) hy54
                  cases ea57
                  try simp only [Nat.zero_add, Nat.add_zero, Int.toNat_natCast, Int.toNat_zero, Int.toNat_one] at f60
                  have HY62 := Lib.hid hy54; clear hy54
                  by_cases hc63 : y43 < y53
                  · replace HB29 := Lib.hid (ifT hc63 HB29.out)
                    have HK64 := Lib.hid hc63
                    obtain rfl := Option.some.inj HB29.out
                    replace HL2 := Lib.hid (ifT (by first | rfl | trivial) HL2.out)
                    go_quiet (fail)
                    generalize hW : World.drewN W25 _ = W65
                    have hd : Dr W25 W65 := ⟨_, hW.symm⟩
                    clear hW
                    try clear f35 f36 f37 hc40 hc40d f48 f49 f50 f58 f59 f60 hc63
                    replace HOA := Lib.hid (HOA.out.below (hd.below _))
                    replace HD := Lib.hid (HD.out.trans ((hd.below _).mono HD.out.size))
                    replace HW2 := Lib.hid (HW2.out.trans ((hd.below _).mono HW2.out.size))
                    clear hd
                    go_wp2_with fail
                    go_roundg g2
                    case measure => omega
                    case rel => exact ⟨x22, (wrap64 (x22 + 1)), rfl, rfl, HW2, HL2⟩
                  · replace HB29 := Lib.hid (ifF hc63 HB29.out)
                    have hc63d := decide_eq_false hc63
                    have HK64 := Lib.hid hc63
                    obtain rfl := Option.some.inj HB29.out
                    replace HL2 := Lib.hid (ifF (by first | exact Bool.false_ne_true | exact not_false) HL2.out)
                    go_quiet (fail)
                    generalize hW : World.drewN W25 _ = W66
                    have hd : Dr W25 W66 := ⟨_, hW.symm⟩
                    clear hW
                    try clear f35 f36 f37 hc40 hc40d f48 f49 f50 f58 f59 f60 hc63 hc63d
                    replace HOA := Lib.hid (HOA.out.below (hd.below _))
                    replace HD := Lib.hid (HD.out.trans ((hd.below _).mono HD.out.size))
                    replace HW2 := Lib.hid (HW2.out.trans ((hd.below _).mono HW2.out.size))
                    clear hd
                    go_wp2_with fail
                    go_roundg g2
                    case measure => omega
                    case rel => exact ⟨x21, (wrap64 (x22 + 1)), rfl, rfl, HW2, HL2⟩
              · replace HB29 := Lib.hid (ifT rfl HB29.out)
                obtain rfl := Option.some.inj HB29.out
                replace HL2 := Lib.hid (ifF (by first | exact Bool.false_ne_true | exact not_false) HL2.out)
                go_quiet (fail)
                generalize hW : World.drewN W25 _ = W67
                have hd : Dr W25 W67 := ⟨_, hW.symm⟩
                clear hW
                try clear f35 f36 f37
                replace HOA := Lib.hid (HOA.out.below (hd.below _))
                replace HD := Lib.hid (HD.out.trans ((hd.below _).mono HD.out.size))
                replace HW2 := Lib.hid (HW2.out.trans ((hd.below _).mono HW2.out.size))
                clear hd
                go_wp2_with fail
                go_roundg g2
                case measure => omega
                case rel => exact ⟨x21, (wrap64 (x22 + 1)), rfl, rfl, HW2, HL2⟩
            · replace HL2 := Lib.hid (ifF hc26 HL2.out)
              have hc26d := decide_eq_false hc26
              have HK27 := Lib.hid hc26
              obtain rfl := Option.some.inj HL2.out
              have hm := HL1.out; try dsimp only at hm
              replace HL1 := Lib.hid hm; clear hm
              obtain ⟨y70, hy69, hm⟩ := obind HL1.out
              replace HL1 := Lib.hid hm; clear hm
              obtain ⟨f71, hy69⟩ := st_some hy69; subst hy69
              obtain ⟨g77, ea, f74, ⟨ux76, f75⟩, hp, hb⟩ := HP.setB (x := true) (its1 := []) HOA.out f71
              cases ea
              obtain ⟨q0, q1⟩ := f71
              try rw [← HP.len_B HOA.out (List.Mem.head _)] at q1
              have HP_ := Lib.hid hp; have HB_ := Lib.hid hb; clear hp hb
              go_upto_region 13 with (fail)
              have hp := HP_.out; have hb := HB_.out; clear HP_ HB_
              generalize hW : World.setCell W25 _ _ = W68 at *
              clear hW
              try clear f74 f75 q0 q1 hc26 hc26d
              replace HOA := Lib.hid (show HP W68 w.heap.size [.fl (owB (.slice (some ⟨w.heap.size, 0, none⟩) N8 N8) ((List.set x12 (Int.toNat x21) true))), .fl (owI V16 (x11))] from hp); clear hp
              replace HD := Lib.hid (HD.out.trans hb); clear hb
              obtain ⟨y81, hy82, hm⟩ := obind HL1.out
              replace HL1 := Lib.hid hm; clear hm
              obtain ⟨b83, o84, ea85, _, f86, f87, f88⟩ := ReadsI.ix (rdI HD.out HR0.out) hy82
              cases ea85
              try simp only [Nat.zero_add, Nat.add_zero, Int.toNat_natCast, Int.toNat_zero, Int.toNat_one] at f88
              have HY90 := Lib.hid hy82; clear hy82
              obtain ⟨y91, hy92, hm⟩ := obind HL1.out
              replace HL1 := Lib.hid hm; clear hm
              obtain ⟨f93, hy92⟩ := app_some hy92; subst hy92
              have HF96 := Lib.hid f93; clear f93
              go_upto_region 5 with (at_builtin; refine hp_appI _ (.tmp 47) (.tmp 52) 23 Tryd.underlying23 rfl rfl (L1 := [_]) HOA.out rfl rfl HF96.out HD.out.size ?_; intro V94 W95 hoa hd)
              try clear f86 f87 f88
              replace HOA := Lib.hid (show HP W95 w.heap.size [.fl (owB (.slice (some ⟨w.heap.size, 0, none⟩) N8 N8) ((List.set x12 (Int.toNat x21) true))), .fl (owI V94 ((x11 ++ [y81])))] from hoa); clear hoa
              replace HD := Lib.hid (HD.out.trans hd); clear hd
              go_wp2_with fail
              go_roundg g1
              case measure => omega
              case rel => exact ⟨(x11 ++ [y81]), (List.set x12 (Int.toNat x21) true), (wrap64 (x13 + 1)), V94, rfl, rfl, HD, HOA, HL1⟩
      · replace HL1 := Lib.hid (ifF hc18 HL1.out)
        have hc18d := decide_eq_false hc18
        have HK19 := Lib.hid hc18
        obtain rfl := Option.some.inj HL1.out
        have hm := HM.out; try dsimp only at hm
        replace HM := Lib.hid hm; clear hm
        obtain rfl := Option.some.inj HM.out
        go_wp2_with fail
        try clear hc18 hc18d
        go_ret
        exact ⟨_, rfl, HOA.out.get (List.Mem.tail _ (List.Mem.head _)), HD.out⟩
def R3_Scored_L1 (F : Nat) (rec : (List Int) → Option (Bool)) (v2 : List Int) (v3 : Int) : Nat → (List Int) → (Int) → Option (List Int × Int)
  | 0, _, _ => none
  | g+1, v4, v5 => if v5 < (wrap64 (((v2).length : Int) - 1)) then (if v5 < v3 then (ix v2 v5).bind fun y5 => (app v4 y5).bind fun y4 => R3_Scored_L1 F rec v2 v3 g (y4) ((wrap64 (v5 + 1))) else (ix v2 v5).bind fun y7 => (app v4 (wrap64 (y7 - 1))).bind fun y6 => R3_Scored_L1 F rec v2 v3 g (y6) ((wrap64 (v5 + 1)))) else some (v4, v5)
theorem R3_Scored_L1_0 (F : Nat) (rec : (List Int) → Option (Bool)) (v2 : List Int) (v3 : Int) (v4 : List Int) (v5 : Int) : R3_Scored_L1 F rec v2 v3 0 v4 v5 = none := by rw [R3_Scored_L1]
theorem R3_Scored_L1_s (F g : Nat) (rec : (List Int) → Option (Bool)) (v2 : List Int) (v3 : Int) (v4 : List Int) (v5 : Int) : R3_Scored_L1 F rec v2 v3 (g+1) v4 v5 = (if v5 < (wrap64 (((v2).length : Int) - 1)) then (if v5 < v3 then (ix v2 v5).bind fun y5 => (app v4 y5).bind fun y4 => R3_Scored_L1 F rec v2 v3 g (y4) ((wrap64 (v5 + 1))) else (ix v2 v5).bind fun y7 => (app v4 (wrap64 (y7 - 1))).bind fun y6 => R3_Scored_L1 F rec v2 v3 g (y6) ((wrap64 (v5 + 1)))) else some (v4, v5)) := by rw [R3_Scored_L1]
def R3_Scored (F : Nat) : Nat → (List Int) → Option (Bool)
  | 0, _ => none
  | d+1, v0 => (if (((v0).length : Int) == 0) = true then some (true) else (R1_Rising F (v0)).bind fun y1 => (ix y1 (wrap64 (((y1).length : Int) - 1))).bind fun y2 => ((if y2 < 0 then some true else if (wrap64 (((y1).length : Int) - 1)) < y2 then some true else some false).bind fun b3 => if b3 = true then some (false) else (R3_Scored_L1 F (R3_Scored F d) (y1) (y2) F ([]) (0)).bind fun o8 => ((R3_Scored F d) (o8.1)).bind fun y9 => some (y9)))
theorem R3_Scored_s (F d : Nat) (v0 : List Int) : R3_Scored F (d+1) v0 = ((if (((v0).length : Int) == 0) = true then some (true) else (R1_Rising F (v0)).bind fun y1 => (ix y1 (wrap64 (((y1).length : Int) - 1))).bind fun y2 => ((if y2 < 0 then some true else if (wrap64 (((y1).length : Int) - 1)) < y2 then some true else some false).bind fun b3 => if b3 = true then some (false) else (R3_Scored_L1 F (R3_Scored F d) (y1) (y2) F ([]) (0)).bind fun o8 => ((R3_Scored F d) (o8.1)).bind fun y9 => some (y9)))) := by rw [R3_Scored]
theorem R3_Scored_0 (F : Nat) (v0 : List Int) : R3_Scored F 0 v0 = none := by rw [R3_Scored]
set_option maxRecDepth 100000 in
set_option maxHeartbeats 4000000 in
theorem R3_Scored_ok {F : Nat} : ∀ (d : Nat) {v0 : List Int} {A0 : Option Addr} {r : Bool} (w : World) (cap0 : Nat) (hr0 : ReadsI w w.heap.size A0 v0) (h : R3_Scored F d v0 = some r),
    Calls Tryd.prog 14 #[.slice A0 v0.length cap0] w fun e w' => e = .returned (.bool r) ∧ Below w.heap.size w w' := by
  intro d
  induction d with
  | zero =>
    intro v0 A0 r w cap0 hr0 h
    rw [R3_Scored_0] at h; cases h
  | succ d ih =>
    intro v0 A0 r w cap0 hr0 h
    have HR0 := Lib.hid hr0; clear hr0
    have HD := Lib.hid (Below.refl w.heap.size w)
    have HOA := Lib.hid (HP.nil (W := w) (B := w.heap.size))
    rw [R3_Scored_s] at h
    have HM := Lib.hid h; clear h
    go_enter Tryd.func14, Tryd.ntmps14
    rcases Bool.eq_false_or_eq_true (((v0).length : Int) == 0) with hc1 | hc1
    · replace HM := Lib.hid (ifT hc1 HM.out)
      have HK2 := Lib.hid hc1
      obtain rfl := Option.some.inj HM.out
      go_wp2_with fail
      go_ret
      exact ⟨(by first | rfl | (refine congrArg (fun b => Ending.returned (Value.bool b)) ?_; first | (exact decide_eq_true (by omega)) | (exact decide_eq_false (by omega)) | (have q := hc1; rw [bne_iff_ne] at q ⊢; omega) | (have q := hc1; rw [bne_eq_false_iff_eq] at q ⊢; omega) | (have q := hc1; rw [beq_iff_eq] at q ⊢; omega) | (have q := hc1; rw [beq_eq_false_iff_ne] at q ⊢; omega))), HD.out⟩
    · replace HM := Lib.hid (ifF (bF hc1) HM.out)
      have HK2 := Lib.hid hc1
      obtain ⟨y5, hy3, hm⟩ := obind HM.out
      replace HM := Lib.hid hm; clear hm
      have HC4 := R1_Rising_ok w cap0 (rdI HD.out HR0.out) hy3
      clear hy3
      replace HC4 := Lib.hid HC4
      go_wp2_with fail
      refine HC4.out.mono ?_; rintro e W6 ⟨V7, rfl, ho, hd⟩
      try clear hc1
      replace HOA := Lib.hid (HOA.out.call hd HD.out.size ho); clear ho
      replace HD := Lib.hid (HD.out.trans (hd.mono HD.out.size))
      clear hd
      obtain ⟨A9, cap10, he, _⟩ := HP.open_I HOA.out (List.Mem.head _)
      subst he
      obtain ⟨y11, hy12, hm⟩ := obind HM.out
      replace HM := Lib.hid hm; clear hm
      obtain ⟨b13, o14, ea15, _, f16, f17, f18⟩ := ReadsI.ix (HP.rd_I HOA.out (List.Mem.head _)) hy12
      cases ea15
      try simp only [Nat.zero_add, Nat.add_zero, Int.toNat_natCast, Int.toNat_zero, Int.toNat_one] at f18
      try rw [← HP.len_I HOA.out (List.Mem.head _)] at f17
      have HY20 := Lib.hid hy12; clear hy12
      go_upto_region 5 with (fail)
      try clear f16 f17 f18
      obtain ⟨b21, hb, hm⟩ := obind HM.out
      replace HM := Lib.hid hm; have HB22 := Lib.hid hb; clear hm hb
      go_cut [26] (fun uq wr => uq = .bool b21 ∧ Hid (Below W6.heap.size W6 wr))
      case first =>
        have HWC23 := Lib.hid (Below.refl W6.heap.size W6)
        by_cases hc24 : y11 < 0
        · replace HB22 := Lib.hid (ifT hc24 HB22.out)
          have HK25 := Lib.hid hc24
          cases Option.some.inj HB22.out
          try go_wp2_with fail
          go_meet
          case rel => exact ⟨rfl, HWC23⟩
        · replace HB22 := Lib.hid (ifF hc24 HB22.out)
          have hc24d := decide_eq_false hc24
          have HK25 := Lib.hid hc24
          by_cases hc26 : (wrap64 (((y5).length : Int) - 1)) < y11
          · replace HB22 := Lib.hid (ifT hc26 HB22.out)
            have HK27 := Lib.hid hc26
            cases Option.some.inj HB22.out
            try go_wp2_with fail
            go_meet
            case rel => exact ⟨rfl, HWC23⟩
          · replace HB22 := Lib.hid (ifF hc26 HB22.out)
            have hc26d := decide_eq_false hc26
            have HK27 := Lib.hid hc26
            cases Option.some.inj HB22.out
            try go_wp2_with fail
            go_meet
            case rel => exact ⟨rfl, HWC23⟩
      case rest =>
        as_aux_lemma =>
          obtain ⟨rfl, HWC23⟩ := hcut
          rename World => W28
          have hd := HWC23.out
          replace HOA := Lib.hid (HOA.out.below hd)
          replace HD := Lib.hid (HD.out.trans (hd.mono HD.out.size))
          clear hd
          cases b21
          · replace HM := Lib.hid (ifF Bool.false_ne_true HM.out)
            replace HOA := Lib.hid (show HP _ _ (.fl (owI (.slice none 0 0) ([])) :: _) from HOA.out.pushNil _ _)
            go_wp2_with fail
            obtain ⟨o30, ho, hm⟩ := obind HM.out
            replace HM := Lib.hid hm; have HL1 := Lib.hid ho; clear hm ho
            go_loopg [5, 6] F (fun gg ux33 ux34 wr => ∃ (x31 : List Int) (x32 : Int) (V35 : Value), V35 = ux33 ∧ ux34 = .int .i64 x32 ∧ Hid (Below w.heap.size w wr) ∧ Hid (HP wr w.heap.size [.fl (owI V35 (x31)), .fl (owI (.slice (some ⟨b13, o14, none⟩) (y5).length cap10) (y5))]) ∧ Hid (R3_Scored_L1 F (R3_Scored F d) (y5) (y11) gg x31 x32 = some o30))
            case atStart => exact ⟨[], 0, (.slice none 0 0), rfl, rfl, HD, HOA, HL1⟩
            case round =>
              obtain ⟨x31, x32, V35, rfl, rfl, HD, HOA, HL1⟩ := hrel
              rename World => W36
              cases gk with
              | zero => exact absurd ((R3_Scored_L1_0 ..).symm.trans HL1.out) (by intro h; cases h)
              | succ g1 =>
                replace HL1 := Lib.hid ((R3_Scored_L1_s ..).symm.trans HL1.out)
                by_cases hc37 : x32 < (wrap64 (((y5).length : Int) - 1))
                · replace HL1 := Lib.hid (ifT hc37 HL1.out)
                  have HK38 := Lib.hid hc37
                  by_cases hc39 : x32 < y11
                  · replace HL1 := Lib.hid (ifT hc39 HL1.out)
                    have HK40 := Lib.hid hc39
                    obtain ⟨y41, hy42, hm⟩ := obind HL1.out
                    replace HL1 := Lib.hid hm; clear hm
                    obtain ⟨b43, o44, ea45, _, f46, f47, f48⟩ := ReadsI.ix (HP.rd_I HOA.out (List.Mem.tail _ (List.Mem.head _))) hy42
                    cases ea45
                    try simp only [Nat.zero_add, Nat.add_zero, Int.toNat_natCast, Int.toNat_zero, Int.toNat_one] at f48
                    try rw [← HP.len_I HOA.out (List.Mem.tail _ (List.Mem.head _))] at f47
                    have HY50 := Lib.hid hy42; clear hy42
                    obtain ⟨y51, hy52, hm⟩ := obind HL1.out
                    replace HL1 := Lib.hid hm; clear hm
                    obtain ⟨f53, hy52⟩ := app_some hy52; subst hy52
                    have HF56 := Lib.hid f53; clear f53
                    go_upto_region 10 with (at_builtin; refine hp_appI _ (.tmp 37) (.tmp 42) 23 Tryd.underlying23 rfl rfl (L1 := []) HOA.out rfl rfl HF56.out HD.out.size ?_; intro V54 W55 hoa hd)
                    try clear hc37 hc39 f46 f47 f48
                    replace HOA := Lib.hid (show HP W55 w.heap.size [.fl (owI V54 ((x31 ++ [y41]))), .fl (owI (.slice (some ⟨b13, o14, none⟩) (y5).length cap10) (y5))] from hoa); clear hoa
                    replace HD := Lib.hid (HD.out.trans hd); clear hd
                    go_wp2_with fail
                    go_roundg g1
                    case measure => omega
                    case rel => exact ⟨(x31 ++ [y41]), (wrap64 (x32 + 1)), V54, rfl, rfl, HD, HOA, HL1⟩
                  · replace HL1 := Lib.hid (ifF hc39 HL1.out)
                    have hc39d := decide_eq_false hc39
                    have HK40 := Lib.hid hc39
                    obtain ⟨y57, hy58, hm⟩ := obind HL1.out
                    replace HL1 := Lib.hid hm; clear hm
                    obtain ⟨b59, o60, ea61, _, f62, f63, f64⟩ := ReadsI.ix (HP.rd_I HOA.out (List.Mem.tail _ (List.Mem.head _))) hy58
                    cases ea61
                    try simp only [Nat.zero_add, Nat.add_zero, Int.toNat_natCast, Int.toNat_zero, Int.toNat_one] at f64
                    try rw [← HP.len_I HOA.out (List.Mem.tail _ (List.Mem.head _))] at f63
                    have HY66 := Lib.hid hy58; clear hy58
                    obtain ⟨y67, hy68, hm⟩ := obind HL1.out
                    replace HL1 := Lib.hid hm; clear hm
                    obtain ⟨f69, hy68⟩ := app_some hy68; subst hy68
                    have HF72 := Lib.hid f69; clear f69
                    go_upto_region 10 with (at_builtin; refine hp_appI _ (.tmp 44) (.tmp 50) 23 Tryd.underlying23 rfl rfl (L1 := []) HOA.out rfl rfl HF72.out HD.out.size ?_; intro V70 W71 hoa hd)
                    try clear hc37 hc39 hc39d f62 f63 f64
                    replace HOA := Lib.hid (show HP W71 w.heap.size [.fl (owI V70 ((x31 ++ [(wrap64 (y57 - 1))]))), .fl (owI (.slice (some ⟨b13, o14, none⟩) (y5).length cap10) (y5))] from hoa); clear hoa
                    replace HD := Lib.hid (HD.out.trans hd); clear hd
                    go_wp2_with fail
                    go_roundg g1
                    case measure => omega
                    case rel => exact ⟨(x31 ++ [(wrap64 (y57 - 1))]), (wrap64 (x32 + 1)), V70, rfl, rfl, HD, HOA, HL1⟩
                · replace HL1 := Lib.hid (ifF hc37 HL1.out)
                  have hc37d := decide_eq_false hc37
                  have HK38 := Lib.hid hc37
                  obtain rfl := Option.some.inj HL1.out
                  have hm := HM.out; try dsimp only at hm
                  replace HM := Lib.hid hm; clear hm
                  obtain ⟨y75, hy73, hm⟩ := obind HM.out
                  replace HM := Lib.hid hm; clear hm
                  obtain ⟨A76, cap77, he, _⟩ := HP.open_I HOA.out (List.Mem.head _)
                  subst he
                  have HC74 := ih W36 cap77 (HP.rd_I HOA.out (List.Mem.head _)) hy73
                  clear hy73
                  replace HC74 := Lib.hid HC74
                  go_wp2_with fail
                  refine HC74.out.mono ?_; rintro e W78 ⟨rfl, hd⟩
                  try clear hc37 hc37d
                  replace HOA := Lib.hid (HOA.out.below hd)
                  replace HD := Lib.hid (HD.out.trans (hd.mono HD.out.size))
                  clear hd
                  obtain rfl := Option.some.inj HM.out
                  go_wp2_with fail
                  go_ret
                  exact ⟨rfl, HD.out⟩
          · replace HM := Lib.hid (ifT rfl HM.out)
            obtain rfl := Option.some.inj HM.out
            go_wp2_with fail
            go_ret
            exact ⟨rfl, HD.out⟩
def L4_TournSays_L3 (F : Nat) (v0 : Int) (v1 : List (Int × Int)) (v9 : Int) (v12 : Int) : Nat → (Bool) → (Int) → Option (Bool × Int)
  | 0, _, _ => none
  | g+1, v13, v14 => if v14 < v0 then (if v13 = true then some true else (R1_Goes F (v1) (v9) (v14)).bind fun y9 => if y9 = true then (R1_Goes F (v1) (v14) (v12)).bind fun y10 => if y10 = true then some true else some false else some false).bind fun b8 => L4_TournSays_L3 F v0 v1 v9 v12 g (b8) ((wrap64 (v14 + 1))) else some (v13, v14)
theorem L4_TournSays_L3_0 (F : Nat) (v0 : Int) (v1 : List (Int × Int)) (v9 : Int) (v12 : Int) (v13 : Bool) (v14 : Int) : L4_TournSays_L3 F v0 v1 v9 v12 0 v13 v14 = none := by rw [L4_TournSays_L3]
theorem L4_TournSays_L3_s (F g : Nat) (v0 : Int) (v1 : List (Int × Int)) (v9 : Int) (v12 : Int) (v13 : Bool) (v14 : Int) : L4_TournSays_L3 F v0 v1 v9 v12 (g+1) v13 v14 = (if v14 < v0 then (if v13 = true then some true else (R1_Goes F (v1) (v9) (v14)).bind fun y9 => if y9 = true then (R1_Goes F (v1) (v14) (v12)).bind fun y10 => if y10 = true then some true else some false else some false).bind fun b8 => L4_TournSays_L3 F v0 v1 v9 v12 g (b8) ((wrap64 (v14 + 1))) else some (v13, v14)) := by rw [L4_TournSays_L3]
def L4_TournSays_L2 (F : Nat) (v0 : Int) (v1 : List (Int × Int)) (v9 : Int) : Nat → (Int) → (Bool) → (Int) → Option (Int × Bool × Int)
  | 0, _, _, _ => none
  | g+1, v10, v11, v12 => if v12 < v0 then ((R1_Goes F (v1) (v9) (v12)).bind fun y5 => if y5 = true then (if (v9 == v12) = true then some true else (R1_Goes F (v1) (v9) (v12)).bind fun y7 => if y7 = true then some true else some false).bind fun b6 => (L4_TournSays_L3 F (v0) (v1) (v9) (v12) F (b6) (0)).bind fun o11 => (if v11 = true then if o11.1 = true then some true else some false else some false).bind fun b12 => L4_TournSays_L2 F v0 v1 v9 g ((wrap64 (v10 + 1))) (b12) ((wrap64 (v12 + 1))) else (if (v9 == v12) = true then some true else (R1_Goes F (v1) (v9) (v12)).bind fun y14 => if y14 = true then some true else some false).bind fun b13 => (L4_TournSays_L3 F (v0) (v1) (v9) (v12) F (b13) (0)).bind fun o15 => (if v11 = true then if o15.1 = true then some true else some false else some false).bind fun b16 => L4_TournSays_L2 F v0 v1 v9 g (v10) (b16) ((wrap64 (v12 + 1)))) else some (v10, v11, v12)
theorem L4_TournSays_L2_0 (F : Nat) (v0 : Int) (v1 : List (Int × Int)) (v9 : Int) (v10 : Int) (v11 : Bool) (v12 : Int) : L4_TournSays_L2 F v0 v1 v9 0 v10 v11 v12 = none := by rw [L4_TournSays_L2]
theorem L4_TournSays_L2_s (F g : Nat) (v0 : Int) (v1 : List (Int × Int)) (v9 : Int) (v10 : Int) (v11 : Bool) (v12 : Int) : L4_TournSays_L2 F v0 v1 v9 (g+1) v10 v11 v12 = (if v12 < v0 then ((R1_Goes F (v1) (v9) (v12)).bind fun y5 => if y5 = true then (if (v9 == v12) = true then some true else (R1_Goes F (v1) (v9) (v12)).bind fun y7 => if y7 = true then some true else some false).bind fun b6 => (L4_TournSays_L3 F (v0) (v1) (v9) (v12) F (b6) (0)).bind fun o11 => (if v11 = true then if o11.1 = true then some true else some false else some false).bind fun b12 => L4_TournSays_L2 F v0 v1 v9 g ((wrap64 (v10 + 1))) (b12) ((wrap64 (v12 + 1))) else (if (v9 == v12) = true then some true else (R1_Goes F (v1) (v9) (v12)).bind fun y14 => if y14 = true then some true else some false).bind fun b13 => (L4_TournSays_L3 F (v0) (v1) (v9) (v12) F (b13) (0)).bind fun o15 => (if v11 = true then if o15.1 = true then some true else some false else some false).bind fun b16 => L4_TournSays_L2 F v0 v1 v9 g (v10) (b16) ((wrap64 (v12 + 1)))) else some (v10, v11, v12)) := by rw [L4_TournSays_L2]
def L4_TournSays_L4 (F : Nat) (v1 : List (Int × Int)) (v7 : List Int) (v9 : Int) : Nat → (Int) → Option (Int)
  | 0, _ => none
  | g+1, v15 => (if v15 < ((v7).length : Int) then (ix v7 v15).bind fun y21 => (R1_Goes F (v1) (v9) (y21)).bind fun y22 => if y22 = true then some false else some true else some false).bind fun b20 => if b20 = true then L4_TournSays_L4 F v1 v7 v9 g ((wrap64 (v15 + 1))) else some (v15)
theorem L4_TournSays_L4_0 (F : Nat) (v1 : List (Int × Int)) (v7 : List Int) (v9 : Int) (v15 : Int) : L4_TournSays_L4 F v1 v7 v9 0 v15 = none := by rw [L4_TournSays_L4]
theorem L4_TournSays_L4_s (F g : Nat) (v1 : List (Int × Int)) (v7 : List Int) (v9 : Int) (v15 : Int) : L4_TournSays_L4 F v1 v7 v9 (g+1) v15 = ((if v15 < ((v7).length : Int) then (ix v7 v15).bind fun y21 => (R1_Goes F (v1) (v9) (y21)).bind fun y22 => if y22 = true then some false else some true else some false).bind fun b20 => if b20 = true then L4_TournSays_L4 F v1 v7 v9 g ((wrap64 (v15 + 1))) else some (v15)) := by rw [L4_TournSays_L4]
def L4_TournSays_L1 (F : Nat) (v0 : Int) (v1 : List (Int × Int)) (v4 : Int) : Nat → (List Int) → (List Int) → (List Int) → (Int) → Option (List Int × List Int × List Int × Int)
  | 0, _, _, _, _ => none
  | g+1, v6, v7, v8, v9 => (if v9 < v0 then if (v4 == 0) = true then some true else some false else some false).bind fun b4 => if b4 = true then (L4_TournSays_L2 F (v0) (v1) (v9) F (0) (true) (0)).bind fun o17 => (app v6 o17.1).bind fun y18 => (if o17.2.1 = true then (app v8 v9).bind fun y19 => (L4_TournSays_L4 F (v1) (v7) (v9) F (0)).bind fun o23 => (tk v7 o23).bind fun y25 => (appL [] y25).bind fun y24 => (app y24 v9).bind fun y26 => (dr v7 o23).bind fun y28 => (appL y26 y28).bind fun y27 => L4_TournSays_L1 F v0 v1 v4 g (y18) (y27) (y19) ((wrap64 (v9 + 1))) else (L4_TournSays_L4 F (v1) (v7) (v9) F (0)).bind fun o29 => (tk v7 o29).bind fun y31 => (appL [] y31).bind fun y30 => (app y30 v9).bind fun y32 => (dr v7 o29).bind fun y34 => (appL y32 y34).bind fun y33 => L4_TournSays_L1 F v0 v1 v4 g (y18) (y33) (v8) ((wrap64 (v9 + 1)))) else some (v6, v7, v8, v9)
theorem L4_TournSays_L1_0 (F : Nat) (v0 : Int) (v1 : List (Int × Int)) (v4 : Int) (v6 : List Int) (v7 : List Int) (v8 : List Int) (v9 : Int) : L4_TournSays_L1 F v0 v1 v4 0 v6 v7 v8 v9 = none := by rw [L4_TournSays_L1]
theorem L4_TournSays_L1_s (F g : Nat) (v0 : Int) (v1 : List (Int × Int)) (v4 : Int) (v6 : List Int) (v7 : List Int) (v8 : List Int) (v9 : Int) : L4_TournSays_L1 F v0 v1 v4 (g+1) v6 v7 v8 v9 = ((if v9 < v0 then if (v4 == 0) = true then some true else some false else some false).bind fun b4 => if b4 = true then (L4_TournSays_L2 F (v0) (v1) (v9) F (0) (true) (0)).bind fun o17 => (app v6 o17.1).bind fun y18 => (if o17.2.1 = true then (app v8 v9).bind fun y19 => (L4_TournSays_L4 F (v1) (v7) (v9) F (0)).bind fun o23 => (tk v7 o23).bind fun y25 => (appL [] y25).bind fun y24 => (app y24 v9).bind fun y26 => (dr v7 o23).bind fun y28 => (appL y26 y28).bind fun y27 => L4_TournSays_L1 F v0 v1 v4 g (y18) (y27) (y19) ((wrap64 (v9 + 1))) else (L4_TournSays_L4 F (v1) (v7) (v9) F (0)).bind fun o29 => (tk v7 o29).bind fun y31 => (appL [] y31).bind fun y30 => (app y30 v9).bind fun y32 => (dr v7 o29).bind fun y34 => (appL y32 y34).bind fun y33 => L4_TournSays_L1 F v0 v1 v4 g (y18) (y33) (v8) ((wrap64 (v9 + 1)))) else some (v6, v7, v8, v9)) := by rw [L4_TournSays_L1]
def L4_TournSays (F : Nat) (v0 : Int) (v1 : List (Int × Int)) (v2 : List Int) : Option (Bool) := (R3_Tourn F (v0) (v1)).bind fun y1 => (tourn_Check F (v0) (v1)).bind fun y2 => (mErr (y2) (y1)).bind fun y3 => (L4_TournSays_L1 F (v0) (v1) (y1) F ([]) ([]) ([]) (0)).bind fun o35 => (tourn_Scores F (v0) (v1)).bind fun y36 => ((mErr (y36.2) (y1)).bind fun y38 => if y38 = true then (SE_Ints F (y36.1) (o35.1)).bind fun y39 => if y39 = true then some true else some false else some false).bind fun b37 => (tourn_Row F (v0) (v1)).bind fun y40 => ((mErr (y40.2) (y1)).bind fun y42 => if y42 = true then (SE_Ints F (y40.1) (o35.2.1)).bind fun y43 => if y43 = true then some true else some false else some false).bind fun b41 => (tourn_Kings F (v0) (v1)).bind fun y44 => ((mErr (y44.2) (y1)).bind fun y46 => if y46 = true then (SE_Ints F (y44.1) (o35.2.2.1)).bind fun y47 => if y47 = true then some true else some false else some false).bind fun b45 => (R1_Degrees F (v2)).bind fun y48 => (tourn_Can F (v2)).bind fun y49 => (((((if y3 = true then if b37 = true then some true else some false else some false).bind fun b54 => if b54 = true then if b41 = true then some true else some false else some false).bind fun b53 => if b53 = true then if b45 = true then some true else some false else some false).bind fun b52 => if b52 = true then (mErr (y49.2) (y48)).bind fun y55 => if y55 = true then some true else some false else some false).bind fun b51 => if b51 = true then (if (y48 == 0) = true then (R3_Scored F F (v2)).bind fun y57 => if y57 = true then some true else some false else some false).bind fun b56 => if (y49.1 == b56) = true then some true else some false else some false).bind fun b50 => some (b50)
set_option maxRecDepth 100000 in
set_option maxHeartbeats 4000000 in
theorem L4_TournSays_ok {F : Nat} {v0 : Int} {v1 : List (Int × Int)} {A1 : Option Addr} {v2 : List Int} {A2 : Option Addr} {r : Bool} (w : World) (htc : TyCell w) (cap1 : Nat) (hr1 : ReadsL w w.heap.size A1 v1) (cap2 : Nat) (hr2 : ReadsI w w.heap.size A2 v2) (h : L4_TournSays F v0 v1 v2 = some r) :
    Calls Tryd.prog 3 #[.int .i64 v0, .slice A1 v1.length cap1, .slice A2 v2.length cap2] w fun e w' => e = .returned (.bool r) ∧ Below w.heap.size w w' := by
  have HTC := Lib.hid htc; clear htc
  have HR1 := Lib.hid hr1; clear hr1
  have HR2 := Lib.hid hr2; clear hr2
  have HD := Lib.hid (Below.refl w.heap.size w)
  have HOA := Lib.hid (HP.nil (W := w) (B := w.heap.size))
  unfold L4_TournSays at h
  have HM := Lib.hid h; clear h
  go_enter Tryd.func3, Tryd.ntmps3
  obtain ⟨y3, hy1, hm⟩ := obind HM.out
  replace HM := Lib.hid hm; clear hm
  have HC2 := R3_Tourn_ok w cap1 (rdL HD.out HR1.out) hy1
  clear hy1
  replace HC2 := Lib.hid HC2
  go_wp2_with fail
  refine HC2.out.mono ?_; rintro e W4 ⟨rfl, hd⟩
  replace HOA := Lib.hid (HOA.out.below (hd.below _))
  replace HD := Lib.hid (HD.out.trans ((hd.below _).mono HD.out.size))
  clear hd
  obtain ⟨y7, hy5, hm⟩ := obind HM.out
  replace HM := Lib.hid hm; clear hm
  have HC6 := tourn_Check_ok W4 cap1 (rdL HD.out HR1.out) hy5
  clear hy5
  replace HC6 := Lib.hid HC6
  go_wp2_with fail
  refine HC6.out.mono ?_; rintro e W8 ⟨rfl, hd⟩
  replace HOA := Lib.hid (HOA.out.below hd)
  replace HD := Lib.hid (HD.out.trans (hd.mono HD.out.size))
  clear hd
  obtain ⟨y11, hy9, hm⟩ := obind HM.out
  replace HM := Lib.hid hm; clear hm
  have HC10 := mErr_ok W8 (HTC.out.go HD.out)  hy9
  clear hy9
  replace HC10 := Lib.hid HC10
  go_wp2_with fail
  refine HC10.out.mono ?_; rintro e W12 ⟨rfl, hd⟩
  replace HOA := Lib.hid (HOA.out.below hd)
  replace HD := Lib.hid (HD.out.trans (hd.mono HD.out.size))
  clear hd
  replace HOA := Lib.hid (show HP _ _ (.fl (owI (.slice none 0 0) ([])) :: _) from HOA.out.pushNil _ _)
  replace HOA := Lib.hid (show HP _ _ (.fl (owI (.slice none 0 0) ([])) :: _) from HOA.out.pushNil _ _)
  replace HOA := Lib.hid (show HP _ _ (.fl (owI (.slice none 0 0) ([])) :: _) from HOA.out.pushNil _ _)
  go_wp2_with fail
  obtain ⟨o16, ho, hm⟩ := obind HM.out
  replace HM := Lib.hid hm; have HL1 := Lib.hid ho; clear hm ho
  go_loopg [9, 10, 11, 12] F (fun gg ux21 ux22 ux23 ux24 wr => ∃ (x17 : List Int) (x18 : List Int) (x19 : List Int) (x20 : Int) (V25 : Value) (V26 : Value) (V27 : Value), V25 = ux21 ∧ V26 = ux22 ∧ V27 = ux23 ∧ ux24 = .int .i64 x20 ∧ Hid (Below w.heap.size w wr) ∧ Hid (HP wr w.heap.size [.fl (owI V27 (x19)), .fl (owI V26 (x18)), .fl (owI V25 (x17))]) ∧ Hid (L4_TournSays_L1 F (v0) (v1) (y3) gg x17 x18 x19 x20 = some o16))
  case atStart => exact ⟨[], [], [], 0, (.slice none 0 0), (.slice none 0 0), (.slice none 0 0), rfl, rfl, rfl, rfl, HD, HOA, HL1⟩
  case round =>
    obtain ⟨x17, x18, x19, x20, V25, V26, V27, rfl, rfl, rfl, rfl, HD, HOA, HL1⟩ := hrel
    rename World => W28
    cases gk with
    | zero => exact absurd ((L4_TournSays_L1_0 ..).symm.trans HL1.out) (by intro h; cases h)
    | succ g1 =>
      replace HL1 := Lib.hid ((L4_TournSays_L1_s ..).symm.trans HL1.out)
      obtain ⟨b29, hb, hm⟩ := obind HL1.out
      replace HL1 := Lib.hid hm; have HB30 := Lib.hid hb; clear hm hb
      by_cases hc31 : x20 < v0
      · replace HB30 := Lib.hid (ifT hc31 HB30.out)
        have HK32 := Lib.hid hc31
        rcases Bool.eq_false_or_eq_true (y3 == 0) with hc33 | hc33
        · replace HB30 := Lib.hid (ifT hc33 HB30.out)
          have HK34 := Lib.hid hc33
          obtain rfl := Option.some.inj HB30.out
          replace HL1 := Lib.hid (ifT (by first | rfl | trivial) HL1.out)
          go_wp2_with fail
          try clear hc31 hc33
          obtain ⟨o35, ho, hm⟩ := obind HL1.out
          replace HL1 := Lib.hid hm; have HL2 := Lib.hid ho; clear hm ho
          go_loopg [13, 14, 15] F (fun gg ux39 ux40 ux41 wr => ∃ (x36 : Int) (x37 : Bool) (x38 : Int), ux39 = .int .i64 x36 ∧ ux40 = .bool x37 ∧ ux41 = .int .i64 x38 ∧ Hid (Below W28.heap.size W28 wr) ∧ Hid (L4_TournSays_L2 F (v0) (v1) (x20) gg x36 x37 x38 = some o35))
          case atStart => exact ⟨0, true, 0, rfl, rfl, rfl, (Lib.hid (Below.refl _ _)), HL2⟩
          case round =>
            obtain ⟨x36, x37, x38, rfl, rfl, rfl, HW2, HL2⟩ := hrel
            rename World => W42
            have hd := HW2.out
            replace HOA := Lib.hid (HOA.out.below hd)
            replace HD := Lib.hid (HD.out.trans (hd.mono HD.out.size))
            clear hd
            cases gk with
            | zero => exact absurd ((L4_TournSays_L2_0 ..).symm.trans HL2.out) (by intro h; cases h)
            | succ g2 =>
              replace HL2 := Lib.hid ((L4_TournSays_L2_s ..).symm.trans HL2.out)
              by_cases hc43 : x38 < v0
              · replace HL2 := Lib.hid (ifT hc43 HL2.out)
                have HK44 := Lib.hid hc43
                obtain ⟨y47, hy45, hm⟩ := obind HL2.out
                replace HL2 := Lib.hid hm; clear hm
                have HC46 := R1_Goes_ok W42 cap1 (rdL HD.out HR1.out) hy45
                clear hy45
                replace HC46 := Lib.hid HC46
                cases y47
                · replace HL2 := Lib.hid (ifF Bool.false_ne_true HL2.out)
                  obtain ⟨b48, hb, hm⟩ := obind HL2.out
                  replace HL2 := Lib.hid hm; have HB49 := Lib.hid hb; clear hm hb
                  rcases Bool.eq_false_or_eq_true (x20 == x38) with hc50 | hc50
                  · replace HB49 := Lib.hid (ifT hc50 HB49.out)
                    have HK51 := Lib.hid hc50
                    obtain rfl := Option.some.inj HB49.out
                    go_wp2_with fail
                    refine HC46.out.mono ?_; rintro e w' ⟨rfl, rfl⟩
                    go_wp2_with fail
                    try clear hc43 hc50
                    obtain ⟨o52, ho, hm⟩ := obind HL2.out
                    replace HL2 := Lib.hid hm; have HL3 := Lib.hid ho; clear hm ho
                    go_loopg [16, 17] F (fun gg ux55 ux56 wr => ∃ (x53 : Bool) (x54 : Int), ux55 = .bool x53 ∧ ux56 = .int .i64 x54 ∧ Hid (Below W42.heap.size W42 wr) ∧ Hid (L4_TournSays_L3 F (v0) (v1) (x20) (x38) gg x53 x54 = some o52))
                    case atStart => exact ⟨true, 0, rfl, rfl, (Lib.hid (Below.refl _ _)), HL3⟩
                    case round =>
                      obtain ⟨x53, x54, rfl, rfl, HW3, HL3⟩ := hrel
                      rename World => W57
                      have hd := HW3.out
                      replace HOA := Lib.hid (HOA.out.below hd)
                      replace HD := Lib.hid (HD.out.trans (hd.mono HD.out.size))
                      replace HW2 := Lib.hid (HW2.out.trans (hd.mono HW2.out.size))
                      clear hd
                      cases gk with
                      | zero => exact absurd ((L4_TournSays_L3_0 ..).symm.trans HL3.out) (by intro h; cases h)
                      | succ g3 =>
                        replace HL3 := Lib.hid ((L4_TournSays_L3_s ..).symm.trans HL3.out)
                        by_cases hc58 : x54 < v0
                        · replace HL3 := Lib.hid (ifT hc58 HL3.out)
                          have HK59 := Lib.hid hc58
                          obtain ⟨b60, hb, hm⟩ := obind HL3.out
                          replace HL3 := Lib.hid hm; have HB61 := Lib.hid hb; clear hm hb
                          cases x53
                          · replace HB61 := Lib.hid (ifF Bool.false_ne_true HB61.out)
                            obtain ⟨y64, hy62, hm⟩ := obind HB61.out
                            replace HB61 := Lib.hid hm; clear hm
                            have HC63 := R1_Goes_ok W57 cap1 (rdL HD.out HR1.out) hy62
                            clear hy62
                            replace HC63 := Lib.hid HC63
                            cases y64
                            · replace HB61 := Lib.hid (ifF Bool.false_ne_true HB61.out)
                              obtain rfl := Option.some.inj HB61.out
                              go_wp2_with fail
                              refine HC63.out.mono ?_; rintro e w' ⟨rfl, rfl⟩
                              go_wp2_with fail
                              try clear hc58
                              go_roundg g3
                              case measure => omega
                              case rel => exact ⟨false, (wrap64 (x54 + 1)), rfl, rfl, HW3, HL3⟩
                            · replace HB61 := Lib.hid (ifT rfl HB61.out)
                              obtain ⟨y67, hy65, hm⟩ := obind HB61.out
                              replace HB61 := Lib.hid hm; clear hm
                              have HC66 := R1_Goes_ok W57 cap1 (rdL HD.out HR1.out) hy65
                              clear hy65
                              replace HC66 := Lib.hid HC66
                              cases y67
                              · replace HB61 := Lib.hid (ifF Bool.false_ne_true HB61.out)
                                obtain rfl := Option.some.inj HB61.out
                                go_wp2_with fail
                                refine HC63.out.mono ?_; rintro e w' ⟨rfl, rfl⟩
                                go_wp2_with fail
                                refine HC66.out.mono ?_; rintro e w' ⟨rfl, rfl⟩
                                go_wp2_with fail
                                try clear hc58
                                go_roundg g3
                                case measure => omega
                                case rel => exact ⟨false, (wrap64 (x54 + 1)), rfl, rfl, HW3, HL3⟩
                              · replace HB61 := Lib.hid (ifT rfl HB61.out)
                                obtain rfl := Option.some.inj HB61.out
                                go_wp2_with fail
                                refine HC63.out.mono ?_; rintro e w' ⟨rfl, rfl⟩
                                go_wp2_with fail
                                refine HC66.out.mono ?_; rintro e w' ⟨rfl, rfl⟩
                                go_wp2_with fail
                                try clear hc58
                                go_roundg g3
                                case measure => omega
                                case rel => exact ⟨true, (wrap64 (x54 + 1)), rfl, rfl, HW3, HL3⟩
                          · replace HB61 := Lib.hid (ifT rfl HB61.out)
                            obtain rfl := Option.some.inj HB61.out
                            go_wp2_with fail
                            try clear hc58
                            go_roundg g3
                            case measure => omega
                            case rel => exact ⟨true, (wrap64 (x54 + 1)), rfl, rfl, HW3, HL3⟩
                        · replace HL3 := Lib.hid (ifF hc58 HL3.out)
                          have hc58d := decide_eq_false hc58
                          have HK59 := Lib.hid hc58
                          obtain rfl := Option.some.inj HL3.out
                          have hm := HL2.out; try dsimp only at hm
                          replace HL2 := Lib.hid hm; clear hm
                          obtain ⟨b68, hb, hm⟩ := obind HL2.out
                          replace HL2 := Lib.hid hm; have HB69 := Lib.hid hb; clear hm hb
                          cases x37
                          · replace HB69 := Lib.hid (ifF Bool.false_ne_true HB69.out)
                            obtain rfl := Option.some.inj HB69.out
                            go_wp2_with fail
                            try clear hc58 hc58d
                            go_roundg g2
                            case measure => omega
                            case rel => exact ⟨x36, false, (wrap64 (x38 + 1)), rfl, rfl, rfl, HW2, HL2⟩
                          · replace HB69 := Lib.hid (ifT rfl HB69.out)
                            cases x53
                            · replace HB69 := Lib.hid (ifF Bool.false_ne_true HB69.out)
                              obtain rfl := Option.some.inj HB69.out
                              go_wp2_with fail
                              try clear hc58 hc58d
                              go_roundg g2
                              case measure => omega
                              case rel => exact ⟨x36, false, (wrap64 (x38 + 1)), rfl, rfl, rfl, HW2, HL2⟩
                            · replace HB69 := Lib.hid (ifT rfl HB69.out)
                              obtain rfl := Option.some.inj HB69.out
                              go_wp2_with fail
                              try clear hc58 hc58d
                              go_roundg g2
                              case measure => omega
                              case rel => exact ⟨x36, true, (wrap64 (x38 + 1)), rfl, rfl, rfl, HW2, HL2⟩
                  · replace HB49 := Lib.hid (ifF (bF hc50) HB49.out)
                    have HK51 := Lib.hid hc50
                    obtain ⟨y72, hy70, hm⟩ := obind HB49.out
                    replace HB49 := Lib.hid hm; clear hm
                    have HC71 := R1_Goes_ok W42 cap1 (rdL HD.out HR1.out) hy70
                    clear hy70
                    replace HC71 := Lib.hid HC71
                    cases y72
                    · replace HB49 := Lib.hid (ifF Bool.false_ne_true HB49.out)
                      obtain rfl := Option.some.inj HB49.out
                      go_wp2_with fail
                      refine HC46.out.mono ?_; rintro e w' ⟨rfl, rfl⟩
                      go_wp2_with fail
                      refine HC71.out.mono ?_; rintro e w' ⟨rfl, rfl⟩
                      go_wp2_with fail
                      try clear hc43 hc50
                      obtain ⟨o73, ho, hm⟩ := obind HL2.out
                      replace HL2 := Lib.hid hm; have HL3 := Lib.hid ho; clear hm ho
                      go_loopg [16, 17] F (fun gg ux76 ux77 wr => ∃ (x74 : Bool) (x75 : Int), ux76 = .bool x74 ∧ ux77 = .int .i64 x75 ∧ Hid (Below W42.heap.size W42 wr) ∧ Hid (L4_TournSays_L3 F (v0) (v1) (x20) (x38) gg x74 x75 = some o73))
                      case atStart => exact ⟨false, 0, rfl, rfl, (Lib.hid (Below.refl _ _)), HL3⟩
                      case round =>
                        obtain ⟨x74, x75, rfl, rfl, HW3, HL3⟩ := hrel
                        rename World => W78
                        have hd := HW3.out
                        replace HOA := Lib.hid (HOA.out.below hd)
                        replace HD := Lib.hid (HD.out.trans (hd.mono HD.out.size))
                        replace HW2 := Lib.hid (HW2.out.trans (hd.mono HW2.out.size))
                        clear hd
                        cases gk with
                        | zero => exact absurd ((L4_TournSays_L3_0 ..).symm.trans HL3.out) (by intro h; cases h)
                        | succ g3 =>
                          replace HL3 := Lib.hid ((L4_TournSays_L3_s ..).symm.trans HL3.out)
                          by_cases hc79 : x75 < v0
                          · replace HL3 := Lib.hid (ifT hc79 HL3.out)
                            have HK80 := Lib.hid hc79
                            obtain ⟨b81, hb, hm⟩ := obind HL3.out
                            replace HL3 := Lib.hid hm; have HB82 := Lib.hid hb; clear hm hb
                            cases x74
                            · replace HB82 := Lib.hid (ifF Bool.false_ne_true HB82.out)
                              obtain ⟨y85, hy83, hm⟩ := obind HB82.out
                              replace HB82 := Lib.hid hm; clear hm
                              have HC84 := R1_Goes_ok W78 cap1 (rdL HD.out HR1.out) hy83
                              clear hy83
                              replace HC84 := Lib.hid HC84
                              cases y85
                              · replace HB82 := Lib.hid (ifF Bool.false_ne_true HB82.out)
                                obtain rfl := Option.some.inj HB82.out
                                go_wp2_with fail
                                refine HC84.out.mono ?_; rintro e w' ⟨rfl, rfl⟩
                                go_wp2_with fail
                                try clear hc79
                                go_roundg g3
                                case measure => omega
                                case rel => exact ⟨false, (wrap64 (x75 + 1)), rfl, rfl, HW3, HL3⟩
                              · replace HB82 := Lib.hid (ifT rfl HB82.out)
                                obtain ⟨y88, hy86, hm⟩ := obind HB82.out
                                replace HB82 := Lib.hid hm; clear hm
                                have HC87 := R1_Goes_ok W78 cap1 (rdL HD.out HR1.out) hy86
                                clear hy86
                                replace HC87 := Lib.hid HC87
                                cases y88
                                · replace HB82 := Lib.hid (ifF Bool.false_ne_true HB82.out)
                                  obtain rfl := Option.some.inj HB82.out
                                  go_wp2_with fail
                                  refine HC84.out.mono ?_; rintro e w' ⟨rfl, rfl⟩
                                  go_wp2_with fail
                                  refine HC87.out.mono ?_; rintro e w' ⟨rfl, rfl⟩
                                  go_wp2_with fail
                                  try clear hc79
                                  go_roundg g3
                                  case measure => omega
                                  case rel => exact ⟨false, (wrap64 (x75 + 1)), rfl, rfl, HW3, HL3⟩
                                · replace HB82 := Lib.hid (ifT rfl HB82.out)
                                  obtain rfl := Option.some.inj HB82.out
                                  go_wp2_with fail
                                  refine HC84.out.mono ?_; rintro e w' ⟨rfl, rfl⟩
                                  go_wp2_with fail
                                  refine HC87.out.mono ?_; rintro e w' ⟨rfl, rfl⟩
                                  go_wp2_with fail
                                  try clear hc79
                                  go_roundg g3
                                  case measure => omega
                                  case rel => exact ⟨true, (wrap64 (x75 + 1)), rfl, rfl, HW3, HL3⟩
                            · replace HB82 := Lib.hid (ifT rfl HB82.out)
                              obtain rfl := Option.some.inj HB82.out
                              go_wp2_with fail
                              try clear hc79
                              go_roundg g3
                              case measure => omega
                              case rel => exact ⟨true, (wrap64 (x75 + 1)), rfl, rfl, HW3, HL3⟩
                          · replace HL3 := Lib.hid (ifF hc79 HL3.out)
                            have hc79d := decide_eq_false hc79
                            have HK80 := Lib.hid hc79
                            obtain rfl := Option.some.inj HL3.out
                            have hm := HL2.out; try dsimp only at hm
                            replace HL2 := Lib.hid hm; clear hm
                            obtain ⟨b89, hb, hm⟩ := obind HL2.out
                            replace HL2 := Lib.hid hm; have HB90 := Lib.hid hb; clear hm hb
                            cases x37
                            · replace HB90 := Lib.hid (ifF Bool.false_ne_true HB90.out)
                              obtain rfl := Option.some.inj HB90.out
                              go_wp2_with fail
                              try clear hc79 hc79d
                              go_roundg g2
                              case measure => omega
                              case rel => exact ⟨x36, false, (wrap64 (x38 + 1)), rfl, rfl, rfl, HW2, HL2⟩
                            · replace HB90 := Lib.hid (ifT rfl HB90.out)
                              cases x74
                              · replace HB90 := Lib.hid (ifF Bool.false_ne_true HB90.out)
                                obtain rfl := Option.some.inj HB90.out
                                go_wp2_with fail
                                try clear hc79 hc79d
                                go_roundg g2
                                case measure => omega
                                case rel => exact ⟨x36, false, (wrap64 (x38 + 1)), rfl, rfl, rfl, HW2, HL2⟩
                              · replace HB90 := Lib.hid (ifT rfl HB90.out)
                                obtain rfl := Option.some.inj HB90.out
                                go_wp2_with fail
                                try clear hc79 hc79d
                                go_roundg g2
                                case measure => omega
                                case rel => exact ⟨x36, true, (wrap64 (x38 + 1)), rfl, rfl, rfl, HW2, HL2⟩
                    · replace HB49 := Lib.hid (ifT rfl HB49.out)
                      obtain rfl := Option.some.inj HB49.out
                      go_wp2_with fail
                      refine HC46.out.mono ?_; rintro e w' ⟨rfl, rfl⟩
                      go_wp2_with fail
                      refine HC71.out.mono ?_; rintro e w' ⟨rfl, rfl⟩
                      go_wp2_with fail
                      try clear hc43 hc50
                      obtain ⟨o91, ho, hm⟩ := obind HL2.out
                      replace HL2 := Lib.hid hm; have HL3 := Lib.hid ho; clear hm ho
                      go_loopg [16, 17] F (fun gg ux94 ux95 wr => ∃ (x92 : Bool) (x93 : Int), ux94 = .bool x92 ∧ ux95 = .int .i64 x93 ∧ Hid (Below W42.heap.size W42 wr) ∧ Hid (L4_TournSays_L3 F (v0) (v1) (x20) (x38) gg x92 x93 = some o91))
                      case atStart => exact ⟨true, 0, rfl, rfl, (Lib.hid (Below.refl _ _)), HL3⟩
                      case round =>
                        obtain ⟨x92, x93, rfl, rfl, HW3, HL3⟩ := hrel
                        rename World => W96
                        have hd := HW3.out
                        replace HOA := Lib.hid (HOA.out.below hd)
                        replace HD := Lib.hid (HD.out.trans (hd.mono HD.out.size))
                        replace HW2 := Lib.hid (HW2.out.trans (hd.mono HW2.out.size))
                        clear hd
                        cases gk with
                        | zero => exact absurd ((L4_TournSays_L3_0 ..).symm.trans HL3.out) (by intro h; cases h)
                        | succ g3 =>
                          replace HL3 := Lib.hid ((L4_TournSays_L3_s ..).symm.trans HL3.out)
                          by_cases hc97 : x93 < v0
                          · replace HL3 := Lib.hid (ifT hc97 HL3.out)
                            have HK98 := Lib.hid hc97
                            obtain ⟨b99, hb, hm⟩ := obind HL3.out
                            replace HL3 := Lib.hid hm; have HB100 := Lib.hid hb; clear hm hb
                            cases x92
                            · replace HB100 := Lib.hid (ifF Bool.false_ne_true HB100.out)
                              obtain ⟨y103, hy101, hm⟩ := obind HB100.out
                              replace HB100 := Lib.hid hm; clear hm
                              have HC102 := R1_Goes_ok W96 cap1 (rdL HD.out HR1.out) hy101
                              clear hy101
                              replace HC102 := Lib.hid HC102
                              cases y103
                              · replace HB100 := Lib.hid (ifF Bool.false_ne_true HB100.out)
                                obtain rfl := Option.some.inj HB100.out
                                go_wp2_with fail
                                refine HC102.out.mono ?_; rintro e w' ⟨rfl, rfl⟩
                                go_wp2_with fail
                                try clear hc97
                                go_roundg g3
                                case measure => omega
                                case rel => exact ⟨false, (wrap64 (x93 + 1)), rfl, rfl, HW3, HL3⟩
                              · replace HB100 := Lib.hid (ifT rfl HB100.out)
                                obtain ⟨y106, hy104, hm⟩ := obind HB100.out
                                replace HB100 := Lib.hid hm; clear hm
                                have HC105 := R1_Goes_ok W96 cap1 (rdL HD.out HR1.out) hy104
                                clear hy104
                                replace HC105 := Lib.hid HC105
                                cases y106
                                · replace HB100 := Lib.hid (ifF Bool.false_ne_true HB100.out)
                                  obtain rfl := Option.some.inj HB100.out
                                  go_wp2_with fail
                                  refine HC102.out.mono ?_; rintro e w' ⟨rfl, rfl⟩
                                  go_wp2_with fail
                                  refine HC105.out.mono ?_; rintro e w' ⟨rfl, rfl⟩
                                  go_wp2_with fail
                                  try clear hc97
                                  go_roundg g3
                                  case measure => omega
                                  case rel => exact ⟨false, (wrap64 (x93 + 1)), rfl, rfl, HW3, HL3⟩
                                · replace HB100 := Lib.hid (ifT rfl HB100.out)
                                  obtain rfl := Option.some.inj HB100.out
                                  go_wp2_with fail
                                  refine HC102.out.mono ?_; rintro e w' ⟨rfl, rfl⟩
                                  go_wp2_with fail
                                  refine HC105.out.mono ?_; rintro e w' ⟨rfl, rfl⟩
                                  go_wp2_with fail
                                  try clear hc97
                                  go_roundg g3
                                  case measure => omega
                                  case rel => exact ⟨true, (wrap64 (x93 + 1)), rfl, rfl, HW3, HL3⟩
                            · replace HB100 := Lib.hid (ifT rfl HB100.out)
                              obtain rfl := Option.some.inj HB100.out
                              go_wp2_with fail
                              try clear hc97
                              go_roundg g3
                              case measure => omega
                              case rel => exact ⟨true, (wrap64 (x93 + 1)), rfl, rfl, HW3, HL3⟩
                          · replace HL3 := Lib.hid (ifF hc97 HL3.out)
                            have hc97d := decide_eq_false hc97
                            have HK98 := Lib.hid hc97
                            obtain rfl := Option.some.inj HL3.out
                            have hm := HL2.out; try dsimp only at hm
                            replace HL2 := Lib.hid hm; clear hm
                            obtain ⟨b107, hb, hm⟩ := obind HL2.out
                            replace HL2 := Lib.hid hm; have HB108 := Lib.hid hb; clear hm hb
                            cases x37
                            · replace HB108 := Lib.hid (ifF Bool.false_ne_true HB108.out)
                              obtain rfl := Option.some.inj HB108.out
                              go_wp2_with fail
                              try clear hc97 hc97d
                              go_roundg g2
                              case measure => omega
                              case rel => exact ⟨x36, false, (wrap64 (x38 + 1)), rfl, rfl, rfl, HW2, HL2⟩
                            · replace HB108 := Lib.hid (ifT rfl HB108.out)
                              cases x92
                              · replace HB108 := Lib.hid (ifF Bool.false_ne_true HB108.out)
                                obtain rfl := Option.some.inj HB108.out
                                go_wp2_with fail
                                try clear hc97 hc97d
                                go_roundg g2
                                case measure => omega
                                case rel => exact ⟨x36, false, (wrap64 (x38 + 1)), rfl, rfl, rfl, HW2, HL2⟩
                              · replace HB108 := Lib.hid (ifT rfl HB108.out)
                                obtain rfl := Option.some.inj HB108.out
                                go_wp2_with fail
                                try clear hc97 hc97d
                                go_roundg g2
                                case measure => omega
                                case rel => exact ⟨x36, true, (wrap64 (x38 + 1)), rfl, rfl, rfl, HW2, HL2⟩
                · replace HL2 := Lib.hid (ifT rfl HL2.out)
                  obtain ⟨b109, hb, hm⟩ := obind HL2.out
                  replace HL2 := Lib.hid hm; have HB110 := Lib.hid hb; clear hm hb
                  rcases Bool.eq_false_or_eq_true (x20 == x38) with hc111 | hc111
                  · replace HB110 := Lib.hid (ifT hc111 HB110.out)
                    have HK112 := Lib.hid hc111
                    obtain rfl := Option.some.inj HB110.out
                    go_wp2_with fail
                    refine HC46.out.mono ?_; rintro e w' ⟨rfl, rfl⟩
                    go_wp2_with fail
                    try clear hc43 hc111
                    obtain ⟨o113, ho, hm⟩ := obind HL2.out
                    replace HL2 := Lib.hid hm; have HL3 := Lib.hid ho; clear hm ho
                    go_loopg [16, 17] F (fun gg ux116 ux117 wr => ∃ (x114 : Bool) (x115 : Int), ux116 = .bool x114 ∧ ux117 = .int .i64 x115 ∧ Hid (Below W42.heap.size W42 wr) ∧ Hid (L4_TournSays_L3 F (v0) (v1) (x20) (x38) gg x114 x115 = some o113))
                    case atStart => exact ⟨true, 0, rfl, rfl, (Lib.hid (Below.refl _ _)), HL3⟩
                    case round =>
                      obtain ⟨x114, x115, rfl, rfl, HW3, HL3⟩ := hrel
                      rename World => W118
                      have hd := HW3.out
                      replace HOA := Lib.hid (HOA.out.below hd)
                      replace HD := Lib.hid (HD.out.trans (hd.mono HD.out.size))
                      replace HW2 := Lib.hid (HW2.out.trans (hd.mono HW2.out.size))
                      clear hd
                      cases gk with
                      | zero => exact absurd ((L4_TournSays_L3_0 ..).symm.trans HL3.out) (by intro h; cases h)
                      | succ g3 =>
                        replace HL3 := Lib.hid ((L4_TournSays_L3_s ..).symm.trans HL3.out)
                        by_cases hc119 : x115 < v0
                        · replace HL3 := Lib.hid (ifT hc119 HL3.out)
                          have HK120 := Lib.hid hc119
                          obtain ⟨b121, hb, hm⟩ := obind HL3.out
                          replace HL3 := Lib.hid hm; have HB122 := Lib.hid hb; clear hm hb
                          cases x114
                          · replace HB122 := Lib.hid (ifF Bool.false_ne_true HB122.out)
                            obtain ⟨y125, hy123, hm⟩ := obind HB122.out
                            replace HB122 := Lib.hid hm; clear hm
                            have HC124 := R1_Goes_ok W118 cap1 (rdL HD.out HR1.out) hy123
                            clear hy123
                            replace HC124 := Lib.hid HC124
                            cases y125
                            · replace HB122 := Lib.hid (ifF Bool.false_ne_true HB122.out)
                              obtain rfl := Option.some.inj HB122.out
                              go_wp2_with fail
                              refine HC124.out.mono ?_; rintro e w' ⟨rfl, rfl⟩
                              go_wp2_with fail
                              try clear hc119
                              go_roundg g3
                              case measure => omega
                              case rel => exact ⟨false, (wrap64 (x115 + 1)), rfl, rfl, HW3, HL3⟩
                            · replace HB122 := Lib.hid (ifT rfl HB122.out)
                              obtain ⟨y128, hy126, hm⟩ := obind HB122.out
                              replace HB122 := Lib.hid hm; clear hm
                              have HC127 := R1_Goes_ok W118 cap1 (rdL HD.out HR1.out) hy126
                              clear hy126
                              replace HC127 := Lib.hid HC127
                              cases y128
                              · replace HB122 := Lib.hid (ifF Bool.false_ne_true HB122.out)
                                obtain rfl := Option.some.inj HB122.out
                                go_wp2_with fail
                                refine HC124.out.mono ?_; rintro e w' ⟨rfl, rfl⟩
                                go_wp2_with fail
                                refine HC127.out.mono ?_; rintro e w' ⟨rfl, rfl⟩
                                go_wp2_with fail
                                try clear hc119
                                go_roundg g3
                                case measure => omega
                                case rel => exact ⟨false, (wrap64 (x115 + 1)), rfl, rfl, HW3, HL3⟩
                              · replace HB122 := Lib.hid (ifT rfl HB122.out)
                                obtain rfl := Option.some.inj HB122.out
                                go_wp2_with fail
                                refine HC124.out.mono ?_; rintro e w' ⟨rfl, rfl⟩
                                go_wp2_with fail
                                refine HC127.out.mono ?_; rintro e w' ⟨rfl, rfl⟩
                                go_wp2_with fail
                                try clear hc119
                                go_roundg g3
                                case measure => omega
                                case rel => exact ⟨true, (wrap64 (x115 + 1)), rfl, rfl, HW3, HL3⟩
                          · replace HB122 := Lib.hid (ifT rfl HB122.out)
                            obtain rfl := Option.some.inj HB122.out
                            go_wp2_with fail
                            try clear hc119
                            go_roundg g3
                            case measure => omega
                            case rel => exact ⟨true, (wrap64 (x115 + 1)), rfl, rfl, HW3, HL3⟩
                        · replace HL3 := Lib.hid (ifF hc119 HL3.out)
                          have hc119d := decide_eq_false hc119
                          have HK120 := Lib.hid hc119
                          obtain rfl := Option.some.inj HL3.out
                          have hm := HL2.out; try dsimp only at hm
                          replace HL2 := Lib.hid hm; clear hm
                          obtain ⟨b129, hb, hm⟩ := obind HL2.out
                          replace HL2 := Lib.hid hm; have HB130 := Lib.hid hb; clear hm hb
                          cases x37
                          · replace HB130 := Lib.hid (ifF Bool.false_ne_true HB130.out)
                            obtain rfl := Option.some.inj HB130.out
                            go_wp2_with fail
                            try clear hc119 hc119d
                            go_roundg g2
                            case measure => omega
                            case rel => exact ⟨(wrap64 (x36 + 1)), false, (wrap64 (x38 + 1)), rfl, rfl, rfl, HW2, HL2⟩
                          · replace HB130 := Lib.hid (ifT rfl HB130.out)
                            cases x114
                            · replace HB130 := Lib.hid (ifF Bool.false_ne_true HB130.out)
                              obtain rfl := Option.some.inj HB130.out
                              go_wp2_with fail
                              try clear hc119 hc119d
                              go_roundg g2
                              case measure => omega
                              case rel => exact ⟨(wrap64 (x36 + 1)), false, (wrap64 (x38 + 1)), rfl, rfl, rfl, HW2, HL2⟩
                            · replace HB130 := Lib.hid (ifT rfl HB130.out)
                              obtain rfl := Option.some.inj HB130.out
                              go_wp2_with fail
                              try clear hc119 hc119d
                              go_roundg g2
                              case measure => omega
                              case rel => exact ⟨(wrap64 (x36 + 1)), true, (wrap64 (x38 + 1)), rfl, rfl, rfl, HW2, HL2⟩
                  · replace HB110 := Lib.hid (ifF (bF hc111) HB110.out)
                    have HK112 := Lib.hid hc111
                    obtain ⟨y133, hy131, hm⟩ := obind HB110.out
                    replace HB110 := Lib.hid hm; clear hm
                    have HC132 := R1_Goes_ok W42 cap1 (rdL HD.out HR1.out) hy131
                    clear hy131
                    replace HC132 := Lib.hid HC132
                    cases y133
                    · replace HB110 := Lib.hid (ifF Bool.false_ne_true HB110.out)
                      obtain rfl := Option.some.inj HB110.out
                      go_wp2_with fail
                      refine HC46.out.mono ?_; rintro e w' ⟨rfl, rfl⟩
                      go_wp2_with fail
                      refine HC132.out.mono ?_; rintro e w' ⟨rfl, rfl⟩
                      go_wp2_with fail
                      try clear hc43 hc111
                      obtain ⟨o134, ho, hm⟩ := obind HL2.out
                      replace HL2 := Lib.hid hm; have HL3 := Lib.hid ho; clear hm ho
                      go_loopg [16, 17] F (fun gg ux137 ux138 wr => ∃ (x135 : Bool) (x136 : Int), ux137 = .bool x135 ∧ ux138 = .int .i64 x136 ∧ Hid (Below W42.heap.size W42 wr) ∧ Hid (L4_TournSays_L3 F (v0) (v1) (x20) (x38) gg x135 x136 = some o134))
                      case atStart => exact ⟨false, 0, rfl, rfl, (Lib.hid (Below.refl _ _)), HL3⟩
                      case round =>
                        obtain ⟨x135, x136, rfl, rfl, HW3, HL3⟩ := hrel
                        rename World => W139
                        have hd := HW3.out
                        replace HOA := Lib.hid (HOA.out.below hd)
                        replace HD := Lib.hid (HD.out.trans (hd.mono HD.out.size))
                        replace HW2 := Lib.hid (HW2.out.trans (hd.mono HW2.out.size))
                        clear hd
                        cases gk with
                        | zero => exact absurd ((L4_TournSays_L3_0 ..).symm.trans HL3.out) (by intro h; cases h)
                        | succ g3 =>
                          replace HL3 := Lib.hid ((L4_TournSays_L3_s ..).symm.trans HL3.out)
                          by_cases hc140 : x136 < v0
                          · replace HL3 := Lib.hid (ifT hc140 HL3.out)
                            have HK141 := Lib.hid hc140
                            obtain ⟨b142, hb, hm⟩ := obind HL3.out
                            replace HL3 := Lib.hid hm; have HB143 := Lib.hid hb; clear hm hb
                            cases x135
                            · replace HB143 := Lib.hid (ifF Bool.false_ne_true HB143.out)
                              obtain ⟨y146, hy144, hm⟩ := obind HB143.out
                              replace HB143 := Lib.hid hm; clear hm
                              have HC145 := R1_Goes_ok W139 cap1 (rdL HD.out HR1.out) hy144
                              clear hy144
                              replace HC145 := Lib.hid HC145
                              cases y146
                              · replace HB143 := Lib.hid (ifF Bool.false_ne_true HB143.out)
                                obtain rfl := Option.some.inj HB143.out
                                go_wp2_with fail
                                refine HC145.out.mono ?_; rintro e w' ⟨rfl, rfl⟩
                                go_wp2_with fail
                                try clear hc140
                                go_roundg g3
                                case measure => omega
                                case rel => exact ⟨false, (wrap64 (x136 + 1)), rfl, rfl, HW3, HL3⟩
                              · replace HB143 := Lib.hid (ifT rfl HB143.out)
                                obtain ⟨y149, hy147, hm⟩ := obind HB143.out
                                replace HB143 := Lib.hid hm; clear hm
                                have HC148 := R1_Goes_ok W139 cap1 (rdL HD.out HR1.out) hy147
                                clear hy147
                                replace HC148 := Lib.hid HC148
                                cases y149
                                · replace HB143 := Lib.hid (ifF Bool.false_ne_true HB143.out)
                                  obtain rfl := Option.some.inj HB143.out
                                  go_wp2_with fail
                                  refine HC145.out.mono ?_; rintro e w' ⟨rfl, rfl⟩
                                  go_wp2_with fail
                                  refine HC148.out.mono ?_; rintro e w' ⟨rfl, rfl⟩
                                  go_wp2_with fail
                                  try clear hc140
                                  go_roundg g3
                                  case measure => omega
                                  case rel => exact ⟨false, (wrap64 (x136 + 1)), rfl, rfl, HW3, HL3⟩
                                · replace HB143 := Lib.hid (ifT rfl HB143.out)
                                  obtain rfl := Option.some.inj HB143.out
                                  go_wp2_with fail
                                  refine HC145.out.mono ?_; rintro e w' ⟨rfl, rfl⟩
                                  go_wp2_with fail
                                  refine HC148.out.mono ?_; rintro e w' ⟨rfl, rfl⟩
                                  go_wp2_with fail
                                  try clear hc140
                                  go_roundg g3
                                  case measure => omega
                                  case rel => exact ⟨true, (wrap64 (x136 + 1)), rfl, rfl, HW3, HL3⟩
                            · replace HB143 := Lib.hid (ifT rfl HB143.out)
                              obtain rfl := Option.some.inj HB143.out
                              go_wp2_with fail
                              try clear hc140
                              go_roundg g3
                              case measure => omega
                              case rel => exact ⟨true, (wrap64 (x136 + 1)), rfl, rfl, HW3, HL3⟩
                          · replace HL3 := Lib.hid (ifF hc140 HL3.out)
                            have hc140d := decide_eq_false hc140
                            have HK141 := Lib.hid hc140
                            obtain rfl := Option.some.inj HL3.out
                            have hm := HL2.out; try dsimp only at hm
                            replace HL2 := Lib.hid hm; clear hm
                            obtain ⟨b150, hb, hm⟩ := obind HL2.out
                            replace HL2 := Lib.hid hm; have HB151 := Lib.hid hb; clear hm hb
                            cases x37
                            · replace HB151 := Lib.hid (ifF Bool.false_ne_true HB151.out)
                              obtain rfl := Option.some.inj HB151.out
                              go_wp2_with fail
                              try clear hc140 hc140d
                              go_roundg g2
                              case measure => omega
                              case rel => exact ⟨(wrap64 (x36 + 1)), false, (wrap64 (x38 + 1)), rfl, rfl, rfl, HW2, HL2⟩
                            · replace HB151 := Lib.hid (ifT rfl HB151.out)
                              cases x135
                              · replace HB151 := Lib.hid (ifF Bool.false_ne_true HB151.out)
                                obtain rfl := Option.some.inj HB151.out
                                go_wp2_with fail
                                try clear hc140 hc140d
                                go_roundg g2
                                case measure => omega
                                case rel => exact ⟨(wrap64 (x36 + 1)), false, (wrap64 (x38 + 1)), rfl, rfl, rfl, HW2, HL2⟩
                              · replace HB151 := Lib.hid (ifT rfl HB151.out)
                                obtain rfl := Option.some.inj HB151.out
                                go_wp2_with fail
                                try clear hc140 hc140d
                                go_roundg g2
                                case measure => omega
                                case rel => exact ⟨(wrap64 (x36 + 1)), true, (wrap64 (x38 + 1)), rfl, rfl, rfl, HW2, HL2⟩
                    · replace HB110 := Lib.hid (ifT rfl HB110.out)
                      obtain rfl := Option.some.inj HB110.out
                      go_wp2_with fail
                      refine HC46.out.mono ?_; rintro e w' ⟨rfl, rfl⟩
                      go_wp2_with fail
                      refine HC132.out.mono ?_; rintro e w' ⟨rfl, rfl⟩
                      go_wp2_with fail
                      try clear hc43 hc111
                      obtain ⟨o152, ho, hm⟩ := obind HL2.out
                      replace HL2 := Lib.hid hm; have HL3 := Lib.hid ho; clear hm ho
                      go_loopg [16, 17] F (fun gg ux155 ux156 wr => ∃ (x153 : Bool) (x154 : Int), ux155 = .bool x153 ∧ ux156 = .int .i64 x154 ∧ Hid (Below W42.heap.size W42 wr) ∧ Hid (L4_TournSays_L3 F (v0) (v1) (x20) (x38) gg x153 x154 = some o152))
                      case atStart => exact ⟨true, 0, rfl, rfl, (Lib.hid (Below.refl _ _)), HL3⟩
                      case round =>
                        obtain ⟨x153, x154, rfl, rfl, HW3, HL3⟩ := hrel
                        rename World => W157
                        have hd := HW3.out
                        replace HOA := Lib.hid (HOA.out.below hd)
                        replace HD := Lib.hid (HD.out.trans (hd.mono HD.out.size))
                        replace HW2 := Lib.hid (HW2.out.trans (hd.mono HW2.out.size))
                        clear hd
                        cases gk with
                        | zero => exact absurd ((L4_TournSays_L3_0 ..).symm.trans HL3.out) (by intro h; cases h)
                        | succ g3 =>
                          replace HL3 := Lib.hid ((L4_TournSays_L3_s ..).symm.trans HL3.out)
                          by_cases hc158 : x154 < v0
                          · replace HL3 := Lib.hid (ifT hc158 HL3.out)
                            have HK159 := Lib.hid hc158
                            obtain ⟨b160, hb, hm⟩ := obind HL3.out
                            replace HL3 := Lib.hid hm; have HB161 := Lib.hid hb; clear hm hb
                            cases x153
                            · replace HB161 := Lib.hid (ifF Bool.false_ne_true HB161.out)
                              obtain ⟨y164, hy162, hm⟩ := obind HB161.out
                              replace HB161 := Lib.hid hm; clear hm
                              have HC163 := R1_Goes_ok W157 cap1 (rdL HD.out HR1.out) hy162
                              clear hy162
                              replace HC163 := Lib.hid HC163
                              cases y164
                              · replace HB161 := Lib.hid (ifF Bool.false_ne_true HB161.out)
                                obtain rfl := Option.some.inj HB161.out
                                go_wp2_with fail
                                refine HC163.out.mono ?_; rintro e w' ⟨rfl, rfl⟩
                                go_wp2_with fail
                                try clear hc158
                                go_roundg g3
                                case measure => omega
                                case rel => exact ⟨false, (wrap64 (x154 + 1)), rfl, rfl, HW3, HL3⟩
                              · replace HB161 := Lib.hid (ifT rfl HB161.out)
                                obtain ⟨y167, hy165, hm⟩ := obind HB161.out
                                replace HB161 := Lib.hid hm; clear hm
                                have HC166 := R1_Goes_ok W157 cap1 (rdL HD.out HR1.out) hy165
                                clear hy165
                                replace HC166 := Lib.hid HC166
                                cases y167
                                · replace HB161 := Lib.hid (ifF Bool.false_ne_true HB161.out)
                                  obtain rfl := Option.some.inj HB161.out
                                  go_wp2_with fail
                                  refine HC163.out.mono ?_; rintro e w' ⟨rfl, rfl⟩
                                  go_wp2_with fail
                                  refine HC166.out.mono ?_; rintro e w' ⟨rfl, rfl⟩
                                  go_wp2_with fail
                                  try clear hc158
                                  go_roundg g3
                                  case measure => omega
                                  case rel => exact ⟨false, (wrap64 (x154 + 1)), rfl, rfl, HW3, HL3⟩
                                · replace HB161 := Lib.hid (ifT rfl HB161.out)
                                  obtain rfl := Option.some.inj HB161.out
                                  go_wp2_with fail
                                  refine HC163.out.mono ?_; rintro e w' ⟨rfl, rfl⟩
                                  go_wp2_with fail
                                  refine HC166.out.mono ?_; rintro e w' ⟨rfl, rfl⟩
                                  go_wp2_with fail
                                  try clear hc158
                                  go_roundg g3
                                  case measure => omega
                                  case rel => exact ⟨true, (wrap64 (x154 + 1)), rfl, rfl, HW3, HL3⟩
                            · replace HB161 := Lib.hid (ifT rfl HB161.out)
                              obtain rfl := Option.some.inj HB161.out
                              go_wp2_with fail
                              try clear hc158
                              go_roundg g3
                              case measure => omega
                              case rel => exact ⟨true, (wrap64 (x154 + 1)), rfl, rfl, HW3, HL3⟩
                          · replace HL3 := Lib.hid (ifF hc158 HL3.out)
                            have hc158d := decide_eq_false hc158
                            have HK159 := Lib.hid hc158
                            obtain rfl := Option.some.inj HL3.out
                            have hm := HL2.out; try dsimp only at hm
                            replace HL2 := Lib.hid hm; clear hm
                            obtain ⟨b168, hb, hm⟩ := obind HL2.out
                            replace HL2 := Lib.hid hm; have HB169 := Lib.hid hb; clear hm hb
                            cases x37
                            · replace HB169 := Lib.hid (ifF Bool.false_ne_true HB169.out)
                              obtain rfl := Option.some.inj HB169.out
                              go_wp2_with fail
                              try clear hc158 hc158d
                              go_roundg g2
                              case measure => omega
                              case rel => exact ⟨(wrap64 (x36 + 1)), false, (wrap64 (x38 + 1)), rfl, rfl, rfl, HW2, HL2⟩
                            · replace HB169 := Lib.hid (ifT rfl HB169.out)
                              cases x153
                              · replace HB169 := Lib.hid (ifF Bool.false_ne_true HB169.out)
                                obtain rfl := Option.some.inj HB169.out
                                go_wp2_with fail
                                try clear hc158 hc158d
                                go_roundg g2
                                case measure => omega
                                case rel => exact ⟨(wrap64 (x36 + 1)), false, (wrap64 (x38 + 1)), rfl, rfl, rfl, HW2, HL2⟩
                              · replace HB169 := Lib.hid (ifT rfl HB169.out)
                                obtain rfl := Option.some.inj HB169.out
                                go_wp2_with fail
                                try clear hc158 hc158d
                                go_roundg g2
                                case measure => omega
                                case rel => exact ⟨(wrap64 (x36 + 1)), true, (wrap64 (x38 + 1)), rfl, rfl, rfl, HW2, HL2⟩
              · replace HL2 := Lib.hid (ifF hc43 HL2.out)
                have hc43d := decide_eq_false hc43
                have HK44 := Lib.hid hc43
                obtain rfl := Option.some.inj HL2.out
                have hm := HL1.out; try dsimp only at hm
                replace HL1 := Lib.hid hm; clear hm
                obtain ⟨y170, hy171, hm⟩ := obind HL1.out
                replace HL1 := Lib.hid hm; clear hm
                obtain ⟨f172, hy171⟩ := app_some hy171; subst hy171
                have HF175 := Lib.hid f172; clear f172
                go_upto_region 21 with (at_builtin; refine hp_appI _ (.tmp 85) (.tmp 87) 23 Tryd.underlying23 rfl rfl (L1 := [_, _]) HOA.out rfl rfl HF175.out HD.out.size ?_; intro V173 W174 hoa hd)
                try clear hc43 hc43d
                replace HOA := Lib.hid (show HP W174 w.heap.size [.fl (owI V27 (x19)), .fl (owI V26 (x18)), .fl (owI V173 ((x17 ++ [x36])))] from hoa); clear hoa
                replace HD := Lib.hid (HD.out.trans hd); clear hd
                cases x37
                · replace HL1 := Lib.hid (ifF Bool.false_ne_true HL1.out)
                  go_wp2_with fail
                  obtain ⟨o176, ho, hm⟩ := obind HL1.out
                  replace HL1 := Lib.hid hm; have HL4 := Lib.hid ho; clear hm ho
                  go_loopg [18] F (fun gg ux178 wr => ∃ (x177 : Int), ux178 = .int .i64 x177 ∧ Hid (Below W174.heap.size W174 wr) ∧ Hid (L4_TournSays_L4 F (v1) (x18) (x20) gg x177 = some o176))
                  case atStart => exact ⟨0, rfl, (Lib.hid (Below.refl _ _)), HL4⟩
                  case round =>
                    obtain ⟨x177, rfl, HW4, HL4⟩ := hrel
                    rename World => W179
                    have hd := HW4.out
                    replace HOA := Lib.hid (HOA.out.below hd)
                    replace HD := Lib.hid (HD.out.trans (hd.mono HD.out.size))
                    clear hd
                    cases gk with
                    | zero => exact absurd ((L4_TournSays_L4_0 ..).symm.trans HL4.out) (by intro h; cases h)
                    | succ g4 =>
                      replace HL4 := Lib.hid ((L4_TournSays_L4_s ..).symm.trans HL4.out)
                      obtain ⟨b180, hb, hm⟩ := obind HL4.out
                      replace HL4 := Lib.hid hm; have HB181 := Lib.hid hb; clear hm hb
                      obtain ⟨A182, cap183, he, _⟩ := HP.open_I HOA.out (List.Mem.tail _ (List.Mem.head _))
                      subst he
                      by_cases hc184 : x177 < ((x18).length : Int)
                      · replace HB181 := Lib.hid (ifT hc184 HB181.out)
                        have HK185 := Lib.hid hc184
                        obtain ⟨y186, hy187, hm⟩ := obind HB181.out
                        replace HB181 := Lib.hid hm; clear hm
                        obtain ⟨b188, o189, ea190, _, f191, f192, f193⟩ := ReadsI.ix (HP.rd_I HOA.out (List.Mem.tail _ (List.Mem.head _))) hy187
                        cases ea190
                        try simp only [Nat.zero_add, Nat.add_zero, Int.toNat_natCast, Int.toNat_zero, Int.toNat_one] at f193
                        try rw [← HP.len_I HOA.out (List.Mem.tail _ (List.Mem.head _))] at f192
                        have HY195 := Lib.hid hy187; clear hy187
                        obtain ⟨y198, hy196, hm⟩ := obind HB181.out
                        replace HB181 := Lib.hid hm; clear hm
                        have HC197 := R1_Goes_ok W179 cap1 (rdL HD.out HR1.out) hy196
                        clear hy196
                        replace HC197 := Lib.hid HC197
                        cases y198
                        · replace HB181 := Lib.hid (ifF Bool.false_ne_true HB181.out)
                          obtain rfl := Option.some.inj HB181.out
                          replace HL4 := Lib.hid (ifT (by first | rfl | trivial) HL4.out)
                          go_wp2_with fail
                          refine HC197.out.mono ?_; rintro e w' ⟨rfl, rfl⟩
                          go_wp2_with fail
                          try clear hc184 f191 f192 f193
                          go_roundg g4
                          case measure => omega
                          case rel => exact ⟨(wrap64 (x177 + 1)), rfl, HW4, HL4⟩
                        · replace HB181 := Lib.hid (ifT rfl HB181.out)
                          obtain rfl := Option.some.inj HB181.out
                          replace HL4 := Lib.hid (ifF (by first | exact Bool.false_ne_true | exact not_false) HL4.out)
                          obtain rfl := Option.some.inj HL4.out
                          have hm := HL1.out; try dsimp only at hm
                          replace HL1 := Lib.hid hm; clear hm
                          replace HOA := Lib.hid (show HP _ _ (.fl (owI (.slice none 0 0) ([])) :: _) from HOA.out.pushNil _ _)
                          obtain ⟨y200, hy201, hm⟩ := obind HL1.out
                          replace HL1 := Lib.hid hm; clear hm
                          obtain ⟨f202, hy201⟩ := tk_some hy201; subst hy201
                          obtain ⟨A203, n208, cap204, hsl205, hrs, hcs, hns⟩ := ReadsI.sliceU (HP.rd_I HOA.out (List.Mem.tail _ (List.Mem.tail _ (List.Mem.head _)))) (HP.cap_I HOA.out (List.Mem.tail _ (List.Mem.tail _ (List.Mem.head _)))) f202
                          have HR206 := Lib.hid hrs; have HCAP207 := Lib.hid hcs; have HN209 := Lib.hid hns; clear hrs hcs hns f202
                          obtain ⟨y210, hy211, hm⟩ := obind HL1.out
                          replace HL1 := Lib.hid hm; clear hm
                          obtain ⟨f212, hy211⟩ := appL_some hy211; subst hy211
                          go_wp2_with fail
                          refine HC197.out.mono ?_; rintro e w' ⟨rfl, rfl⟩
                          have HF215 := Lib.hid f212; clear f212
                          go_upto_region 28 with (at_builtin; refine hp_appIsn _ (.tmp 110) (.tmp 113) 23 Tryd.underlying23 rfl rfl (L1 := []) HOA.out HR206.out HN209.out rfl rfl HF215.out HD.out.size ?_; intro V213 W214 hoa hd)
                          try clear hc184 f191 f192 f193 hsl205
                          replace HOA := Lib.hid (show HP W214 w.heap.size [.fl (owI V213 (([] ++ (List.take (Int.toNat x177) x18)))), .fl (owI V27 (x19)), .fl (owI (.slice (some ⟨b188, o189, none⟩) (x18).length cap183) (x18)), .fl (owI V173 ((x17 ++ [x36])))] from hoa); clear hoa
                          replace HD := Lib.hid (HD.out.trans hd); clear hd
                          obtain ⟨y216, hy217, hm⟩ := obind HL1.out
                          replace HL1 := Lib.hid hm; clear hm
                          obtain ⟨f218, hy217⟩ := app_some hy217; subst hy217
                          have HF221 := Lib.hid f218; clear f218
                          go_upto_region 29 with (at_builtin; refine hp_appI _ (.tmp 115) (.tmp 117) 23 Tryd.underlying23 rfl rfl (L1 := []) HOA.out rfl rfl HF221.out HD.out.size ?_; intro V219 W220 hoa hd)
                          replace HOA := Lib.hid (show HP W220 w.heap.size [.fl (owI V219 ((([] ++ (List.take (Int.toNat x177) x18)) ++ [x20]))), .fl (owI V27 (x19)), .fl (owI (.slice (some ⟨b188, o189, none⟩) (x18).length cap183) (x18)), .fl (owI V173 ((x17 ++ [x36])))] from hoa); clear hoa
                          replace HD := Lib.hid (HD.out.trans hd); clear hd
                          obtain ⟨y222, hy223, hm⟩ := obind HL1.out
                          replace HL1 := Lib.hid hm; clear hm
                          obtain ⟨f224, hy223⟩ := dr_some hy223; subst hy223
                          obtain ⟨A225, n230, cap226, hsl227, hrs, hcs, hns⟩ := ReadsI.sliceD (HP.rd_I HOA.out (List.Mem.tail _ (List.Mem.tail _ (List.Mem.head _)))) (HP.cap_I HOA.out (List.Mem.tail _ (List.Mem.tail _ (List.Mem.head _)))) f224
                          have HR228 := Lib.hid hrs; have HCAP229 := Lib.hid hcs; have HN231 := Lib.hid hns; clear hrs hcs hns f224
                          obtain ⟨y232, hy233, hm⟩ := obind HL1.out
                          replace HL1 := Lib.hid hm; clear hm
                          obtain ⟨f234, hy233⟩ := appL_some hy233; subst hy233
                          have HF237 := Lib.hid f234; clear f234
                          go_upto_region 6 with (at_builtin; refine hp_appIsn _ (.tmp 119) (.tmp 122) 23 Tryd.underlying23 rfl rfl (L1 := []) HOA.out HR228.out HN231.out rfl rfl HF237.out HD.out.size ?_; intro V235 W236 hoa hd)
                          try clear hsl227
                          replace HOA := Lib.hid (show HP W236 w.heap.size [.fl (owI V235 (((([] ++ (List.take (Int.toNat x177) x18)) ++ [x20]) ++ (List.drop (Int.toNat x177) x18)))), .fl (owI V27 (x19)), .fl (owI (.slice (some ⟨b188, o189, none⟩) (x18).length cap183) (x18)), .fl (owI V173 ((x17 ++ [x36])))] from hoa); clear hoa
                          replace HD := Lib.hid (HD.out.trans hd); clear hd
                          go_wp2_with fail
                          replace HOA := Lib.hid (HOA.out.sub (.cons₂ _ (.cons₂ _ (.cons _ (.cons₂ _ .slnil)))))
                          replace HOA := Lib.hid (HP.mv (its1 := [_, _]) HOA.out)
                          replace HOA := Lib.hid (HP.mv (its1 := [_]) HOA.out)
                          replace HOA := Lib.hid (HP.mv (its1 := [_, _]) HOA.out)
                          replace HOA := Lib.hid (show HP _ _ [.fl (owI V27 (x19)), .fl (owI V235 (((([] ++ (List.take (Int.toNat x177) x18)) ++ [x20]) ++ (List.drop (Int.toNat x177) x18)))), .fl (owI V173 ((x17 ++ [x36])))] from HOA.out)
                          go_roundg g1
                          case measure => omega
                          case rel => exact ⟨(x17 ++ [x36]), ((([] ++ (List.take (Int.toNat x177) x18)) ++ [x20]) ++ (List.drop (Int.toNat x177) x18)), x19, (wrap64 (x20 + 1)), V173, V235, V27, rfl, rfl, rfl, rfl, HD, HOA, HL1⟩
                      · replace HB181 := Lib.hid (ifF hc184 HB181.out)
                        have hc184d := decide_eq_false hc184
                        have HK185 := Lib.hid hc184
                        obtain rfl := Option.some.inj HB181.out
                        replace HL4 := Lib.hid (ifF (by first | exact Bool.false_ne_true | exact not_false) HL4.out)
                        obtain rfl := Option.some.inj HL4.out
                        have hm := HL1.out; try dsimp only at hm
                        replace HL1 := Lib.hid hm; clear hm
                        replace HOA := Lib.hid (show HP _ _ (.fl (owI (.slice none 0 0) ([])) :: _) from HOA.out.pushNil _ _)
                        obtain ⟨y239, hy240, hm⟩ := obind HL1.out
                        replace HL1 := Lib.hid hm; clear hm
                        obtain ⟨f241, hy240⟩ := tk_some hy240; subst hy240
                        obtain ⟨A242, n247, cap243, hsl244, hrs, hcs, hns⟩ := ReadsI.sliceU (HP.rd_I HOA.out (List.Mem.tail _ (List.Mem.tail _ (List.Mem.head _)))) (HP.cap_I HOA.out (List.Mem.tail _ (List.Mem.tail _ (List.Mem.head _)))) f241
                        have HR245 := Lib.hid hrs; have HCAP246 := Lib.hid hcs; have HN248 := Lib.hid hns; clear hrs hcs hns f241
                        obtain ⟨y249, hy250, hm⟩ := obind HL1.out
                        replace HL1 := Lib.hid hm; clear hm
                        obtain ⟨f251, hy250⟩ := appL_some hy250; subst hy250
                        have HF254 := Lib.hid f251; clear f251
                        go_upto_region 28 with (at_builtin; refine hp_appIsn _ (.tmp 110) (.tmp 113) 23 Tryd.underlying23 rfl rfl (L1 := []) HOA.out HR245.out HN248.out rfl rfl HF254.out HD.out.size ?_; intro V252 W253 hoa hd)
                        try clear hc184 hc184d hsl244
                        replace HOA := Lib.hid (show HP W253 w.heap.size [.fl (owI V252 (([] ++ (List.take (Int.toNat x177) x18)))), .fl (owI V27 (x19)), .fl (owI (.slice A182 (x18).length cap183) (x18)), .fl (owI V173 ((x17 ++ [x36])))] from hoa); clear hoa
                        replace HD := Lib.hid (HD.out.trans hd); clear hd
                        obtain ⟨y255, hy256, hm⟩ := obind HL1.out
                        replace HL1 := Lib.hid hm; clear hm
                        obtain ⟨f257, hy256⟩ := app_some hy256; subst hy256
                        have HF260 := Lib.hid f257; clear f257
                        go_upto_region 29 with (at_builtin; refine hp_appI _ (.tmp 115) (.tmp 117) 23 Tryd.underlying23 rfl rfl (L1 := []) HOA.out rfl rfl HF260.out HD.out.size ?_; intro V258 W259 hoa hd)
                        replace HOA := Lib.hid (show HP W259 w.heap.size [.fl (owI V258 ((([] ++ (List.take (Int.toNat x177) x18)) ++ [x20]))), .fl (owI V27 (x19)), .fl (owI (.slice A182 (x18).length cap183) (x18)), .fl (owI V173 ((x17 ++ [x36])))] from hoa); clear hoa
                        replace HD := Lib.hid (HD.out.trans hd); clear hd
                        obtain ⟨y261, hy262, hm⟩ := obind HL1.out
                        replace HL1 := Lib.hid hm; clear hm
                        obtain ⟨f263, hy262⟩ := dr_some hy262; subst hy262
                        obtain ⟨A264, n269, cap265, hsl266, hrs, hcs, hns⟩ := ReadsI.sliceD (HP.rd_I HOA.out (List.Mem.tail _ (List.Mem.tail _ (List.Mem.head _)))) (HP.cap_I HOA.out (List.Mem.tail _ (List.Mem.tail _ (List.Mem.head _)))) f263
                        have HR267 := Lib.hid hrs; have HCAP268 := Lib.hid hcs; have HN270 := Lib.hid hns; clear hrs hcs hns f263
                        obtain ⟨y271, hy272, hm⟩ := obind HL1.out
                        replace HL1 := Lib.hid hm; clear hm
                        obtain ⟨f273, hy272⟩ := appL_some hy272; subst hy272
                        have HF276 := Lib.hid f273; clear f273
                        go_upto_region 6 with (at_builtin; refine hp_appIsn _ (.tmp 119) (.tmp 122) 23 Tryd.underlying23 rfl rfl (L1 := []) HOA.out HR267.out HN270.out rfl rfl HF276.out HD.out.size ?_; intro V274 W275 hoa hd)
                        try clear hsl266
                        replace HOA := Lib.hid (show HP W275 w.heap.size [.fl (owI V274 (((([] ++ (List.take (Int.toNat x177) x18)) ++ [x20]) ++ (List.drop (Int.toNat x177) x18)))), .fl (owI V27 (x19)), .fl (owI (.slice A182 (x18).length cap183) (x18)), .fl (owI V173 ((x17 ++ [x36])))] from hoa); clear hoa
                        replace HD := Lib.hid (HD.out.trans hd); clear hd
                        go_wp2_with fail
                        replace HOA := Lib.hid (HOA.out.sub (.cons₂ _ (.cons₂ _ (.cons _ (.cons₂ _ .slnil)))))
                        replace HOA := Lib.hid (HP.mv (its1 := [_, _]) HOA.out)
                        replace HOA := Lib.hid (HP.mv (its1 := [_]) HOA.out)
                        replace HOA := Lib.hid (HP.mv (its1 := [_, _]) HOA.out)
                        replace HOA := Lib.hid (show HP _ _ [.fl (owI V27 (x19)), .fl (owI V274 (((([] ++ (List.take (Int.toNat x177) x18)) ++ [x20]) ++ (List.drop (Int.toNat x177) x18)))), .fl (owI V173 ((x17 ++ [x36])))] from HOA.out)
                        go_roundg g1
                        case measure => omega
                        case rel => exact ⟨(x17 ++ [x36]), ((([] ++ (List.take (Int.toNat x177) x18)) ++ [x20]) ++ (List.drop (Int.toNat x177) x18)), x19, (wrap64 (x20 + 1)), V173, V274, V27, rfl, rfl, rfl, rfl, HD, HOA, HL1⟩
                · replace HL1 := Lib.hid (ifT rfl HL1.out)
                  obtain ⟨y277, hy278, hm⟩ := obind HL1.out
                  replace HL1 := Lib.hid hm; clear hm
                  obtain ⟨f279, hy278⟩ := app_some hy278; subst hy278
                  have HF282 := Lib.hid f279; clear f279
                  go_upto_region 23 with (at_builtin; refine hp_appI _ (.tmp 90) (.tmp 92) 23 Tryd.underlying23 rfl rfl (L1 := []) HOA.out rfl rfl HF282.out HD.out.size ?_; intro V280 W281 hoa hd)
                  replace HOA := Lib.hid (show HP W281 w.heap.size [.fl (owI V280 ((x19 ++ [x20]))), .fl (owI V26 (x18)), .fl (owI V173 ((x17 ++ [x36])))] from hoa); clear hoa
                  replace HD := Lib.hid (HD.out.trans hd); clear hd
                  go_wp2_with fail
                  obtain ⟨o283, ho, hm⟩ := obind HL1.out
                  replace HL1 := Lib.hid hm; have HL4 := Lib.hid ho; clear hm ho
                  go_loopg [18] F (fun gg ux285 wr => ∃ (x284 : Int), ux285 = .int .i64 x284 ∧ Hid (Below W281.heap.size W281 wr) ∧ Hid (L4_TournSays_L4 F (v1) (x18) (x20) gg x284 = some o283))
                  case atStart => exact ⟨0, rfl, (Lib.hid (Below.refl _ _)), HL4⟩
                  case round =>
                    obtain ⟨x284, rfl, HW4, HL4⟩ := hrel
                    rename World => W286
                    have hd := HW4.out
                    replace HOA := Lib.hid (HOA.out.below hd)
                    replace HD := Lib.hid (HD.out.trans (hd.mono HD.out.size))
                    clear hd
                    cases gk with
                    | zero => exact absurd ((L4_TournSays_L4_0 ..).symm.trans HL4.out) (by intro h; cases h)
                    | succ g4 =>
                      replace HL4 := Lib.hid ((L4_TournSays_L4_s ..).symm.trans HL4.out)
                      obtain ⟨b287, hb, hm⟩ := obind HL4.out
                      replace HL4 := Lib.hid hm; have HB288 := Lib.hid hb; clear hm hb
                      obtain ⟨A289, cap290, he, _⟩ := HP.open_I HOA.out (List.Mem.tail _ (List.Mem.head _))
                      subst he
                      by_cases hc291 : x284 < ((x18).length : Int)
                      · replace HB288 := Lib.hid (ifT hc291 HB288.out)
                        have HK292 := Lib.hid hc291
                        obtain ⟨y293, hy294, hm⟩ := obind HB288.out
                        replace HB288 := Lib.hid hm; clear hm
                        obtain ⟨b295, o296, ea297, _, f298, f299, f300⟩ := ReadsI.ix (HP.rd_I HOA.out (List.Mem.tail _ (List.Mem.head _))) hy294
                        cases ea297
                        try simp only [Nat.zero_add, Nat.add_zero, Int.toNat_natCast, Int.toNat_zero, Int.toNat_one] at f300
                        try rw [← HP.len_I HOA.out (List.Mem.tail _ (List.Mem.head _))] at f299
                        have HY302 := Lib.hid hy294; clear hy294
                        obtain ⟨y305, hy303, hm⟩ := obind HB288.out
                        replace HB288 := Lib.hid hm; clear hm
                        have HC304 := R1_Goes_ok W286 cap1 (rdL HD.out HR1.out) hy303
                        clear hy303
                        replace HC304 := Lib.hid HC304
                        cases y305
                        · replace HB288 := Lib.hid (ifF Bool.false_ne_true HB288.out)
                          obtain rfl := Option.some.inj HB288.out
                          replace HL4 := Lib.hid (ifT (by first | rfl | trivial) HL4.out)
                          go_wp2_with fail
                          refine HC304.out.mono ?_; rintro e w' ⟨rfl, rfl⟩
                          go_wp2_with fail
                          try clear hc291 f298 f299 f300
                          go_roundg g4
                          case measure => omega
                          case rel => exact ⟨(wrap64 (x284 + 1)), rfl, HW4, HL4⟩
                        · replace HB288 := Lib.hid (ifT rfl HB288.out)
                          obtain rfl := Option.some.inj HB288.out
                          replace HL4 := Lib.hid (ifF (by first | exact Bool.false_ne_true | exact not_false) HL4.out)
                          obtain rfl := Option.some.inj HL4.out
                          have hm := HL1.out; try dsimp only at hm
                          replace HL1 := Lib.hid hm; clear hm
                          replace HOA := Lib.hid (show HP _ _ (.fl (owI (.slice none 0 0) ([])) :: _) from HOA.out.pushNil _ _)
                          obtain ⟨y307, hy308, hm⟩ := obind HL1.out
                          replace HL1 := Lib.hid hm; clear hm
                          obtain ⟨f309, hy308⟩ := tk_some hy308; subst hy308
                          obtain ⟨A310, n315, cap311, hsl312, hrs, hcs, hns⟩ := ReadsI.sliceU (HP.rd_I HOA.out (List.Mem.tail _ (List.Mem.tail _ (List.Mem.head _)))) (HP.cap_I HOA.out (List.Mem.tail _ (List.Mem.tail _ (List.Mem.head _)))) f309
                          have HR313 := Lib.hid hrs; have HCAP314 := Lib.hid hcs; have HN316 := Lib.hid hns; clear hrs hcs hns f309
                          obtain ⟨y317, hy318, hm⟩ := obind HL1.out
                          replace HL1 := Lib.hid hm; clear hm
                          obtain ⟨f319, hy318⟩ := appL_some hy318; subst hy318
                          go_wp2_with fail
                          refine HC304.out.mono ?_; rintro e w' ⟨rfl, rfl⟩
                          have HF322 := Lib.hid f319; clear f319
                          go_upto_region 28 with (at_builtin; refine hp_appIsn _ (.tmp 110) (.tmp 113) 23 Tryd.underlying23 rfl rfl (L1 := []) HOA.out HR313.out HN316.out rfl rfl HF322.out HD.out.size ?_; intro V320 W321 hoa hd)
                          try clear hc291 f298 f299 f300 hsl312
                          replace HOA := Lib.hid (show HP W321 w.heap.size [.fl (owI V320 (([] ++ (List.take (Int.toNat x284) x18)))), .fl (owI V280 ((x19 ++ [x20]))), .fl (owI (.slice (some ⟨b295, o296, none⟩) (x18).length cap290) (x18)), .fl (owI V173 ((x17 ++ [x36])))] from hoa); clear hoa
                          replace HD := Lib.hid (HD.out.trans hd); clear hd
                          obtain ⟨y323, hy324, hm⟩ := obind HL1.out
                          replace HL1 := Lib.hid hm; clear hm
                          obtain ⟨f325, hy324⟩ := app_some hy324; subst hy324
                          have HF328 := Lib.hid f325; clear f325
                          go_upto_region 29 with (at_builtin; refine hp_appI _ (.tmp 115) (.tmp 117) 23 Tryd.underlying23 rfl rfl (L1 := []) HOA.out rfl rfl HF328.out HD.out.size ?_; intro V326 W327 hoa hd)
                          replace HOA := Lib.hid (show HP W327 w.heap.size [.fl (owI V326 ((([] ++ (List.take (Int.toNat x284) x18)) ++ [x20]))), .fl (owI V280 ((x19 ++ [x20]))), .fl (owI (.slice (some ⟨b295, o296, none⟩) (x18).length cap290) (x18)), .fl (owI V173 ((x17 ++ [x36])))] from hoa); clear hoa
                          replace HD := Lib.hid (HD.out.trans hd); clear hd
                          obtain ⟨y329, hy330, hm⟩ := obind HL1.out
                          replace HL1 := Lib.hid hm; clear hm
                          obtain ⟨f331, hy330⟩ := dr_some hy330; subst hy330
                          obtain ⟨A332, n337, cap333, hsl334, hrs, hcs, hns⟩ := ReadsI.sliceD (HP.rd_I HOA.out (List.Mem.tail _ (List.Mem.tail _ (List.Mem.head _)))) (HP.cap_I HOA.out (List.Mem.tail _ (List.Mem.tail _ (List.Mem.head _)))) f331
                          have HR335 := Lib.hid hrs; have HCAP336 := Lib.hid hcs; have HN338 := Lib.hid hns; clear hrs hcs hns f331
                          obtain ⟨y339, hy340, hm⟩ := obind HL1.out
                          replace HL1 := Lib.hid hm; clear hm
                          obtain ⟨f341, hy340⟩ := appL_some hy340; subst hy340
                          have HF344 := Lib.hid f341; clear f341
                          go_upto_region 6 with (at_builtin; refine hp_appIsn _ (.tmp 119) (.tmp 122) 23 Tryd.underlying23 rfl rfl (L1 := []) HOA.out HR335.out HN338.out rfl rfl HF344.out HD.out.size ?_; intro V342 W343 hoa hd)
                          try clear hsl334
                          replace HOA := Lib.hid (show HP W343 w.heap.size [.fl (owI V342 (((([] ++ (List.take (Int.toNat x284) x18)) ++ [x20]) ++ (List.drop (Int.toNat x284) x18)))), .fl (owI V280 ((x19 ++ [x20]))), .fl (owI (.slice (some ⟨b295, o296, none⟩) (x18).length cap290) (x18)), .fl (owI V173 ((x17 ++ [x36])))] from hoa); clear hoa
                          replace HD := Lib.hid (HD.out.trans hd); clear hd
                          go_wp2_with fail
                          replace HOA := Lib.hid (HOA.out.sub (.cons₂ _ (.cons₂ _ (.cons _ (.cons₂ _ .slnil)))))
                          replace HOA := Lib.hid (HP.mv (its1 := [_, _]) HOA.out)
                          replace HOA := Lib.hid (HP.mv (its1 := [_]) HOA.out)
                          replace HOA := Lib.hid (HP.mv (its1 := [_, _]) HOA.out)
                          replace HOA := Lib.hid (show HP _ _ [.fl (owI V280 ((x19 ++ [x20]))), .fl (owI V342 (((([] ++ (List.take (Int.toNat x284) x18)) ++ [x20]) ++ (List.drop (Int.toNat x284) x18)))), .fl (owI V173 ((x17 ++ [x36])))] from HOA.out)
                          go_roundg g1
                          case measure => omega
                          case rel => exact ⟨(x17 ++ [x36]), ((([] ++ (List.take (Int.toNat x284) x18)) ++ [x20]) ++ (List.drop (Int.toNat x284) x18)), (x19 ++ [x20]), (wrap64 (x20 + 1)), V173, V342, V280, rfl, rfl, rfl, rfl, HD, HOA, HL1⟩
                      · replace HB288 := Lib.hid (ifF hc291 HB288.out)
                        have hc291d := decide_eq_false hc291
                        have HK292 := Lib.hid hc291
                        obtain rfl := Option.some.inj HB288.out
                        replace HL4 := Lib.hid (ifF (by first | exact Bool.false_ne_true | exact not_false) HL4.out)
                        obtain rfl := Option.some.inj HL4.out
                        have hm := HL1.out; try dsimp only at hm
                        replace HL1 := Lib.hid hm; clear hm
                        replace HOA := Lib.hid (show HP _ _ (.fl (owI (.slice none 0 0) ([])) :: _) from HOA.out.pushNil _ _)
                        obtain ⟨y346, hy347, hm⟩ := obind HL1.out
                        replace HL1 := Lib.hid hm; clear hm
                        obtain ⟨f348, hy347⟩ := tk_some hy347; subst hy347
                        obtain ⟨A349, n354, cap350, hsl351, hrs, hcs, hns⟩ := ReadsI.sliceU (HP.rd_I HOA.out (List.Mem.tail _ (List.Mem.tail _ (List.Mem.head _)))) (HP.cap_I HOA.out (List.Mem.tail _ (List.Mem.tail _ (List.Mem.head _)))) f348
                        have HR352 := Lib.hid hrs; have HCAP353 := Lib.hid hcs; have HN355 := Lib.hid hns; clear hrs hcs hns f348
                        obtain ⟨y356, hy357, hm⟩ := obind HL1.out
                        replace HL1 := Lib.hid hm; clear hm
                        obtain ⟨f358, hy357⟩ := appL_some hy357; subst hy357
                        have HF361 := Lib.hid f358; clear f358
                        go_upto_region 28 with (at_builtin; refine hp_appIsn _ (.tmp 110) (.tmp 113) 23 Tryd.underlying23 rfl rfl (L1 := []) HOA.out HR352.out HN355.out rfl rfl HF361.out HD.out.size ?_; intro V359 W360 hoa hd)
                        try clear hc291 hc291d hsl351
                        replace HOA := Lib.hid (show HP W360 w.heap.size [.fl (owI V359 (([] ++ (List.take (Int.toNat x284) x18)))), .fl (owI V280 ((x19 ++ [x20]))), .fl (owI (.slice A289 (x18).length cap290) (x18)), .fl (owI V173 ((x17 ++ [x36])))] from hoa); clear hoa
                        replace HD := Lib.hid (HD.out.trans hd); clear hd
                        obtain ⟨y362, hy363, hm⟩ := obind HL1.out
                        replace HL1 := Lib.hid hm; clear hm
                        obtain ⟨f364, hy363⟩ := app_some hy363; subst hy363
                        have HF367 := Lib.hid f364; clear f364
                        go_upto_region 29 with (at_builtin; refine hp_appI _ (.tmp 115) (.tmp 117) 23 Tryd.underlying23 rfl rfl (L1 := []) HOA.out rfl rfl HF367.out HD.out.size ?_; intro V365 W366 hoa hd)
                        replace HOA := Lib.hid (show HP W366 w.heap.size [.fl (owI V365 ((([] ++ (List.take (Int.toNat x284) x18)) ++ [x20]))), .fl (owI V280 ((x19 ++ [x20]))), .fl (owI (.slice A289 (x18).length cap290) (x18)), .fl (owI V173 ((x17 ++ [x36])))] from hoa); clear hoa
                        replace HD := Lib.hid (HD.out.trans hd); clear hd
                        obtain ⟨y368, hy369, hm⟩ := obind HL1.out
                        replace HL1 := Lib.hid hm; clear hm
                        obtain ⟨f370, hy369⟩ := dr_some hy369; subst hy369
                        obtain ⟨A371, n376, cap372, hsl373, hrs, hcs, hns⟩ := ReadsI.sliceD (HP.rd_I HOA.out (List.Mem.tail _ (List.Mem.tail _ (List.Mem.head _)))) (HP.cap_I HOA.out (List.Mem.tail _ (List.Mem.tail _ (List.Mem.head _)))) f370
                        have HR374 := Lib.hid hrs; have HCAP375 := Lib.hid hcs; have HN377 := Lib.hid hns; clear hrs hcs hns f370
                        obtain ⟨y378, hy379, hm⟩ := obind HL1.out
                        replace HL1 := Lib.hid hm; clear hm
                        obtain ⟨f380, hy379⟩ := appL_some hy379; subst hy379
                        have HF383 := Lib.hid f380; clear f380
                        go_upto_region 6 with (at_builtin; refine hp_appIsn _ (.tmp 119) (.tmp 122) 23 Tryd.underlying23 rfl rfl (L1 := []) HOA.out HR374.out HN377.out rfl rfl HF383.out HD.out.size ?_; intro V381 W382 hoa hd)
                        try clear hsl373
                        replace HOA := Lib.hid (show HP W382 w.heap.size [.fl (owI V381 (((([] ++ (List.take (Int.toNat x284) x18)) ++ [x20]) ++ (List.drop (Int.toNat x284) x18)))), .fl (owI V280 ((x19 ++ [x20]))), .fl (owI (.slice A289 (x18).length cap290) (x18)), .fl (owI V173 ((x17 ++ [x36])))] from hoa); clear hoa
                        replace HD := Lib.hid (HD.out.trans hd); clear hd
                        go_wp2_with fail
                        replace HOA := Lib.hid (HOA.out.sub (.cons₂ _ (.cons₂ _ (.cons _ (.cons₂ _ .slnil)))))
                        replace HOA := Lib.hid (HP.mv (its1 := [_, _]) HOA.out)
                        replace HOA := Lib.hid (HP.mv (its1 := [_]) HOA.out)
                        replace HOA := Lib.hid (HP.mv (its1 := [_, _]) HOA.out)
                        replace HOA := Lib.hid (show HP _ _ [.fl (owI V280 ((x19 ++ [x20]))), .fl (owI V381 (((([] ++ (List.take (Int.toNat x284) x18)) ++ [x20]) ++ (List.drop (Int.toNat x284) x18)))), .fl (owI V173 ((x17 ++ [x36])))] from HOA.out)
                        go_roundg g1
                        case measure => omega
                        case rel => exact ⟨(x17 ++ [x36]), ((([] ++ (List.take (Int.toNat x284) x18)) ++ [x20]) ++ (List.drop (Int.toNat x284) x18)), (x19 ++ [x20]), (wrap64 (x20 + 1)), V173, V381, V280, rfl, rfl, rfl, rfl, HD, HOA, HL1⟩
        · replace HB30 := Lib.hid (ifF (bF hc33) HB30.out)
          have HK34 := Lib.hid hc33
          obtain rfl := Option.some.inj HB30.out
          replace HL1 := Lib.hid (ifF (by first | exact Bool.false_ne_true | exact not_false) HL1.out)
          obtain rfl := Option.some.inj HL1.out
          have hm := HM.out; try dsimp only at hm
          replace HM := Lib.hid hm; clear hm
          obtain ⟨⟨y386, y387⟩, hy384, hm⟩ := obind HM.out
          dsimp only at hm
          replace HM := Lib.hid hm; clear hm
          have HC385 := tourn_Scores_ok W28 cap1 (rdL HD.out HR1.out) hy384
          clear hy384
          replace HC385 := Lib.hid HC385
          go_wp2_with fail
          refine HC385.out.mono ?_; rintro e W388 ⟨V389, rfl, ho, hd⟩
          try clear hc31 hc33
          replace HOA := Lib.hid (HOA.out.call hd HD.out.size ho); clear ho
          replace HD := Lib.hid (HD.out.trans (hd.mono HD.out.size))
          clear hd
          go_upto_region 31 with (fail)
          obtain ⟨b391, hb, hm⟩ := obind HM.out
          replace HM := Lib.hid hm; have HB392 := Lib.hid hb; clear hm hb
          go_cut [22] (fun uq wr => uq = .bool b391 ∧ Hid (Below W388.heap.size W388 wr))
          case first =>
            have HWC393 := Lib.hid (Below.refl W388.heap.size W388)
            obtain ⟨y396, hy394, hm⟩ := obind HB392.out
            replace HB392 := Lib.hid hm; clear hm
            have HC395 := mErr_ok W388 (HTC.out.go HD.out)  hy394
            clear hy394
            replace HC395 := Lib.hid HC395
            go_wp2_with fail
            refine HC395.out.mono ?_; rintro e W397 ⟨rfl, hd⟩
            replace HOA := Lib.hid (HOA.out.below hd)
            replace HD := Lib.hid (HD.out.trans (hd.mono HD.out.size))
            replace HWC393 := Lib.hid (HWC393.out.trans (hd.mono HWC393.out.size))
            clear hd
            cases y396
            · replace HB392 := Lib.hid (ifF Bool.false_ne_true HB392.out)
              cases Option.some.inj HB392.out
              try go_wp2_with fail
              go_meet
              case rel => exact ⟨rfl, HWC393⟩
            · replace HB392 := Lib.hid (ifT rfl HB392.out)
              obtain ⟨y400, hy398, hm⟩ := obind HB392.out
              replace HB392 := Lib.hid hm; clear hm
              obtain ⟨A401, cap402, he, _⟩ := HP.open_I HOA.out (List.Mem.head _)
              subst he
              obtain ⟨A403, cap404, he, _⟩ := HP.open_I HOA.out (List.Mem.tail _ (List.Mem.tail _ (List.Mem.tail _ (List.Mem.head _))))
              subst he
              have HC399 := SE_Ints_ok W397 cap402 (HP.rd_I HOA.out (List.Mem.head _)) cap404 (HP.rd_I HOA.out (List.Mem.tail _ (List.Mem.tail _ (List.Mem.tail _ (List.Mem.head _))))) hy398
              clear hy398
              replace HC399 := Lib.hid HC399
              go_wp2_with fail
              refine HC399.out.mono ?_; rintro e W405 ⟨rfl, hd⟩
              replace HOA := Lib.hid (HOA.out.below (hd.below _))
              replace HD := Lib.hid (HD.out.trans ((hd.below _).mono HD.out.size))
              replace HWC393 := Lib.hid (HWC393.out.trans ((hd.below _).mono HWC393.out.size))
              clear hd
              cases y400
              · replace HB392 := Lib.hid (ifF Bool.false_ne_true HB392.out)
                cases Option.some.inj HB392.out
                try go_wp2_with fail
                go_meet
                case rel => exact ⟨rfl, HWC393⟩
              · replace HB392 := Lib.hid (ifT rfl HB392.out)
                cases Option.some.inj HB392.out
                try go_wp2_with fail
                go_meet
                case rel => exact ⟨rfl, HWC393⟩
          case rest =>
            as_aux_lemma =>
              obtain ⟨rfl, HWC393⟩ := hcut
              rename World => W406
              have hd := HWC393.out
              replace HOA := Lib.hid (HOA.out.below hd)
              replace HD := Lib.hid (HD.out.trans (hd.mono HD.out.size))
              clear hd
              obtain ⟨⟨y409, y410⟩, hy407, hm⟩ := obind HM.out
              dsimp only at hm
              replace HM := Lib.hid hm; clear hm
              have HC408 := tourn_Row_ok W406 cap1 (rdL HD.out HR1.out) hy407
              clear hy407
              replace HC408 := Lib.hid HC408
              go_wp2_with fail
              refine HC408.out.mono ?_; rintro e W411 ⟨V412, rfl, ho, hd⟩
              replace HOA := Lib.hid (HOA.out.call hd HD.out.size ho); clear ho
              replace HD := Lib.hid (HD.out.trans (hd.mono HD.out.size))
              clear hd
              go_upto_region 33 with (fail)
              obtain ⟨b414, hb, hm⟩ := obind HM.out
              replace HM := Lib.hid hm; have HB415 := Lib.hid hb; clear hm hb
              go_cut [23] (fun uq wr => uq = .bool b414 ∧ Hid (Below W411.heap.size W411 wr))
              case first =>
                have HWC416 := Lib.hid (Below.refl W411.heap.size W411)
                obtain ⟨y419, hy417, hm⟩ := obind HB415.out
                replace HB415 := Lib.hid hm; clear hm
                have HC418 := mErr_ok W411 (HTC.out.go HD.out)  hy417
                clear hy417
                replace HC418 := Lib.hid HC418
                go_wp2_with fail
                refine HC418.out.mono ?_; rintro e W420 ⟨rfl, hd⟩
                replace HOA := Lib.hid (HOA.out.below hd)
                replace HD := Lib.hid (HD.out.trans (hd.mono HD.out.size))
                replace HWC416 := Lib.hid (HWC416.out.trans (hd.mono HWC416.out.size))
                clear hd
                cases y419
                · replace HB415 := Lib.hid (ifF Bool.false_ne_true HB415.out)
                  cases Option.some.inj HB415.out
                  try go_wp2_with fail
                  go_meet
                  case rel => exact ⟨rfl, HWC416⟩
                · replace HB415 := Lib.hid (ifT rfl HB415.out)
                  obtain ⟨y423, hy421, hm⟩ := obind HB415.out
                  replace HB415 := Lib.hid hm; clear hm
                  obtain ⟨A424, cap425, he, _⟩ := HP.open_I HOA.out (List.Mem.head _)
                  subst he
                  obtain ⟨A426, cap427, he, _⟩ := HP.open_I HOA.out (List.Mem.tail _ (List.Mem.tail _ (List.Mem.tail _ (List.Mem.head _))))
                  subst he
                  have HC422 := SE_Ints_ok W420 cap425 (HP.rd_I HOA.out (List.Mem.head _)) cap427 (HP.rd_I HOA.out (List.Mem.tail _ (List.Mem.tail _ (List.Mem.tail _ (List.Mem.head _))))) hy421
                  clear hy421
                  replace HC422 := Lib.hid HC422
                  go_wp2_with fail
                  refine HC422.out.mono ?_; rintro e W428 ⟨rfl, hd⟩
                  replace HOA := Lib.hid (HOA.out.below (hd.below _))
                  replace HD := Lib.hid (HD.out.trans ((hd.below _).mono HD.out.size))
                  replace HWC416 := Lib.hid (HWC416.out.trans ((hd.below _).mono HWC416.out.size))
                  clear hd
                  cases y423
                  · replace HB415 := Lib.hid (ifF Bool.false_ne_true HB415.out)
                    cases Option.some.inj HB415.out
                    try go_wp2_with fail
                    go_meet
                    case rel => exact ⟨rfl, HWC416⟩
                  · replace HB415 := Lib.hid (ifT rfl HB415.out)
                    cases Option.some.inj HB415.out
                    try go_wp2_with fail
                    go_meet
                    case rel => exact ⟨rfl, HWC416⟩
              case rest =>
                as_aux_lemma =>
                  obtain ⟨rfl, HWC416⟩ := hcut
                  rename World => W429
                  have hd := HWC416.out
                  replace HOA := Lib.hid (HOA.out.below hd)
                  replace HD := Lib.hid (HD.out.trans (hd.mono HD.out.size))
                  clear hd
                  obtain ⟨⟨y432, y433⟩, hy430, hm⟩ := obind HM.out
                  dsimp only at hm
                  replace HM := Lib.hid hm; clear hm
                  have HC431 := tourn_Kings_ok W429 cap1 (rdL HD.out HR1.out) hy430
                  clear hy430
                  replace HC431 := Lib.hid HC431
                  go_wp2_with fail
                  refine HC431.out.mono ?_; rintro e W434 ⟨V435, rfl, ho, hd⟩
                  replace HOA := Lib.hid (HOA.out.call hd HD.out.size ho); clear ho
                  replace HD := Lib.hid (HD.out.trans (hd.mono HD.out.size))
                  clear hd
                  go_upto_region 35 with (fail)
                  obtain ⟨b437, hb, hm⟩ := obind HM.out
                  replace HM := Lib.hid hm; have HB438 := Lib.hid hb; clear hm hb
                  go_cut [24] (fun uq wr => uq = .bool b437 ∧ Hid (Below W434.heap.size W434 wr))
                  case first =>
                    have HWC439 := Lib.hid (Below.refl W434.heap.size W434)
                    obtain ⟨y442, hy440, hm⟩ := obind HB438.out
                    replace HB438 := Lib.hid hm; clear hm
                    have HC441 := mErr_ok W434 (HTC.out.go HD.out)  hy440
                    clear hy440
                    replace HC441 := Lib.hid HC441
                    go_wp2_with fail
                    refine HC441.out.mono ?_; rintro e W443 ⟨rfl, hd⟩
                    replace HOA := Lib.hid (HOA.out.below hd)
                    replace HD := Lib.hid (HD.out.trans (hd.mono HD.out.size))
                    replace HWC439 := Lib.hid (HWC439.out.trans (hd.mono HWC439.out.size))
                    clear hd
                    cases y442
                    · replace HB438 := Lib.hid (ifF Bool.false_ne_true HB438.out)
                      cases Option.some.inj HB438.out
                      try go_wp2_with fail
                      go_meet
                      case rel => exact ⟨rfl, HWC439⟩
                    · replace HB438 := Lib.hid (ifT rfl HB438.out)
                      obtain ⟨y446, hy444, hm⟩ := obind HB438.out
                      replace HB438 := Lib.hid hm; clear hm
                      obtain ⟨A447, cap448, he, _⟩ := HP.open_I HOA.out (List.Mem.head _)
                      subst he
                      obtain ⟨A449, cap450, he, _⟩ := HP.open_I HOA.out (List.Mem.tail _ (List.Mem.tail _ (List.Mem.tail _ (List.Mem.head _))))
                      subst he
                      have HC445 := SE_Ints_ok W443 cap448 (HP.rd_I HOA.out (List.Mem.head _)) cap450 (HP.rd_I HOA.out (List.Mem.tail _ (List.Mem.tail _ (List.Mem.tail _ (List.Mem.head _))))) hy444
                      clear hy444
                      replace HC445 := Lib.hid HC445
                      go_wp2_with fail
                      refine HC445.out.mono ?_; rintro e W451 ⟨rfl, hd⟩
                      replace HOA := Lib.hid (HOA.out.below (hd.below _))
                      replace HD := Lib.hid (HD.out.trans ((hd.below _).mono HD.out.size))
                      replace HWC439 := Lib.hid (HWC439.out.trans ((hd.below _).mono HWC439.out.size))
                      clear hd
                      cases y446
                      · replace HB438 := Lib.hid (ifF Bool.false_ne_true HB438.out)
                        cases Option.some.inj HB438.out
                        try go_wp2_with fail
                        go_meet
                        case rel => exact ⟨rfl, HWC439⟩
                      · replace HB438 := Lib.hid (ifT rfl HB438.out)
                        cases Option.some.inj HB438.out
                        try go_wp2_with fail
                        go_meet
                        case rel => exact ⟨rfl, HWC439⟩
                  case rest =>
                    as_aux_lemma =>
                      obtain ⟨rfl, HWC439⟩ := hcut
                      rename World => W452
                      have hd := HWC439.out
                      replace HOA := Lib.hid (HOA.out.below hd)
                      replace HD := Lib.hid (HD.out.trans (hd.mono HD.out.size))
                      clear hd
                      obtain ⟨y455, hy453, hm⟩ := obind HM.out
                      replace HM := Lib.hid hm; clear hm
                      have HC454 := R1_Degrees_ok W452 cap2 (rdI HD.out HR2.out) hy453
                      clear hy453
                      replace HC454 := Lib.hid HC454
                      obtain ⟨⟨y458, y459⟩, hy456, hm⟩ := obind HM.out
                      dsimp only at hm
                      replace HM := Lib.hid hm; clear hm
                      have HC457 := tourn_Can_ok W452 cap2 (rdI HD.out HR2.out) hy456
                      clear hy456
                      replace HC457 := Lib.hid HC457
                      go_wp2_with fail
                      refine HC454.out.mono ?_; rintro e w' ⟨rfl, rfl⟩
                      go_wp2_with fail
                      refine HC457.out.mono ?_; rintro e W460 ⟨rfl, hd⟩
                      replace HOA := Lib.hid (HOA.out.below hd)
                      replace HD := Lib.hid (HD.out.trans (hd.mono HD.out.size))
                      clear hd
                      obtain ⟨b461, hb, hm⟩ := obind HM.out
                      replace HM := Lib.hid hm; have HB462 := Lib.hid hb; clear hm hb
                      obtain ⟨b463, hb, hm⟩ := obind HB462.out
                      replace HB462 := Lib.hid hm; have HB464 := Lib.hid hb; clear hm hb
                      obtain ⟨b465, hb, hm⟩ := obind HB464.out
                      replace HB464 := Lib.hid hm; have HB466 := Lib.hid hb; clear hm hb
                      obtain ⟨b467, hb, hm⟩ := obind HB466.out
                      replace HB466 := Lib.hid hm; have HB468 := Lib.hid hb; clear hm hb
                      obtain ⟨b469, hb, hm⟩ := obind HB468.out
                      replace HB468 := Lib.hid hm; have HB470 := Lib.hid hb; clear hm hb
                      cases y11
                      · replace HB470 := Lib.hid (ifF Bool.false_ne_true HB470.out)
                        obtain rfl := Option.some.inj HB470.out
                        replace HB468 := Lib.hid (ifF (by first | exact Bool.false_ne_true | exact not_false) HB468.out)
                        obtain rfl := Option.some.inj HB468.out
                        replace HB466 := Lib.hid (ifF (by first | exact Bool.false_ne_true | exact not_false) HB466.out)
                        obtain rfl := Option.some.inj HB466.out
                        replace HB464 := Lib.hid (ifF (by first | exact Bool.false_ne_true | exact not_false) HB464.out)
                        obtain rfl := Option.some.inj HB464.out
                        replace HB462 := Lib.hid (ifF (by first | exact Bool.false_ne_true | exact not_false) HB462.out)
                        obtain rfl := Option.some.inj HB462.out
                        obtain rfl := Option.some.inj HM.out
                        go_wp2_with fail
                        go_ret
                        exact ⟨rfl, HD.out⟩
                      · replace HB470 := Lib.hid (ifT rfl HB470.out)
                        cases b391
                        · replace HB470 := Lib.hid (ifF Bool.false_ne_true HB470.out)
                          obtain rfl := Option.some.inj HB470.out
                          replace HB468 := Lib.hid (ifF (by first | exact Bool.false_ne_true | exact not_false) HB468.out)
                          obtain rfl := Option.some.inj HB468.out
                          replace HB466 := Lib.hid (ifF (by first | exact Bool.false_ne_true | exact not_false) HB466.out)
                          obtain rfl := Option.some.inj HB466.out
                          replace HB464 := Lib.hid (ifF (by first | exact Bool.false_ne_true | exact not_false) HB464.out)
                          obtain rfl := Option.some.inj HB464.out
                          replace HB462 := Lib.hid (ifF (by first | exact Bool.false_ne_true | exact not_false) HB462.out)
                          obtain rfl := Option.some.inj HB462.out
                          obtain rfl := Option.some.inj HM.out
                          go_wp2_with fail
                          go_ret
                          exact ⟨rfl, HD.out⟩
                        · replace HB470 := Lib.hid (ifT rfl HB470.out)
                          obtain rfl := Option.some.inj HB470.out
                          replace HB468 := Lib.hid (ifT (by first | rfl | trivial) HB468.out)
                          cases b414
                          · replace HB468 := Lib.hid (ifF Bool.false_ne_true HB468.out)
                            obtain rfl := Option.some.inj HB468.out
                            replace HB466 := Lib.hid (ifF (by first | exact Bool.false_ne_true | exact not_false) HB466.out)
                            obtain rfl := Option.some.inj HB466.out
                            replace HB464 := Lib.hid (ifF (by first | exact Bool.false_ne_true | exact not_false) HB464.out)
                            obtain rfl := Option.some.inj HB464.out
                            replace HB462 := Lib.hid (ifF (by first | exact Bool.false_ne_true | exact not_false) HB462.out)
                            obtain rfl := Option.some.inj HB462.out
                            obtain rfl := Option.some.inj HM.out
                            go_wp2_with fail
                            go_ret
                            exact ⟨rfl, HD.out⟩
                          · replace HB468 := Lib.hid (ifT rfl HB468.out)
                            obtain rfl := Option.some.inj HB468.out
                            replace HB466 := Lib.hid (ifT (by first | rfl | trivial) HB466.out)
                            cases b437
                            · replace HB466 := Lib.hid (ifF Bool.false_ne_true HB466.out)
                              obtain rfl := Option.some.inj HB466.out
                              replace HB464 := Lib.hid (ifF (by first | exact Bool.false_ne_true | exact not_false) HB464.out)
                              obtain rfl := Option.some.inj HB464.out
                              replace HB462 := Lib.hid (ifF (by first | exact Bool.false_ne_true | exact not_false) HB462.out)
                              obtain rfl := Option.some.inj HB462.out
                              obtain rfl := Option.some.inj HM.out
                              go_wp2_with fail
                              go_ret
                              exact ⟨rfl, HD.out⟩
                            · replace HB466 := Lib.hid (ifT rfl HB466.out)
                              obtain rfl := Option.some.inj HB466.out
                              replace HB464 := Lib.hid (ifT (by first | rfl | trivial) HB464.out)
                              obtain ⟨y473, hy471, hm⟩ := obind HB464.out
                              replace HB464 := Lib.hid hm; clear hm
                              have HC472 := mErr_ok W460 (HTC.out.go HD.out)  hy471
                              clear hy471
                              replace HC472 := Lib.hid HC472
                              go_wp2_with fail
                              refine HC472.out.mono ?_; rintro e W474 ⟨rfl, hd⟩
                              replace HOA := Lib.hid (HOA.out.below hd)
                              replace HD := Lib.hid (HD.out.trans (hd.mono HD.out.size))
                              clear hd
                              cases y473
                              · replace HB464 := Lib.hid (ifF Bool.false_ne_true HB464.out)
                                obtain rfl := Option.some.inj HB464.out
                                replace HB462 := Lib.hid (ifF (by first | exact Bool.false_ne_true | exact not_false) HB462.out)
                                obtain rfl := Option.some.inj HB462.out
                                obtain rfl := Option.some.inj HM.out
                                go_wp2_with fail
                                go_ret
                                exact ⟨rfl, HD.out⟩
                              · replace HB464 := Lib.hid (ifT rfl HB464.out)
                                obtain rfl := Option.some.inj HB464.out
                                replace HB462 := Lib.hid (ifT (by first | rfl | trivial) HB462.out)
                                obtain ⟨b475, hb, hm⟩ := obind HB462.out
                                replace HB462 := Lib.hid hm; have HB476 := Lib.hid hb; clear hm hb
                                rcases Bool.eq_false_or_eq_true (y455 == 0) with hc477 | hc477
                                · replace HB476 := Lib.hid (ifT hc477 HB476.out)
                                  have HK478 := Lib.hid hc477
                                  obtain ⟨y481, hy479, hm⟩ := obind HB476.out
                                  replace HB476 := Lib.hid hm; clear hm
                                  have HC480 := R3_Scored_ok _ W474 cap2 (rdI HD.out HR2.out) hy479
                                  clear hy479
                                  replace HC480 := Lib.hid HC480
                                  go_wp2_with fail
                                  refine HC480.out.mono ?_; rintro e W482 ⟨rfl, hd⟩
                                  try clear hc477
                                  replace HOA := Lib.hid (HOA.out.below hd)
                                  replace HD := Lib.hid (HD.out.trans (hd.mono HD.out.size))
                                  clear hd
                                  cases y481
                                  · replace HB476 := Lib.hid (ifF Bool.false_ne_true HB476.out)
                                    obtain rfl := Option.some.inj HB476.out
                                    cases y458
                                    · replace HB462 := Lib.hid (ifT (by decide) HB462.out)
                                      obtain rfl := Option.some.inj HB462.out
                                      obtain rfl := Option.some.inj HM.out
                                      go_wp2_with fail
                                      go_ret
                                      exact ⟨rfl, HD.out⟩
                                    · replace HB462 := Lib.hid (ifF (by decide) HB462.out)
                                      obtain rfl := Option.some.inj HB462.out
                                      obtain rfl := Option.some.inj HM.out
                                      go_wp2_with fail
                                      go_ret
                                      exact ⟨rfl, HD.out⟩
                                  · replace HB476 := Lib.hid (ifT rfl HB476.out)
                                    obtain rfl := Option.some.inj HB476.out
                                    cases y458
                                    · replace HB462 := Lib.hid (ifF (by decide) HB462.out)
                                      obtain rfl := Option.some.inj HB462.out
                                      obtain rfl := Option.some.inj HM.out
                                      go_wp2_with fail
                                      go_ret
                                      exact ⟨rfl, HD.out⟩
                                    · replace HB462 := Lib.hid (ifT (by decide) HB462.out)
                                      obtain rfl := Option.some.inj HB462.out
                                      obtain rfl := Option.some.inj HM.out
                                      go_wp2_with fail
                                      go_ret
                                      exact ⟨rfl, HD.out⟩
                                · replace HB476 := Lib.hid (ifF (bF hc477) HB476.out)
                                  have HK478 := Lib.hid hc477
                                  obtain rfl := Option.some.inj HB476.out
                                  cases y458
                                  · replace HB462 := Lib.hid (ifT (by decide) HB462.out)
                                    obtain rfl := Option.some.inj HB462.out
                                    obtain rfl := Option.some.inj HM.out
                                    go_wp2_with fail
                                    go_ret
                                    exact ⟨(by first | rfl | (refine congrArg (fun b => Ending.returned (Value.bool b)) ?_; first | (exact decide_eq_true (by omega)) | (exact decide_eq_false (by omega)) | (have q := hc477; rw [bne_iff_ne] at q ⊢; omega) | (have q := hc477; rw [bne_eq_false_iff_eq] at q ⊢; omega) | (have q := hc477; rw [beq_iff_eq] at q ⊢; omega) | (have q := hc477; rw [beq_eq_false_iff_ne] at q ⊢; omega))), HD.out⟩
                                  · replace HB462 := Lib.hid (ifF (by decide) HB462.out)
                                    obtain rfl := Option.some.inj HB462.out
                                    obtain rfl := Option.some.inj HM.out
                                    go_wp2_with fail
                                    go_ret
                                    exact ⟨(by first | rfl | (refine congrArg (fun b => Ending.returned (Value.bool b)) ?_; first | (exact decide_eq_true (by omega)) | (exact decide_eq_false (by omega)) | (have q := hc477; rw [bne_iff_ne] at q ⊢; omega) | (have q := hc477; rw [bne_eq_false_iff_eq] at q ⊢; omega) | (have q := hc477; rw [beq_iff_eq] at q ⊢; omega) | (have q := hc477; rw [beq_eq_false_iff_ne] at q ⊢; omega))), HD.out⟩
      · replace HB30 := Lib.hid (ifF hc31 HB30.out)
        have hc31d := decide_eq_false hc31
        have HK32 := Lib.hid hc31
        obtain rfl := Option.some.inj HB30.out
        replace HL1 := Lib.hid (ifF (by first | exact Bool.false_ne_true | exact not_false) HL1.out)
        obtain rfl := Option.some.inj HL1.out
        have hm := HM.out; try dsimp only at hm
        replace HM := Lib.hid hm; clear hm
        obtain ⟨⟨y485, y486⟩, hy483, hm⟩ := obind HM.out
        dsimp only at hm
        replace HM := Lib.hid hm; clear hm
        have HC484 := tourn_Scores_ok W28 cap1 (rdL HD.out HR1.out) hy483
        clear hy483
        replace HC484 := Lib.hid HC484
        go_wp2_with fail
        refine HC484.out.mono ?_; rintro e W487 ⟨V488, rfl, ho, hd⟩
        try clear hc31 hc31d
        replace HOA := Lib.hid (HOA.out.call hd HD.out.size ho); clear ho
        replace HD := Lib.hid (HD.out.trans (hd.mono HD.out.size))
        clear hd
        go_upto_region 31 with (fail)
        obtain ⟨b490, hb, hm⟩ := obind HM.out
        replace HM := Lib.hid hm; have HB491 := Lib.hid hb; clear hm hb
        go_cut [22] (fun uq wr => uq = .bool b490 ∧ Hid (Below W487.heap.size W487 wr))
        case first =>
          have HWC492 := Lib.hid (Below.refl W487.heap.size W487)
          obtain ⟨y495, hy493, hm⟩ := obind HB491.out
          replace HB491 := Lib.hid hm; clear hm
          have HC494 := mErr_ok W487 (HTC.out.go HD.out)  hy493
          clear hy493
          replace HC494 := Lib.hid HC494
          go_wp2_with fail
          refine HC494.out.mono ?_; rintro e W496 ⟨rfl, hd⟩
          replace HOA := Lib.hid (HOA.out.below hd)
          replace HD := Lib.hid (HD.out.trans (hd.mono HD.out.size))
          replace HWC492 := Lib.hid (HWC492.out.trans (hd.mono HWC492.out.size))
          clear hd
          cases y495
          · replace HB491 := Lib.hid (ifF Bool.false_ne_true HB491.out)
            cases Option.some.inj HB491.out
            try go_wp2_with fail
            go_meet
            case rel => exact ⟨rfl, HWC492⟩
          · replace HB491 := Lib.hid (ifT rfl HB491.out)
            obtain ⟨y499, hy497, hm⟩ := obind HB491.out
            replace HB491 := Lib.hid hm; clear hm
            obtain ⟨A500, cap501, he, _⟩ := HP.open_I HOA.out (List.Mem.head _)
            subst he
            obtain ⟨A502, cap503, he, _⟩ := HP.open_I HOA.out (List.Mem.tail _ (List.Mem.tail _ (List.Mem.tail _ (List.Mem.head _))))
            subst he
            have HC498 := SE_Ints_ok W496 cap501 (HP.rd_I HOA.out (List.Mem.head _)) cap503 (HP.rd_I HOA.out (List.Mem.tail _ (List.Mem.tail _ (List.Mem.tail _ (List.Mem.head _))))) hy497
            clear hy497
            replace HC498 := Lib.hid HC498
            go_wp2_with fail
            refine HC498.out.mono ?_; rintro e W504 ⟨rfl, hd⟩
            replace HOA := Lib.hid (HOA.out.below (hd.below _))
            replace HD := Lib.hid (HD.out.trans ((hd.below _).mono HD.out.size))
            replace HWC492 := Lib.hid (HWC492.out.trans ((hd.below _).mono HWC492.out.size))
            clear hd
            cases y499
            · replace HB491 := Lib.hid (ifF Bool.false_ne_true HB491.out)
              cases Option.some.inj HB491.out
              try go_wp2_with fail
              go_meet
              case rel => exact ⟨rfl, HWC492⟩
            · replace HB491 := Lib.hid (ifT rfl HB491.out)
              cases Option.some.inj HB491.out
              try go_wp2_with fail
              go_meet
              case rel => exact ⟨rfl, HWC492⟩
        case rest =>
          as_aux_lemma =>
            obtain ⟨rfl, HWC492⟩ := hcut
            rename World => W505
            have hd := HWC492.out
            replace HOA := Lib.hid (HOA.out.below hd)
            replace HD := Lib.hid (HD.out.trans (hd.mono HD.out.size))
            clear hd
            obtain ⟨⟨y508, y509⟩, hy506, hm⟩ := obind HM.out
            dsimp only at hm
            replace HM := Lib.hid hm; clear hm
            have HC507 := tourn_Row_ok W505 cap1 (rdL HD.out HR1.out) hy506
            clear hy506
            replace HC507 := Lib.hid HC507
            go_wp2_with fail
            refine HC507.out.mono ?_; rintro e W510 ⟨V511, rfl, ho, hd⟩
            replace HOA := Lib.hid (HOA.out.call hd HD.out.size ho); clear ho
            replace HD := Lib.hid (HD.out.trans (hd.mono HD.out.size))
            clear hd
            go_upto_region 33 with (fail)
            obtain ⟨b513, hb, hm⟩ := obind HM.out
            replace HM := Lib.hid hm; have HB514 := Lib.hid hb; clear hm hb
            go_cut [23] (fun uq wr => uq = .bool b513 ∧ Hid (Below W510.heap.size W510 wr))
            case first =>
              have HWC515 := Lib.hid (Below.refl W510.heap.size W510)
              obtain ⟨y518, hy516, hm⟩ := obind HB514.out
              replace HB514 := Lib.hid hm; clear hm
              have HC517 := mErr_ok W510 (HTC.out.go HD.out)  hy516
              clear hy516
              replace HC517 := Lib.hid HC517
              go_wp2_with fail
              refine HC517.out.mono ?_; rintro e W519 ⟨rfl, hd⟩
              replace HOA := Lib.hid (HOA.out.below hd)
              replace HD := Lib.hid (HD.out.trans (hd.mono HD.out.size))
              replace HWC515 := Lib.hid (HWC515.out.trans (hd.mono HWC515.out.size))
              clear hd
              cases y518
              · replace HB514 := Lib.hid (ifF Bool.false_ne_true HB514.out)
                cases Option.some.inj HB514.out
                try go_wp2_with fail
                go_meet
                case rel => exact ⟨rfl, HWC515⟩
              · replace HB514 := Lib.hid (ifT rfl HB514.out)
                obtain ⟨y522, hy520, hm⟩ := obind HB514.out
                replace HB514 := Lib.hid hm; clear hm
                obtain ⟨A523, cap524, he, _⟩ := HP.open_I HOA.out (List.Mem.head _)
                subst he
                obtain ⟨A525, cap526, he, _⟩ := HP.open_I HOA.out (List.Mem.tail _ (List.Mem.tail _ (List.Mem.tail _ (List.Mem.head _))))
                subst he
                have HC521 := SE_Ints_ok W519 cap524 (HP.rd_I HOA.out (List.Mem.head _)) cap526 (HP.rd_I HOA.out (List.Mem.tail _ (List.Mem.tail _ (List.Mem.tail _ (List.Mem.head _))))) hy520
                clear hy520
                replace HC521 := Lib.hid HC521
                go_wp2_with fail
                refine HC521.out.mono ?_; rintro e W527 ⟨rfl, hd⟩
                replace HOA := Lib.hid (HOA.out.below (hd.below _))
                replace HD := Lib.hid (HD.out.trans ((hd.below _).mono HD.out.size))
                replace HWC515 := Lib.hid (HWC515.out.trans ((hd.below _).mono HWC515.out.size))
                clear hd
                cases y522
                · replace HB514 := Lib.hid (ifF Bool.false_ne_true HB514.out)
                  cases Option.some.inj HB514.out
                  try go_wp2_with fail
                  go_meet
                  case rel => exact ⟨rfl, HWC515⟩
                · replace HB514 := Lib.hid (ifT rfl HB514.out)
                  cases Option.some.inj HB514.out
                  try go_wp2_with fail
                  go_meet
                  case rel => exact ⟨rfl, HWC515⟩
            case rest =>
              as_aux_lemma =>
                obtain ⟨rfl, HWC515⟩ := hcut
                rename World => W528
                have hd := HWC515.out
                replace HOA := Lib.hid (HOA.out.below hd)
                replace HD := Lib.hid (HD.out.trans (hd.mono HD.out.size))
                clear hd
                obtain ⟨⟨y531, y532⟩, hy529, hm⟩ := obind HM.out
                dsimp only at hm
                replace HM := Lib.hid hm; clear hm
                have HC530 := tourn_Kings_ok W528 cap1 (rdL HD.out HR1.out) hy529
                clear hy529
                replace HC530 := Lib.hid HC530
                go_wp2_with fail
                refine HC530.out.mono ?_; rintro e W533 ⟨V534, rfl, ho, hd⟩
                replace HOA := Lib.hid (HOA.out.call hd HD.out.size ho); clear ho
                replace HD := Lib.hid (HD.out.trans (hd.mono HD.out.size))
                clear hd
                go_upto_region 35 with (fail)
                obtain ⟨b536, hb, hm⟩ := obind HM.out
                replace HM := Lib.hid hm; have HB537 := Lib.hid hb; clear hm hb
                go_cut [24] (fun uq wr => uq = .bool b536 ∧ Hid (Below W533.heap.size W533 wr))
                case first =>
                  have HWC538 := Lib.hid (Below.refl W533.heap.size W533)
                  obtain ⟨y541, hy539, hm⟩ := obind HB537.out
                  replace HB537 := Lib.hid hm; clear hm
                  have HC540 := mErr_ok W533 (HTC.out.go HD.out)  hy539
                  clear hy539
                  replace HC540 := Lib.hid HC540
                  go_wp2_with fail
                  refine HC540.out.mono ?_; rintro e W542 ⟨rfl, hd⟩
                  replace HOA := Lib.hid (HOA.out.below hd)
                  replace HD := Lib.hid (HD.out.trans (hd.mono HD.out.size))
                  replace HWC538 := Lib.hid (HWC538.out.trans (hd.mono HWC538.out.size))
                  clear hd
                  cases y541
                  · replace HB537 := Lib.hid (ifF Bool.false_ne_true HB537.out)
                    cases Option.some.inj HB537.out
                    try go_wp2_with fail
                    go_meet
                    case rel => exact ⟨rfl, HWC538⟩
                  · replace HB537 := Lib.hid (ifT rfl HB537.out)
                    obtain ⟨y545, hy543, hm⟩ := obind HB537.out
                    replace HB537 := Lib.hid hm; clear hm
                    obtain ⟨A546, cap547, he, _⟩ := HP.open_I HOA.out (List.Mem.head _)
                    subst he
                    obtain ⟨A548, cap549, he, _⟩ := HP.open_I HOA.out (List.Mem.tail _ (List.Mem.tail _ (List.Mem.tail _ (List.Mem.head _))))
                    subst he
                    have HC544 := SE_Ints_ok W542 cap547 (HP.rd_I HOA.out (List.Mem.head _)) cap549 (HP.rd_I HOA.out (List.Mem.tail _ (List.Mem.tail _ (List.Mem.tail _ (List.Mem.head _))))) hy543
                    clear hy543
                    replace HC544 := Lib.hid HC544
                    go_wp2_with fail
                    refine HC544.out.mono ?_; rintro e W550 ⟨rfl, hd⟩
                    replace HOA := Lib.hid (HOA.out.below (hd.below _))
                    replace HD := Lib.hid (HD.out.trans ((hd.below _).mono HD.out.size))
                    replace HWC538 := Lib.hid (HWC538.out.trans ((hd.below _).mono HWC538.out.size))
                    clear hd
                    cases y545
                    · replace HB537 := Lib.hid (ifF Bool.false_ne_true HB537.out)
                      cases Option.some.inj HB537.out
                      try go_wp2_with fail
                      go_meet
                      case rel => exact ⟨rfl, HWC538⟩
                    · replace HB537 := Lib.hid (ifT rfl HB537.out)
                      cases Option.some.inj HB537.out
                      try go_wp2_with fail
                      go_meet
                      case rel => exact ⟨rfl, HWC538⟩
                case rest =>
                  as_aux_lemma =>
                    obtain ⟨rfl, HWC538⟩ := hcut
                    rename World => W551
                    have hd := HWC538.out
                    replace HOA := Lib.hid (HOA.out.below hd)
                    replace HD := Lib.hid (HD.out.trans (hd.mono HD.out.size))
                    clear hd
                    obtain ⟨y554, hy552, hm⟩ := obind HM.out
                    replace HM := Lib.hid hm; clear hm
                    have HC553 := R1_Degrees_ok W551 cap2 (rdI HD.out HR2.out) hy552
                    clear hy552
                    replace HC553 := Lib.hid HC553
                    obtain ⟨⟨y557, y558⟩, hy555, hm⟩ := obind HM.out
                    dsimp only at hm
                    replace HM := Lib.hid hm; clear hm
                    have HC556 := tourn_Can_ok W551 cap2 (rdI HD.out HR2.out) hy555
                    clear hy555
                    replace HC556 := Lib.hid HC556
                    go_wp2_with fail
                    refine HC553.out.mono ?_; rintro e w' ⟨rfl, rfl⟩
                    go_wp2_with fail
                    refine HC556.out.mono ?_; rintro e W559 ⟨rfl, hd⟩
                    replace HOA := Lib.hid (HOA.out.below hd)
                    replace HD := Lib.hid (HD.out.trans (hd.mono HD.out.size))
                    clear hd
                    obtain ⟨b560, hb, hm⟩ := obind HM.out
                    replace HM := Lib.hid hm; have HB561 := Lib.hid hb; clear hm hb
                    obtain ⟨b562, hb, hm⟩ := obind HB561.out
                    replace HB561 := Lib.hid hm; have HB563 := Lib.hid hb; clear hm hb
                    obtain ⟨b564, hb, hm⟩ := obind HB563.out
                    replace HB563 := Lib.hid hm; have HB565 := Lib.hid hb; clear hm hb
                    obtain ⟨b566, hb, hm⟩ := obind HB565.out
                    replace HB565 := Lib.hid hm; have HB567 := Lib.hid hb; clear hm hb
                    obtain ⟨b568, hb, hm⟩ := obind HB567.out
                    replace HB567 := Lib.hid hm; have HB569 := Lib.hid hb; clear hm hb
                    cases y11
                    · replace HB569 := Lib.hid (ifF Bool.false_ne_true HB569.out)
                      obtain rfl := Option.some.inj HB569.out
                      replace HB567 := Lib.hid (ifF (by first | exact Bool.false_ne_true | exact not_false) HB567.out)
                      obtain rfl := Option.some.inj HB567.out
                      replace HB565 := Lib.hid (ifF (by first | exact Bool.false_ne_true | exact not_false) HB565.out)
                      obtain rfl := Option.some.inj HB565.out
                      replace HB563 := Lib.hid (ifF (by first | exact Bool.false_ne_true | exact not_false) HB563.out)
                      obtain rfl := Option.some.inj HB563.out
                      replace HB561 := Lib.hid (ifF (by first | exact Bool.false_ne_true | exact not_false) HB561.out)
                      obtain rfl := Option.some.inj HB561.out
                      obtain rfl := Option.some.inj HM.out
                      go_wp2_with fail
                      go_ret
                      exact ⟨rfl, HD.out⟩
                    · replace HB569 := Lib.hid (ifT rfl HB569.out)
                      cases b490
                      · replace HB569 := Lib.hid (ifF Bool.false_ne_true HB569.out)
                        obtain rfl := Option.some.inj HB569.out
                        replace HB567 := Lib.hid (ifF (by first | exact Bool.false_ne_true | exact not_false) HB567.out)
                        obtain rfl := Option.some.inj HB567.out
                        replace HB565 := Lib.hid (ifF (by first | exact Bool.false_ne_true | exact not_false) HB565.out)
                        obtain rfl := Option.some.inj HB565.out
                        replace HB563 := Lib.hid (ifF (by first | exact Bool.false_ne_true | exact not_false) HB563.out)
                        obtain rfl := Option.some.inj HB563.out
                        replace HB561 := Lib.hid (ifF (by first | exact Bool.false_ne_true | exact not_false) HB561.out)
                        obtain rfl := Option.some.inj HB561.out
                        obtain rfl := Option.some.inj HM.out
                        go_wp2_with fail
                        go_ret
                        exact ⟨rfl, HD.out⟩
                      · replace HB569 := Lib.hid (ifT rfl HB569.out)
                        obtain rfl := Option.some.inj HB569.out
                        replace HB567 := Lib.hid (ifT (by first | rfl | trivial) HB567.out)
                        cases b513
                        · replace HB567 := Lib.hid (ifF Bool.false_ne_true HB567.out)
                          obtain rfl := Option.some.inj HB567.out
                          replace HB565 := Lib.hid (ifF (by first | exact Bool.false_ne_true | exact not_false) HB565.out)
                          obtain rfl := Option.some.inj HB565.out
                          replace HB563 := Lib.hid (ifF (by first | exact Bool.false_ne_true | exact not_false) HB563.out)
                          obtain rfl := Option.some.inj HB563.out
                          replace HB561 := Lib.hid (ifF (by first | exact Bool.false_ne_true | exact not_false) HB561.out)
                          obtain rfl := Option.some.inj HB561.out
                          obtain rfl := Option.some.inj HM.out
                          go_wp2_with fail
                          go_ret
                          exact ⟨rfl, HD.out⟩
                        · replace HB567 := Lib.hid (ifT rfl HB567.out)
                          obtain rfl := Option.some.inj HB567.out
                          replace HB565 := Lib.hid (ifT (by first | rfl | trivial) HB565.out)
                          cases b536
                          · replace HB565 := Lib.hid (ifF Bool.false_ne_true HB565.out)
                            obtain rfl := Option.some.inj HB565.out
                            replace HB563 := Lib.hid (ifF (by first | exact Bool.false_ne_true | exact not_false) HB563.out)
                            obtain rfl := Option.some.inj HB563.out
                            replace HB561 := Lib.hid (ifF (by first | exact Bool.false_ne_true | exact not_false) HB561.out)
                            obtain rfl := Option.some.inj HB561.out
                            obtain rfl := Option.some.inj HM.out
                            go_wp2_with fail
                            go_ret
                            exact ⟨rfl, HD.out⟩
                          · replace HB565 := Lib.hid (ifT rfl HB565.out)
                            obtain rfl := Option.some.inj HB565.out
                            replace HB563 := Lib.hid (ifT (by first | rfl | trivial) HB563.out)
                            obtain ⟨y572, hy570, hm⟩ := obind HB563.out
                            replace HB563 := Lib.hid hm; clear hm
                            have HC571 := mErr_ok W559 (HTC.out.go HD.out)  hy570
                            clear hy570
                            replace HC571 := Lib.hid HC571
                            go_wp2_with fail
                            refine HC571.out.mono ?_; rintro e W573 ⟨rfl, hd⟩
                            replace HOA := Lib.hid (HOA.out.below hd)
                            replace HD := Lib.hid (HD.out.trans (hd.mono HD.out.size))
                            clear hd
                            cases y572
                            · replace HB563 := Lib.hid (ifF Bool.false_ne_true HB563.out)
                              obtain rfl := Option.some.inj HB563.out
                              replace HB561 := Lib.hid (ifF (by first | exact Bool.false_ne_true | exact not_false) HB561.out)
                              obtain rfl := Option.some.inj HB561.out
                              obtain rfl := Option.some.inj HM.out
                              go_wp2_with fail
                              go_ret
                              exact ⟨rfl, HD.out⟩
                            · replace HB563 := Lib.hid (ifT rfl HB563.out)
                              obtain rfl := Option.some.inj HB563.out
                              replace HB561 := Lib.hid (ifT (by first | rfl | trivial) HB561.out)
                              obtain ⟨b574, hb, hm⟩ := obind HB561.out
                              replace HB561 := Lib.hid hm; have HB575 := Lib.hid hb; clear hm hb
                              rcases Bool.eq_false_or_eq_true (y554 == 0) with hc576 | hc576
                              · replace HB575 := Lib.hid (ifT hc576 HB575.out)
                                have HK577 := Lib.hid hc576
                                obtain ⟨y580, hy578, hm⟩ := obind HB575.out
                                replace HB575 := Lib.hid hm; clear hm
                                have HC579 := R3_Scored_ok _ W573 cap2 (rdI HD.out HR2.out) hy578
                                clear hy578
                                replace HC579 := Lib.hid HC579
                                go_wp2_with fail
                                refine HC579.out.mono ?_; rintro e W581 ⟨rfl, hd⟩
                                try clear hc576
                                replace HOA := Lib.hid (HOA.out.below hd)
                                replace HD := Lib.hid (HD.out.trans (hd.mono HD.out.size))
                                clear hd
                                cases y580
                                · replace HB575 := Lib.hid (ifF Bool.false_ne_true HB575.out)
                                  obtain rfl := Option.some.inj HB575.out
                                  cases y557
                                  · replace HB561 := Lib.hid (ifT (by decide) HB561.out)
                                    obtain rfl := Option.some.inj HB561.out
                                    obtain rfl := Option.some.inj HM.out
                                    go_wp2_with fail
                                    go_ret
                                    exact ⟨rfl, HD.out⟩
                                  · replace HB561 := Lib.hid (ifF (by decide) HB561.out)
                                    obtain rfl := Option.some.inj HB561.out
                                    obtain rfl := Option.some.inj HM.out
                                    go_wp2_with fail
                                    go_ret
                                    exact ⟨rfl, HD.out⟩
                                · replace HB575 := Lib.hid (ifT rfl HB575.out)
                                  obtain rfl := Option.some.inj HB575.out
                                  cases y557
                                  · replace HB561 := Lib.hid (ifF (by decide) HB561.out)
                                    obtain rfl := Option.some.inj HB561.out
                                    obtain rfl := Option.some.inj HM.out
                                    go_wp2_with fail
                                    go_ret
                                    exact ⟨rfl, HD.out⟩
                                  · replace HB561 := Lib.hid (ifT (by decide) HB561.out)
                                    obtain rfl := Option.some.inj HB561.out
                                    obtain rfl := Option.some.inj HM.out
                                    go_wp2_with fail
                                    go_ret
                                    exact ⟨rfl, HD.out⟩
                              · replace HB575 := Lib.hid (ifF (bF hc576) HB575.out)
                                have HK577 := Lib.hid hc576
                                obtain rfl := Option.some.inj HB575.out
                                cases y557
                                · replace HB561 := Lib.hid (ifT (by decide) HB561.out)
                                  obtain rfl := Option.some.inj HB561.out
                                  obtain rfl := Option.some.inj HM.out
                                  go_wp2_with fail
                                  go_ret
                                  exact ⟨(by first | rfl | (refine congrArg (fun b => Ending.returned (Value.bool b)) ?_; first | (exact decide_eq_true (by omega)) | (exact decide_eq_false (by omega)) | (have q := hc576; rw [bne_iff_ne] at q ⊢; omega) | (have q := hc576; rw [bne_eq_false_iff_eq] at q ⊢; omega) | (have q := hc576; rw [beq_iff_eq] at q ⊢; omega) | (have q := hc576; rw [beq_eq_false_iff_ne] at q ⊢; omega))), HD.out⟩
                                · replace HB561 := Lib.hid (ifF (by decide) HB561.out)
                                  obtain rfl := Option.some.inj HB561.out
                                  obtain rfl := Option.some.inj HM.out
                                  go_wp2_with fail
                                  go_ret
                                  exact ⟨(by first | rfl | (refine congrArg (fun b => Ending.returned (Value.bool b)) ?_; first | (exact decide_eq_true (by omega)) | (exact decide_eq_false (by omega)) | (have q := hc576; rw [bne_iff_ne] at q ⊢; omega) | (have q := hc576; rw [bne_eq_false_iff_eq] at q ⊢; omega) | (have q := hc576; rw [beq_iff_eq] at q ⊢; omega) | (have q := hc576; rw [beq_eq_false_iff_ne] at q ⊢; omega))), HD.out⟩
end Go.Proofs.YtabkmceajgpdjaaDoor
