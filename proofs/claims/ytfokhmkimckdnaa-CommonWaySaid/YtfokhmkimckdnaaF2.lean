import Derived.Test.YtfokhmkimckdnaaF1
set_option linter.all false
set_option maxRecDepth 100000
namespace Go.Proofs.Ytfokhmkimckdnaa
open Go.RowKit
def L3_commonFact (F : Nat)  : Option (Bool) := (common_Of F (3) ([(0, 1), (0, 2)]) (0) (1) (2)).bind fun y1 => (common_Way F (3) ([(0, 1), (0, 2)]) (1) (2)).bind fun y2 => (((if (y1.2 == 0) = true then if (y2.2 == 0) = true then some true else some false else some false).bind fun b5 => if b5 = true then if (y1.1 == 0) = true then some true else some false else some false).bind fun b4 => if b4 = true then (SE_Ints F (y2.1) ([1, 0, 2])).bind fun y6 => if y6 = true then some true else some false else some false).bind fun b3 => some (b3)
set_option maxRecDepth 100000 in
set_option maxHeartbeats 4000000 in
theorem L3_commonFact_ok {F : Nat}  {r : Bool} (w : World)  (h : L3_commonFact F  = some r) :
    Calls Try.prog 6 #[] w fun e w' => e = .returned (.bool r) ∧ Below w.heap.size w w' := by
  have HD := Lib.hid (Below.refl w.heap.size w)
  have HOA := Lib.hid (HP.nil (W := w) (B := w.heap.size))
  unfold L3_commonFact at h
  have HM := Lib.hid h; clear h
  go_enter Try.func6, Try.ntmps6
  have hd : Below w.heap.size w (World.alloc w (.cells #[Value.int .i64 (0), Value.int .i64 (1), Value.int .i64 (0), Value.int .i64 (2)] 40)) := (Below.refl _ _).alloc (Nat.le_refl _) _
  have ho : (owL (.slice (some ⟨w.heap.size, 0, none⟩) 2 2) [(0, 1), (0, 2)]).ok (World.alloc w (.cells #[Value.int .i64 (0), Value.int .i64 (1), Value.int .i64 (0), Value.int .i64 (2)] 40)) w.heap.size := litL_ok w [(0, 1), (0, 2)] (by unfold maxLen; simp)
  replace HOA := Lib.hid (HOA.out.call hd HD.out.size ho); clear ho
  replace HD := Lib.hid (HD.out.trans (hd.mono HD.out.size))
  clear hd
  go_upto_region 2 with (fail)
  generalize hW : World.alloc w _ = W1 at *
  clear hW
  obtain ⟨⟨y5, y6⟩, hy3, hm⟩ := obind HM.out
  dsimp only at hm
  replace HM := Lib.hid hm; clear hm
  have HC4 := common_Of_ok W1 2 (HP.rd_L HOA.out (List.Mem.head _)) hy3
  clear hy3
  by_cases hz7 : y6 = 0
  · subst hz7
    rw [errV_zero] at HC4; replace HC4 := Lib.hid HC4
    go_wp2_with fail
    refine HC4.out.mono ?_; rintro e W8 ⟨rfl, hd⟩
    replace HOA := Lib.hid (HOA.out.below hd)
    replace HD := Lib.hid (HD.out.trans (hd.mono HD.out.size))
    clear hd
    obtain ⟨⟨y13, y14⟩, hy11, hm⟩ := obind HM.out
    dsimp only at hm
    replace HM := Lib.hid hm; clear hm
    have HC12 := common_Way_ok W8 2 (HP.rd_L HOA.out (List.Mem.head _)) hy11
    clear hy11
    by_cases hz15 : y14 = 0
    · subst hz15
      rw [errV_zero] at HC12; replace HC12 := Lib.hid HC12
      go_wp2_with fail
      refine HC12.out.mono ?_; rintro e W16 ⟨V17, rfl, ho, hd⟩
      replace HOA := Lib.hid (HOA.out.call hd HD.out.size ho); clear ho
      replace HD := Lib.hid (HD.out.trans (hd.mono HD.out.size))
      clear hd
      obtain ⟨b23, hb, hm⟩ := obind HM.out
      replace HM := Lib.hid hm; have HB24 := Lib.hid hb; clear hm hb
      obtain ⟨b25, hb, hm⟩ := obind HB24.out
      replace HB24 := Lib.hid hm; have HB26 := Lib.hid hb; clear hm hb
      obtain ⟨b27, hb, hm⟩ := obind HB26.out
      replace HB26 := Lib.hid hm; have HB28 := Lib.hid hb; clear hm hb
      replace HB28 := Lib.hid (ifT (by decide) HB28.out)
      replace HB28 := Lib.hid (ifT (by decide) HB28.out)
      obtain rfl := Option.some.inj HB28.out
      replace HB26 := Lib.hid (ifT (by first | rfl | trivial) HB26.out)
      rcases Bool.eq_false_or_eq_true (y5 == 0) with hc29 | hc29
      · replace HB26 := Lib.hid (ifT hc29 HB26.out)
        have HK30 := Lib.hid hc29
        obtain rfl := Option.some.inj HB26.out
        replace HB24 := Lib.hid (ifT (by first | rfl | trivial) HB24.out)
        have hd : Below W16.heap.size W16 (World.alloc W16 (.cells #[Value.int .i64 (1), Value.int .i64 (0), Value.int .i64 (2)] 3)) := (Below.refl _ _).alloc (Nat.le_refl _) _
        have ho : (owI (.slice (some ⟨W16.heap.size, 0, none⟩) 3 3) [1, 0, 2]).ok (World.alloc W16 (.cells #[Value.int .i64 (1), Value.int .i64 (0), Value.int .i64 (2)] 3)) W16.heap.size := litI_ok W16 [1, 0, 2] (by unfold maxLen; simp)
        replace HOA := Lib.hid (HOA.out.call hd HD.out.size ho); clear ho
        replace HD := Lib.hid (HD.out.trans (hd.mono HD.out.size))
        clear hd
        obtain ⟨y35, hy33, hm⟩ := obind HB24.out
        replace HB24 := Lib.hid hm; clear hm
        obtain ⟨A36, cap37, he, _⟩ := HP.open_I HOA.out (List.Mem.tail _ (List.Mem.head _))
        subst he
        have HC34 := SE_Ints_ok (World.alloc W16 (.cells #[Value.int .i64 (1), Value.int .i64 (0), Value.int .i64 (2)] 3)) cap37 (HP.rd_I HOA.out (List.Mem.tail _ (List.Mem.head _))) 3 (HP.rd_I HOA.out (List.Mem.head _)) hy33
        clear hy33
        replace HC34 := Lib.hid HC34
        go_wp2_with fail
        refine HC34.out.mono ?_; rintro e W38 ⟨rfl, hd⟩
        try clear hc29
        replace HOA := Lib.hid (HOA.out.below (hd.below _))
        replace HD := Lib.hid (HD.out.trans ((hd.below _).mono HD.out.size))
        clear hd
        cases y35
        · replace HB24 := Lib.hid (ifF Bool.false_ne_true HB24.out)
          obtain rfl := Option.some.inj HB24.out
          obtain rfl := Option.some.inj HM.out
          go_wp2_with fail
          go_ret
          exact ⟨rfl, HD.out⟩
        · replace HB24 := Lib.hid (ifT rfl HB24.out)
          obtain rfl := Option.some.inj HB24.out
          obtain rfl := Option.some.inj HM.out
          go_wp2_with fail
          go_ret
          exact ⟨rfl, HD.out⟩
      · replace HB26 := Lib.hid (ifF (bF hc29) HB26.out)
        have HK30 := Lib.hid hc29
        obtain rfl := Option.some.inj HB26.out
        replace HB24 := Lib.hid (ifF (by first | exact Bool.false_ne_true | exact not_false) HB24.out)
        obtain rfl := Option.some.inj HB24.out
        obtain rfl := Option.some.inj HM.out
        go_wp2_with fail
        go_ret
        exact ⟨(by first | rfl | (refine congrArg (fun b => Ending.returned (Value.bool b)) ?_; first | (exact decide_eq_true (by omega)) | (exact decide_eq_false (by omega)))), HD.out⟩
    · rw [errV_pos _ hz15] at HC12; replace HC12 := Lib.hid HC12
      go_wp2_with fail
      refine HC12.out.mono ?_; rintro e W19 ⟨V20, rfl, ho, hd⟩
      replace HOA := Lib.hid (HOA.out.call hd HD.out.size ho); clear ho
      replace HD := Lib.hid (HD.out.trans (hd.mono HD.out.size))
      clear hd
      have HZ22 := Lib.hid hz15; clear hz15
      obtain ⟨b39, hb, hm⟩ := obind HM.out
      replace HM := Lib.hid hm; have HB40 := Lib.hid hb; clear hm hb
      obtain ⟨b41, hb, hm⟩ := obind HB40.out
      replace HB40 := Lib.hid hm; have HB42 := Lib.hid hb; clear hm hb
      obtain ⟨b43, hb, hm⟩ := obind HB42.out
      replace HB42 := Lib.hid hm; have HB44 := Lib.hid hb; clear hm hb
      replace HB44 := Lib.hid (ifT (by decide) HB44.out)
      replace HB44 := Lib.hid (ifF (fun h => HZ22.out (eq_of_beq h)) HB44.out)
      obtain rfl := Option.some.inj HB44.out
      replace HB42 := Lib.hid (ifF (by first | exact Bool.false_ne_true | exact not_false) HB42.out)
      obtain rfl := Option.some.inj HB42.out
      replace HB40 := Lib.hid (ifF (by first | exact Bool.false_ne_true | exact not_false) HB40.out)
      obtain rfl := Option.some.inj HB40.out
      obtain rfl := Option.some.inj HM.out
      go_wp2_with fail
      go_ret
      exact ⟨rfl, HD.out⟩
  · rw [errV_pos _ hz7] at HC4; replace HC4 := Lib.hid HC4
    go_wp2_with fail
    refine HC4.out.mono ?_; rintro e W9 ⟨rfl, hd⟩
    replace HOA := Lib.hid (HOA.out.below hd)
    replace HD := Lib.hid (HD.out.trans (hd.mono HD.out.size))
    clear hd
    have HZ10 := Lib.hid hz7; clear hz7
    obtain ⟨⟨y47, y48⟩, hy45, hm⟩ := obind HM.out
    dsimp only at hm
    replace HM := Lib.hid hm; clear hm
    have HC46 := common_Way_ok W9 2 (HP.rd_L HOA.out (List.Mem.head _)) hy45
    clear hy45
    by_cases hz49 : y48 = 0
    · subst hz49
      rw [errV_zero] at HC46; replace HC46 := Lib.hid HC46
      go_wp2_with fail
      refine HC46.out.mono ?_; rintro e W50 ⟨V51, rfl, ho, hd⟩
      replace HOA := Lib.hid (HOA.out.call hd HD.out.size ho); clear ho
      replace HD := Lib.hid (HD.out.trans (hd.mono HD.out.size))
      clear hd
      obtain ⟨b57, hb, hm⟩ := obind HM.out
      replace HM := Lib.hid hm; have HB58 := Lib.hid hb; clear hm hb
      obtain ⟨b59, hb, hm⟩ := obind HB58.out
      replace HB58 := Lib.hid hm; have HB60 := Lib.hid hb; clear hm hb
      obtain ⟨b61, hb, hm⟩ := obind HB60.out
      replace HB60 := Lib.hid hm; have HB62 := Lib.hid hb; clear hm hb
      replace HB62 := Lib.hid (ifF (fun h => HZ10.out (eq_of_beq h)) HB62.out)
      obtain rfl := Option.some.inj HB62.out
      replace HB60 := Lib.hid (ifF (by first | exact Bool.false_ne_true | exact not_false) HB60.out)
      obtain rfl := Option.some.inj HB60.out
      replace HB58 := Lib.hid (ifF (by first | exact Bool.false_ne_true | exact not_false) HB58.out)
      obtain rfl := Option.some.inj HB58.out
      obtain rfl := Option.some.inj HM.out
      go_wp2_with fail
      go_ret
      exact ⟨rfl, HD.out⟩
    · rw [errV_pos _ hz49] at HC46; replace HC46 := Lib.hid HC46
      go_wp2_with fail
      refine HC46.out.mono ?_; rintro e W53 ⟨V54, rfl, ho, hd⟩
      replace HOA := Lib.hid (HOA.out.call hd HD.out.size ho); clear ho
      replace HD := Lib.hid (HD.out.trans (hd.mono HD.out.size))
      clear hd
      have HZ56 := Lib.hid hz49; clear hz49
      obtain ⟨b63, hb, hm⟩ := obind HM.out
      replace HM := Lib.hid hm; have HB64 := Lib.hid hb; clear hm hb
      obtain ⟨b65, hb, hm⟩ := obind HB64.out
      replace HB64 := Lib.hid hm; have HB66 := Lib.hid hb; clear hm hb
      obtain ⟨b67, hb, hm⟩ := obind HB66.out
      replace HB66 := Lib.hid hm; have HB68 := Lib.hid hb; clear hm hb
      replace HB68 := Lib.hid (ifF (fun h => HZ10.out (eq_of_beq h)) HB68.out)
      obtain rfl := Option.some.inj HB68.out
      replace HB66 := Lib.hid (ifF (by first | exact Bool.false_ne_true | exact not_false) HB66.out)
      obtain rfl := Option.some.inj HB66.out
      replace HB64 := Lib.hid (ifF (by first | exact Bool.false_ne_true | exact not_false) HB64.out)
      obtain rfl := Option.some.inj HB64.out
      obtain rfl := Option.some.inj HM.out
      go_wp2_with fail
      go_ret
      exact ⟨rfl, HD.out⟩
def L3_CommonUps_L1 (F : Nat) (v0 : Int) (v1 : List (Int × Int)) (v2 : Int) (v5 : List Int) (v7 : List Int) : Nat → (Int) → Option ((Int) ⊕ (Bool))
  | 0, _ => none
  | g+1, v8 => if v8 < v0 then (((ix v5 v8).bind fun y8 => if (y8 == (-1)) = true then some true else some false).bind fun b7 => (if (v8 == v2) = true then some true else some false).bind fun b9 => if (b7 != b9) = true then some (.inr (false)) else ((if (v8 != v2) = true then ((ix v5 v8).bind fun y12 => (L3_in F (y12) (0) ((wrap64 (v0 - 1)))).bind fun y13 => if y13 = true then (ix v5 v8).bind fun y14 => (R1_Beside F (v1) (v8) (y14)).bind fun y15 => if y15 = true then some false else some true else some true).bind fun b11 => if b11 = true then some true else (ix v5 v8).bind fun y16 => (ix v7 y16).bind fun y17 => (ix v7 v8).bind fun y18 => if (y17 != (wrap64 (y18 - 1))) = true then some true else some false else some false).bind fun b10 => if b10 = true then some (.inr (false)) else L3_CommonUps_L1 F v0 v1 v2 v5 v7 g ((wrap64 (v8 + 1))))) else some (.inl (v8))
theorem L3_CommonUps_L1_0 (F : Nat) (v0 : Int) (v1 : List (Int × Int)) (v2 : Int) (v5 : List Int) (v7 : List Int) (v8 : Int) : L3_CommonUps_L1 F v0 v1 v2 v5 v7 0 v8 = none := by rw [L3_CommonUps_L1]
theorem L3_CommonUps_L1_s (F g : Nat) (v0 : Int) (v1 : List (Int × Int)) (v2 : Int) (v5 : List Int) (v7 : List Int) (v8 : Int) : L3_CommonUps_L1 F v0 v1 v2 v5 v7 (g+1) v8 = (if v8 < v0 then (((ix v5 v8).bind fun y8 => if (y8 == (-1)) = true then some true else some false).bind fun b7 => (if (v8 == v2) = true then some true else some false).bind fun b9 => if (b7 != b9) = true then some (.inr (false)) else ((if (v8 != v2) = true then ((ix v5 v8).bind fun y12 => (L3_in F (y12) (0) ((wrap64 (v0 - 1)))).bind fun y13 => if y13 = true then (ix v5 v8).bind fun y14 => (R1_Beside F (v1) (v8) (y14)).bind fun y15 => if y15 = true then some false else some true else some true).bind fun b11 => if b11 = true then some true else (ix v5 v8).bind fun y16 => (ix v7 y16).bind fun y17 => (ix v7 v8).bind fun y18 => if (y17 != (wrap64 (y18 - 1))) = true then some true else some false else some false).bind fun b10 => if b10 = true then some (.inr (false)) else L3_CommonUps_L1 F v0 v1 v2 v5 v7 g ((wrap64 (v8 + 1))))) else some (.inl (v8))) := by rw [L3_CommonUps_L1]
def L3_CommonUps (F : Nat) (v0 : Int) (v1 : List (Int × Int)) (v2 : Int) : Option (Bool) := (L3_commonFact F ).bind fun y1 => (if y1 = true then (common_Ups F (v0) (v1) (v2)).bind fun y2 => (if (y2.2 != 0) = true then (if (((y2.1).length : Int) == 0) = true then some true else some false).bind fun b3 => some (b3) else (walk_From F (v0) (v1) (v2)).bind fun y4 => (((if (y4.2 != 0) = true then some true else if (((y2.1).length : Int) != v0) = true then some true else some false).bind fun b6 => if b6 = true then some true else if (((y4.1).length : Int) != v0) = true then some true else some false).bind fun b5 => if b5 = true then some (false) else (L3_CommonUps_L1 F (v0) (v1) (v2) (y2.1) (y4.1) F (0)).bind fun o19 => match o19 with | .inr r => some (r) | .inl o19 => some (true))) else some (false))
set_option maxRecDepth 100000 in
set_option maxHeartbeats 4000000 in
theorem L3_CommonUps_ok {F : Nat} {v0 : Int} {v1 : List (Int × Int)} {A1 : Option Addr} {v2 : Int} {r : Bool} (w : World) (cap1 : Nat) (hr1 : ReadsL w w.heap.size A1 v1) (h : L3_CommonUps F v0 v1 v2 = some r) :
    Calls Try.prog 5 #[.int .i64 v0, .slice A1 v1.length cap1, .int .i64 v2] w fun e w' => e = .returned (.bool r) ∧ Below w.heap.size w w' := by
  have HR1 := Lib.hid hr1; clear hr1
  have HD := Lib.hid (Below.refl w.heap.size w)
  have HOA := Lib.hid (HP.nil (W := w) (B := w.heap.size))
  unfold L3_CommonUps at h
  have HM := Lib.hid h; clear h
  go_enter Try.func5, Try.ntmps5
  obtain ⟨y3, hy1, hm⟩ := obind HM.out
  replace HM := Lib.hid hm; clear hm
  have HC2 := L3_commonFact_ok w  hy1
  clear hy1
  replace HC2 := Lib.hid HC2
  go_wp2_with fail
  refine HC2.out.mono ?_; rintro e W4 ⟨rfl, hd⟩
  replace HOA := Lib.hid (HOA.out.below hd)
  replace HD := Lib.hid (HD.out.trans (hd.mono HD.out.size))
  clear hd
  cases y3
  · replace HM := Lib.hid (ifF Bool.false_ne_true HM.out)
    obtain rfl := Option.some.inj HM.out
    go_wp2_with fail
    go_ret
    exact ⟨rfl, HD.out⟩
  · replace HM := Lib.hid (ifT rfl HM.out)
    obtain ⟨⟨y7, y8⟩, hy5, hm⟩ := obind HM.out
    dsimp only at hm
    replace HM := Lib.hid hm; clear hm
    have HC6 := common_Ups_ok W4 cap1 (rdL HD.out HR1.out) hy5
    clear hy5
    by_cases hz9 : y8 = 0
    · subst hz9
      rw [errV_zero] at HC6; replace HC6 := Lib.hid HC6
      go_wp2_with fail
      refine HC6.out.mono ?_; rintro e W10 ⟨V11, rfl, ho, hd⟩
      replace HOA := Lib.hid (HOA.out.call hd HD.out.size ho); clear ho
      replace HD := Lib.hid (HD.out.trans (hd.mono HD.out.size))
      clear hd
      replace HM := Lib.hid (ifF (by decide) HM.out)
      obtain ⟨⟨y19, y20⟩, hy17, hm⟩ := obind HM.out
      dsimp only at hm
      replace HM := Lib.hid hm; clear hm
      have HC18 := walk_From_ok W10 cap1 (rdL HD.out HR1.out) hy17
      clear hy17
      by_cases hz21 : y20 = 0
      · subst hz21
        rw [errV_zero] at HC18; replace HC18 := Lib.hid HC18
        go_wp2_with fail
        refine HC18.out.mono ?_; rintro e W22 ⟨V23, rfl, ho, hd⟩
        replace HOA := Lib.hid (HOA.out.call hd HD.out.size ho); clear ho
        replace HD := Lib.hid (HD.out.trans (hd.mono HD.out.size))
        clear hd
        go_upto_region 8 with (fail)
        obtain ⟨b29, hb, hm⟩ := obind HM.out
        replace HM := Lib.hid hm; have HB30 := Lib.hid hb; clear hm hb
        go_cut [47] (fun uq wr => uq = .bool b29 ∧ Hid (Below W22.heap.size W22 wr))
        case first =>
          have HWC31 := Lib.hid (Below.refl W22.heap.size W22)
          obtain ⟨b32, hb, hm⟩ := obind HB30.out
          replace HB30 := Lib.hid hm; have HB33 := Lib.hid hb; clear hm hb
          replace HB33 := Lib.hid (ifF (by decide) HB33.out)
          obtain ⟨A34, cap35, he, _⟩ := HP.open_I HOA.out (List.Mem.tail _ (List.Mem.head _))
          subst he
          rcases Bool.eq_false_or_eq_true (((y7).length : Int) != v0) with hc36 | hc36
          · replace HB33 := Lib.hid (ifT hc36 HB33.out)
            have HK37 := Lib.hid hc36
            obtain rfl := Option.some.inj HB33.out
            replace HB30 := Lib.hid (ifT (by first | rfl | trivial) HB30.out)
            cases Option.some.inj HB30.out
            try go_wp2_with fail
            go_meet
            case rel => exact ⟨rfl, HWC31⟩
          · replace HB33 := Lib.hid (ifF (bF hc36) HB33.out)
            have HK37 := Lib.hid hc36
            obtain rfl := Option.some.inj HB33.out
            replace HB30 := Lib.hid (ifF (by first | exact Bool.false_ne_true | exact not_false) HB30.out)
            obtain ⟨A38, cap39, he, _⟩ := HP.open_I HOA.out (List.Mem.head _)
            subst he
            rcases Bool.eq_false_or_eq_true (((y19).length : Int) != v0) with hc40 | hc40
            · replace HB30 := Lib.hid (ifT hc40 HB30.out)
              have HK41 := Lib.hid hc40
              cases Option.some.inj HB30.out
              try go_wp2_with fail
              go_meet
              case rel => exact ⟨rfl, HWC31⟩
            · replace HB30 := Lib.hid (ifF (bF hc40) HB30.out)
              have HK41 := Lib.hid hc40
              cases Option.some.inj HB30.out
              try go_wp2_with fail
              go_meet
              case rel => exact ⟨rfl, HWC31⟩
        case rest =>
          obtain ⟨rfl, HWC31⟩ := hcut
          rename World => W42
          have hd := HWC31.out
          replace HOA := Lib.hid (HOA.out.below hd)
          replace HD := Lib.hid (HD.out.trans (hd.mono HD.out.size))
          clear hd
          cases b29
          · replace HM := Lib.hid (ifF Bool.false_ne_true HM.out)
            go_wp2_with fail
            obtain ⟨o43, ho, hm⟩ := obind HM.out
            replace HM := Lib.hid hm; have HL1 := Lib.hid ho; clear hm ho
            go_loopg [11] F (fun gg ux45 wr => ∃ (x44 : Int), ux45 = .int .i64 x44 ∧ Hid (Below W42.heap.size W42 wr) ∧ Hid (L3_CommonUps_L1 F (v0) (v1) (v2) (y7) (y19) gg x44 = some o43))
            case atStart => exact ⟨0, rfl, (Lib.hid (Below.refl _ _)), HL1⟩
            case round =>
              obtain ⟨x44, rfl, HW1, HL1⟩ := hrel
              rename World => W46
              have hd := HW1.out
              replace HOA := Lib.hid (HOA.out.below hd)
              replace HD := Lib.hid (HD.out.trans (hd.mono HD.out.size))
              clear hd
              cases gk with
              | zero => exact absurd ((L3_CommonUps_L1_0 ..).symm.trans HL1.out) (by intro h; cases h)
              | succ g1 =>
                replace HL1 := Lib.hid ((L3_CommonUps_L1_s ..).symm.trans HL1.out)
                by_cases hc47 : x44 < v0
                · replace HL1 := Lib.hid (ifT hc47 HL1.out)
                  have HK48 := Lib.hid hc47
                  obtain ⟨b49, hb, hm⟩ := obind HL1.out
                  replace HL1 := Lib.hid hm; have HB50 := Lib.hid hb; clear hm hb
                  obtain ⟨A53, cap54, he, _⟩ := HP.open_I HOA.out (List.Mem.tail _ (List.Mem.head _))
                  subst he
                  obtain ⟨y51, hy52, hm⟩ := obind HB50.out
                  replace HB50 := Lib.hid hm; clear hm
                  obtain ⟨b55, o56, ea57, _, f58, f59, f60⟩ := ReadsI.ix (HP.rd_I HOA.out (List.Mem.tail _ (List.Mem.head _))) hy52
                  cases ea57
                  try simp only [Nat.zero_add, Nat.add_zero, Int.toNat_natCast, Int.toNat_zero, Int.toNat_one] at f60
                  try rw [← HP.len_I HOA.out (List.Mem.tail _ (List.Mem.head _))] at f59
                  have HY62 := Lib.hid hy52; clear hy52
                  rcases Bool.eq_false_or_eq_true (y51 == (-1)) with hc63 | hc63
                  · replace HB50 := Lib.hid (ifT hc63 HB50.out)
                    have HK64 := Lib.hid hc63
                    obtain rfl := Option.some.inj HB50.out
                    obtain ⟨b65, hb, hm⟩ := obind HL1.out
                    replace HL1 := Lib.hid hm; have HB66 := Lib.hid hb; clear hm hb
                    rcases Bool.eq_false_or_eq_true (x44 == v2) with hc67 | hc67
                    · replace HB66 := Lib.hid (ifT hc67 HB66.out)
                      have HK68 := Lib.hid hc67
                      obtain rfl := Option.some.inj HB66.out
                      replace HL1 := Lib.hid (ifF (by decide) HL1.out)
                      try go_wp2_with fail
                      try clear hc47 f58 f59 f60 hc63 hc67
                      obtain ⟨b69, hb, hm⟩ := obind HL1.out
                      replace HL1 := Lib.hid hm; have HB70 := Lib.hid hb; clear hm hb
                      have hc71 : (x44 != v2) = false := by first | (have q := HK68.out; simpa using q) | (rw [bne, HK68.out]; rfl)
                      replace HB70 := Lib.hid (ifF (bF hc71) HB70.out)
                      obtain rfl := Option.some.inj HB70.out
                      replace HL1 := Lib.hid (ifF (by first | exact Bool.false_ne_true | exact not_false) HL1.out)
                      go_quiet (fail)
                      generalize hW : World.drewN W46 _ = W72
                      have hd : Dr W46 W72 := ⟨_, hW.symm⟩
                      clear hW
                      try clear hc71
                      replace HOA := Lib.hid (HOA.out.below (hd.below _))
                      replace HD := Lib.hid (HD.out.trans ((hd.below _).mono HD.out.size))
                      replace HW1 := Lib.hid (HW1.out.trans ((hd.below _).mono HW1.out.size))
                      clear hd
                      go_wp2_with fail
                      go_roundg g1
                      case measure => omega
                      case rel => exact ⟨(wrap64 (x44 + 1)), rfl, HW1, HL1⟩
                    · replace HB66 := Lib.hid (ifF (bF hc67) HB66.out)
                      have HK68 := Lib.hid hc67
                      obtain rfl := Option.some.inj HB66.out
                      replace HL1 := Lib.hid (ifT (by decide) HL1.out)
                      obtain rfl := Option.some.inj HL1.out
                      have hm := HM.out; try dsimp only at hm
                      replace HM := Lib.hid hm; clear hm
                      obtain rfl := Option.some.inj HM.out
                      go_wp2_with fail
                      try clear f58 f59 f60
                      go_ret
                      exact ⟨(by first | rfl | (refine congrArg (fun b => Ending.returned (Value.bool b)) ?_; first | (exact decide_eq_true (by omega)) | (exact decide_eq_false (by omega)))), HD.out⟩
                  · replace HB50 := Lib.hid (ifF (bF hc63) HB50.out)
                    have HK64 := Lib.hid hc63
                    obtain rfl := Option.some.inj HB50.out
                    obtain ⟨b73, hb, hm⟩ := obind HL1.out
                    replace HL1 := Lib.hid hm; have HB74 := Lib.hid hb; clear hm hb
                    rcases Bool.eq_false_or_eq_true (x44 == v2) with hc75 | hc75
                    · replace HB74 := Lib.hid (ifT hc75 HB74.out)
                      have HK76 := Lib.hid hc75
                      obtain rfl := Option.some.inj HB74.out
                      replace HL1 := Lib.hid (ifT (by decide) HL1.out)
                      obtain rfl := Option.some.inj HL1.out
                      have hm := HM.out; try dsimp only at hm
                      replace HM := Lib.hid hm; clear hm
                      obtain rfl := Option.some.inj HM.out
                      go_wp2_with fail
                      try clear f58 f59 f60
                      go_ret
                      exact ⟨(by first | rfl | (refine congrArg (fun b => Ending.returned (Value.bool b)) ?_; first | (exact decide_eq_true (by omega)) | (exact decide_eq_false (by omega)))), HD.out⟩
                    · replace HB74 := Lib.hid (ifF (bF hc75) HB74.out)
                      have HK76 := Lib.hid hc75
                      obtain rfl := Option.some.inj HB74.out
                      replace HL1 := Lib.hid (ifF (by decide) HL1.out)
                      try go_wp2_with fail
                      try clear hc47 f58 f59 f60 hc63 hc75
                      obtain ⟨b77, hb, hm⟩ := obind HL1.out
                      replace HL1 := Lib.hid hm; have HB78 := Lib.hid hb; clear hm hb
                      have hc79 : (x44 != v2) = true := by first | (have q := HK76.out; simpa using q) | (rw [bne, HK76.out]; rfl)
                      replace HB78 := Lib.hid (ifT hc79 HB78.out)
                      obtain ⟨b80, hb, hm⟩ := obind HB78.out
                      replace HB78 := Lib.hid hm; have HB81 := Lib.hid hb; clear hm hb
                      obtain ⟨y82, hy83, hm⟩ := obind HB81.out
                      replace HB81 := Lib.hid hm; clear hm
                      obtain ⟨b84, o85, ea86, _, f87, f88, f89⟩ := ReadsI.ix (HP.rd_I HOA.out (List.Mem.tail _ (List.Mem.head _))) hy83
                      cases ea86
                      try simp only [Nat.zero_add, Nat.add_zero, Int.toNat_natCast, Int.toNat_zero, Int.toNat_one] at f89
                      try rw [← HP.len_I HOA.out (List.Mem.tail _ (List.Mem.head _))] at f88
                      have HY91 := Lib.hid hy83; clear hy83
                      obtain ⟨y94, hy92, hm⟩ := obind HB81.out
                      replace HB81 := Lib.hid hm; clear hm
                      have HC93 := Lib.hid (fun m => L3_in_ok (W46.drewN m)  hy92)
                      clear hy92
                      cases y94
                      · replace HB81 := Lib.hid (ifF Bool.false_ne_true HB81.out)
                        obtain rfl := Option.some.inj HB81.out
                        replace HB78 := Lib.hid (ifT (by first | rfl | trivial) HB78.out)
                        obtain rfl := Option.some.inj HB78.out
                        replace HL1 := Lib.hid (ifT (by first | rfl | trivial) HL1.out)
                        go_quiet (first | (go_at_call 10; exact quiet_left (HC93.out _)))
                        generalize hW : World.drewN W46 _ = W95
                        have hd : Dr W46 W95 := ⟨_, hW.symm⟩
                        clear hW
                        try clear hc79 f87 f88 f89
                        replace HOA := Lib.hid (HOA.out.below (hd.below _))
                        replace HD := Lib.hid (HD.out.trans ((hd.below _).mono HD.out.size))
                        replace HW1 := Lib.hid (HW1.out.trans ((hd.below _).mono HW1.out.size))
                        clear hd
                        obtain rfl := Option.some.inj HL1.out
                        have hm := HM.out; try dsimp only at hm
                        replace HM := Lib.hid hm; clear hm
                        obtain rfl := Option.some.inj HM.out
                        go_wp2_with fail
                        go_ret
                        exact ⟨rfl, HD.out⟩
                      · replace HB81 := Lib.hid (ifT rfl HB81.out)
                        obtain ⟨y96, hy97, hm⟩ := obind HB81.out
                        replace HB81 := Lib.hid hm; clear hm
                        obtain rfl := Option.some.inj (HY91.out.symm.trans hy97)
                        clear hy97
                        obtain ⟨y100, hy98, hm⟩ := obind HB81.out
                        replace HB81 := Lib.hid hm; clear hm
                        have HC99 := Lib.hid (fun m => R1_Beside_ok (W46.drewN m) cap1 (ReadsL.drewN' (rdL HD.out HR1.out) m) hy98)
                        clear hy98
                        cases y100
                        · replace HB81 := Lib.hid (ifF Bool.false_ne_true HB81.out)
                          obtain rfl := Option.some.inj HB81.out
                          replace HB78 := Lib.hid (ifT (by first | rfl | trivial) HB78.out)
                          obtain rfl := Option.some.inj HB78.out
                          replace HL1 := Lib.hid (ifT (by first | rfl | trivial) HL1.out)
                          go_quiet (first | (go_at_call 10; with_reducible exact quiet_left (HC93.out _)) | (go_at_call 15; with_reducible exact quiet_left (HC99.out _)))
                          generalize hW : World.drewN W46 _ = W101
                          have hd : Dr W46 W101 := ⟨_, hW.symm⟩
                          clear hW
                          try clear hc79 f87 f88 f89
                          replace HOA := Lib.hid (HOA.out.below (hd.below _))
                          replace HD := Lib.hid (HD.out.trans ((hd.below _).mono HD.out.size))
                          replace HW1 := Lib.hid (HW1.out.trans ((hd.below _).mono HW1.out.size))
                          clear hd
                          obtain rfl := Option.some.inj HL1.out
                          have hm := HM.out; try dsimp only at hm
                          replace HM := Lib.hid hm; clear hm
                          obtain rfl := Option.some.inj HM.out
                          go_wp2_with fail
                          go_ret
                          exact ⟨rfl, HD.out⟩
                        · replace HB81 := Lib.hid (ifT rfl HB81.out)
                          obtain rfl := Option.some.inj HB81.out
                          replace HB78 := Lib.hid (ifF (by first | exact Bool.false_ne_true | exact not_false) HB78.out)
                          obtain ⟨y102, hy103, hm⟩ := obind HB78.out
                          replace HB78 := Lib.hid hm; clear hm
                          obtain rfl := Option.some.inj (HY91.out.symm.trans hy103)
                          clear hy103
                          obtain ⟨A106, cap107, he, _⟩ := HP.open_I HOA.out (List.Mem.head _)
                          subst he
                          obtain ⟨y104, hy105, hm⟩ := obind HB78.out
                          replace HB78 := Lib.hid hm; clear hm
                          obtain ⟨b108, o109, ea110, _, f111, f112, f113⟩ := ReadsI.ix (HP.rd_I HOA.out (List.Mem.head _)) hy105
                          cases ea110
                          try simp only [Nat.zero_add, Nat.add_zero, Int.toNat_natCast, Int.toNat_zero, Int.toNat_one] at f113
                          try rw [← HP.len_I HOA.out (List.Mem.head _)] at f112
                          have HY115 := Lib.hid hy105; clear hy105
                          obtain ⟨y116, hy117, hm⟩ := obind HB78.out
                          replace HB78 := Lib.hid hm; clear hm
                          obtain ⟨b118, o119, ea120, _, f121, f122, f123⟩ := ReadsI.ix (HP.rd_I HOA.out (List.Mem.head _)) hy117
                          cases ea120
                          try simp only [Nat.zero_add, Nat.add_zero, Int.toNat_natCast, Int.toNat_zero, Int.toNat_one] at f123
                          try rw [← HP.len_I HOA.out (List.Mem.head _)] at f122
                          have HY125 := Lib.hid hy117; clear hy117
                          rcases Bool.eq_false_or_eq_true (y104 != (wrap64 (y116 - 1))) with hc126 | hc126
                          · replace HB78 := Lib.hid (ifT hc126 HB78.out)
                            have HK127 := Lib.hid hc126
                            obtain rfl := Option.some.inj HB78.out
                            replace HL1 := Lib.hid (ifT (by first | rfl | trivial) HL1.out)
                            go_quiet (first | (go_at_call 10; with_reducible exact quiet_left (HC93.out _)) | (go_at_call 15; with_reducible exact quiet_left (HC99.out _)))
                            generalize hW : World.drewN W46 _ = W128
                            have hd : Dr W46 W128 := ⟨_, hW.symm⟩
                            clear hW
                            try clear hc79 f87 f88 f89 f111 f112 f113 f121 f122 f123 hc126
                            replace HOA := Lib.hid (HOA.out.below (hd.below _))
                            replace HD := Lib.hid (HD.out.trans ((hd.below _).mono HD.out.size))
                            replace HW1 := Lib.hid (HW1.out.trans ((hd.below _).mono HW1.out.size))
                            clear hd
                            obtain rfl := Option.some.inj HL1.out
                            have hm := HM.out; try dsimp only at hm
                            replace HM := Lib.hid hm; clear hm
                            obtain rfl := Option.some.inj HM.out
                            go_wp2_with fail
                            go_ret
                            exact ⟨rfl, HD.out⟩
                          · replace HB78 := Lib.hid (ifF (bF hc126) HB78.out)
                            have HK127 := Lib.hid hc126
                            obtain rfl := Option.some.inj HB78.out
                            replace HL1 := Lib.hid (ifF (by first | exact Bool.false_ne_true | exact not_false) HL1.out)
                            go_quiet (first | (go_at_call 10; with_reducible exact quiet_left (HC93.out _)) | (go_at_call 15; with_reducible exact quiet_left (HC99.out _)))
                            generalize hW : World.drewN W46 _ = W129
                            have hd : Dr W46 W129 := ⟨_, hW.symm⟩
                            clear hW
                            try clear hc79 f87 f88 f89 f111 f112 f113 f121 f122 f123 hc126
                            replace HOA := Lib.hid (HOA.out.below (hd.below _))
                            replace HD := Lib.hid (HD.out.trans ((hd.below _).mono HD.out.size))
                            replace HW1 := Lib.hid (HW1.out.trans ((hd.below _).mono HW1.out.size))
                            clear hd
                            go_wp2_with fail
                            go_roundg g1
                            case measure => omega
                            case rel => exact ⟨(wrap64 (x44 + 1)), rfl, HW1, HL1⟩
                · replace HL1 := Lib.hid (ifF hc47 HL1.out)
                  have hc47d := decide_eq_false hc47
                  have HK48 := Lib.hid hc47
                  obtain rfl := Option.some.inj HL1.out
                  have hm := HM.out; try dsimp only at hm
                  replace HM := Lib.hid hm; clear hm
                  obtain rfl := Option.some.inj HM.out
                  go_wp2_with fail
                  go_ret
                  exact ⟨(by first | rfl | (refine congrArg (fun b => Ending.returned (Value.bool b)) ?_; first | (exact decide_eq_true (by omega)) | (exact decide_eq_false (by omega)))), HD.out⟩
          · replace HM := Lib.hid (ifT rfl HM.out)
            obtain rfl := Option.some.inj HM.out
            go_wp2_with fail
            go_ret
            exact ⟨rfl, HD.out⟩
      · rw [errV_pos _ hz21] at HC18; replace HC18 := Lib.hid HC18
        go_wp2_with fail
        refine HC18.out.mono ?_; rintro e W25 ⟨V26, rfl, ho, hd⟩
        replace HOA := Lib.hid (HOA.out.call hd HD.out.size ho); clear ho
        replace HD := Lib.hid (HD.out.trans (hd.mono HD.out.size))
        clear hd
        have HZ28 := Lib.hid hz21; clear hz21
        go_upto_region 8 with (fail)
        obtain ⟨b130, hb, hm⟩ := obind HM.out
        replace HM := Lib.hid hm; have HB131 := Lib.hid hb; clear hm hb
        go_cut [47] (fun uq wr => uq = .bool b130 ∧ Hid (Below W25.heap.size W25 wr))
        case first =>
          have HWC132 := Lib.hid (Below.refl W25.heap.size W25)
          obtain ⟨b133, hb, hm⟩ := obind HB131.out
          replace HB131 := Lib.hid hm; have HB134 := Lib.hid hb; clear hm hb
          replace HB134 := Lib.hid (ifT (bne_iff_ne.2 HZ28.out) HB134.out)
          obtain rfl := Option.some.inj HB134.out
          replace HB131 := Lib.hid (ifT (by first | rfl | trivial) HB131.out)
          cases Option.some.inj HB131.out
          try go_wp2_with fail
          go_meet
          case rel => exact ⟨rfl, HWC132⟩
        case rest =>
          obtain ⟨rfl, HWC132⟩ := hcut
          rename World => W135
          have hd := HWC132.out
          replace HOA := Lib.hid (HOA.out.below hd)
          replace HD := Lib.hid (HD.out.trans (hd.mono HD.out.size))
          clear hd
          cases b130
          · replace HM := Lib.hid (ifF Bool.false_ne_true HM.out)
            go_wp2_with fail
            obtain ⟨o136, ho, hm⟩ := obind HM.out
            replace HM := Lib.hid hm; have HL1 := Lib.hid ho; clear hm ho
            go_loopg [11] F (fun gg ux138 wr => ∃ (x137 : Int), ux138 = .int .i64 x137 ∧ Hid (Below W135.heap.size W135 wr) ∧ Hid (L3_CommonUps_L1 F (v0) (v1) (v2) (y7) (y19) gg x137 = some o136))
            case atStart => exact ⟨0, rfl, (Lib.hid (Below.refl _ _)), HL1⟩
            case round =>
              obtain ⟨x137, rfl, HW1, HL1⟩ := hrel
              rename World => W139
              have hd := HW1.out
              replace HOA := Lib.hid (HOA.out.below hd)
              replace HD := Lib.hid (HD.out.trans (hd.mono HD.out.size))
              clear hd
              cases gk with
              | zero => exact absurd ((L3_CommonUps_L1_0 ..).symm.trans HL1.out) (by intro h; cases h)
              | succ g1 =>
                replace HL1 := Lib.hid ((L3_CommonUps_L1_s ..).symm.trans HL1.out)
                by_cases hc140 : x137 < v0
                · replace HL1 := Lib.hid (ifT hc140 HL1.out)
                  have HK141 := Lib.hid hc140
                  obtain ⟨b142, hb, hm⟩ := obind HL1.out
                  replace HL1 := Lib.hid hm; have HB143 := Lib.hid hb; clear hm hb
                  obtain ⟨A146, cap147, he, _⟩ := HP.open_I HOA.out (List.Mem.tail _ (List.Mem.head _))
                  subst he
                  obtain ⟨y144, hy145, hm⟩ := obind HB143.out
                  replace HB143 := Lib.hid hm; clear hm
                  obtain ⟨b148, o149, ea150, _, f151, f152, f153⟩ := ReadsI.ix (HP.rd_I HOA.out (List.Mem.tail _ (List.Mem.head _))) hy145
                  cases ea150
                  try simp only [Nat.zero_add, Nat.add_zero, Int.toNat_natCast, Int.toNat_zero, Int.toNat_one] at f153
                  try rw [← HP.len_I HOA.out (List.Mem.tail _ (List.Mem.head _))] at f152
                  have HY155 := Lib.hid hy145; clear hy145
                  rcases Bool.eq_false_or_eq_true (y144 == (-1)) with hc156 | hc156
                  · replace HB143 := Lib.hid (ifT hc156 HB143.out)
                    have HK157 := Lib.hid hc156
                    obtain rfl := Option.some.inj HB143.out
                    obtain ⟨b158, hb, hm⟩ := obind HL1.out
                    replace HL1 := Lib.hid hm; have HB159 := Lib.hid hb; clear hm hb
                    rcases Bool.eq_false_or_eq_true (x137 == v2) with hc160 | hc160
                    · replace HB159 := Lib.hid (ifT hc160 HB159.out)
                      have HK161 := Lib.hid hc160
                      obtain rfl := Option.some.inj HB159.out
                      replace HL1 := Lib.hid (ifF (by decide) HL1.out)
                      try go_wp2_with fail
                      try clear hc140 f151 f152 f153 hc156 hc160
                      obtain ⟨b162, hb, hm⟩ := obind HL1.out
                      replace HL1 := Lib.hid hm; have HB163 := Lib.hid hb; clear hm hb
                      have hc164 : (x137 != v2) = false := by first | (have q := HK161.out; simpa using q) | (rw [bne, HK161.out]; rfl)
                      replace HB163 := Lib.hid (ifF (bF hc164) HB163.out)
                      obtain rfl := Option.some.inj HB163.out
                      replace HL1 := Lib.hid (ifF (by first | exact Bool.false_ne_true | exact not_false) HL1.out)
                      go_quiet (fail)
                      generalize hW : World.drewN W139 _ = W165
                      have hd : Dr W139 W165 := ⟨_, hW.symm⟩
                      clear hW
                      try clear hc164
                      replace HOA := Lib.hid (HOA.out.below (hd.below _))
                      replace HD := Lib.hid (HD.out.trans ((hd.below _).mono HD.out.size))
                      replace HW1 := Lib.hid (HW1.out.trans ((hd.below _).mono HW1.out.size))
                      clear hd
                      go_wp2_with fail
                      go_roundg g1
                      case measure => omega
                      case rel => exact ⟨(wrap64 (x137 + 1)), rfl, HW1, HL1⟩
                    · replace HB159 := Lib.hid (ifF (bF hc160) HB159.out)
                      have HK161 := Lib.hid hc160
                      obtain rfl := Option.some.inj HB159.out
                      replace HL1 := Lib.hid (ifT (by decide) HL1.out)
                      obtain rfl := Option.some.inj HL1.out
                      have hm := HM.out; try dsimp only at hm
                      replace HM := Lib.hid hm; clear hm
                      obtain rfl := Option.some.inj HM.out
                      go_wp2_with fail
                      try clear f151 f152 f153
                      go_ret
                      exact ⟨(by first | rfl | (refine congrArg (fun b => Ending.returned (Value.bool b)) ?_; first | (exact decide_eq_true (by omega)) | (exact decide_eq_false (by omega)))), HD.out⟩
                  · replace HB143 := Lib.hid (ifF (bF hc156) HB143.out)
                    have HK157 := Lib.hid hc156
                    obtain rfl := Option.some.inj HB143.out
                    obtain ⟨b166, hb, hm⟩ := obind HL1.out
                    replace HL1 := Lib.hid hm; have HB167 := Lib.hid hb; clear hm hb
                    rcases Bool.eq_false_or_eq_true (x137 == v2) with hc168 | hc168
                    · replace HB167 := Lib.hid (ifT hc168 HB167.out)
                      have HK169 := Lib.hid hc168
                      obtain rfl := Option.some.inj HB167.out
                      replace HL1 := Lib.hid (ifT (by decide) HL1.out)
                      obtain rfl := Option.some.inj HL1.out
                      have hm := HM.out; try dsimp only at hm
                      replace HM := Lib.hid hm; clear hm
                      obtain rfl := Option.some.inj HM.out
                      go_wp2_with fail
                      try clear f151 f152 f153
                      go_ret
                      exact ⟨(by first | rfl | (refine congrArg (fun b => Ending.returned (Value.bool b)) ?_; first | (exact decide_eq_true (by omega)) | (exact decide_eq_false (by omega)))), HD.out⟩
                    · replace HB167 := Lib.hid (ifF (bF hc168) HB167.out)
                      have HK169 := Lib.hid hc168
                      obtain rfl := Option.some.inj HB167.out
                      replace HL1 := Lib.hid (ifF (by decide) HL1.out)
                      try go_wp2_with fail
                      try clear hc140 f151 f152 f153 hc156 hc168
                      obtain ⟨b170, hb, hm⟩ := obind HL1.out
                      replace HL1 := Lib.hid hm; have HB171 := Lib.hid hb; clear hm hb
                      have hc172 : (x137 != v2) = true := by first | (have q := HK169.out; simpa using q) | (rw [bne, HK169.out]; rfl)
                      replace HB171 := Lib.hid (ifT hc172 HB171.out)
                      obtain ⟨b173, hb, hm⟩ := obind HB171.out
                      replace HB171 := Lib.hid hm; have HB174 := Lib.hid hb; clear hm hb
                      obtain ⟨y175, hy176, hm⟩ := obind HB174.out
                      replace HB174 := Lib.hid hm; clear hm
                      obtain ⟨b177, o178, ea179, _, f180, f181, f182⟩ := ReadsI.ix (HP.rd_I HOA.out (List.Mem.tail _ (List.Mem.head _))) hy176
                      cases ea179
                      try simp only [Nat.zero_add, Nat.add_zero, Int.toNat_natCast, Int.toNat_zero, Int.toNat_one] at f182
                      try rw [← HP.len_I HOA.out (List.Mem.tail _ (List.Mem.head _))] at f181
                      have HY184 := Lib.hid hy176; clear hy176
                      obtain ⟨y187, hy185, hm⟩ := obind HB174.out
                      replace HB174 := Lib.hid hm; clear hm
                      have HC186 := Lib.hid (fun m => L3_in_ok (W139.drewN m)  hy185)
                      clear hy185
                      cases y187
                      · replace HB174 := Lib.hid (ifF Bool.false_ne_true HB174.out)
                        obtain rfl := Option.some.inj HB174.out
                        replace HB171 := Lib.hid (ifT (by first | rfl | trivial) HB171.out)
                        obtain rfl := Option.some.inj HB171.out
                        replace HL1 := Lib.hid (ifT (by first | rfl | trivial) HL1.out)
                        go_quiet (first | (go_at_call 10; exact quiet_left (HC186.out _)))
                        generalize hW : World.drewN W139 _ = W188
                        have hd : Dr W139 W188 := ⟨_, hW.symm⟩
                        clear hW
                        try clear hc172 f180 f181 f182
                        replace HOA := Lib.hid (HOA.out.below (hd.below _))
                        replace HD := Lib.hid (HD.out.trans ((hd.below _).mono HD.out.size))
                        replace HW1 := Lib.hid (HW1.out.trans ((hd.below _).mono HW1.out.size))
                        clear hd
                        obtain rfl := Option.some.inj HL1.out
                        have hm := HM.out; try dsimp only at hm
                        replace HM := Lib.hid hm; clear hm
                        obtain rfl := Option.some.inj HM.out
                        go_wp2_with fail
                        go_ret
                        exact ⟨rfl, HD.out⟩
                      · replace HB174 := Lib.hid (ifT rfl HB174.out)
                        obtain ⟨y189, hy190, hm⟩ := obind HB174.out
                        replace HB174 := Lib.hid hm; clear hm
                        obtain rfl := Option.some.inj (HY184.out.symm.trans hy190)
                        clear hy190
                        obtain ⟨y193, hy191, hm⟩ := obind HB174.out
                        replace HB174 := Lib.hid hm; clear hm
                        have HC192 := Lib.hid (fun m => R1_Beside_ok (W139.drewN m) cap1 (ReadsL.drewN' (rdL HD.out HR1.out) m) hy191)
                        clear hy191
                        cases y193
                        · replace HB174 := Lib.hid (ifF Bool.false_ne_true HB174.out)
                          obtain rfl := Option.some.inj HB174.out
                          replace HB171 := Lib.hid (ifT (by first | rfl | trivial) HB171.out)
                          obtain rfl := Option.some.inj HB171.out
                          replace HL1 := Lib.hid (ifT (by first | rfl | trivial) HL1.out)
                          go_quiet (first | (go_at_call 10; with_reducible exact quiet_left (HC186.out _)) | (go_at_call 15; with_reducible exact quiet_left (HC192.out _)))
                          generalize hW : World.drewN W139 _ = W194
                          have hd : Dr W139 W194 := ⟨_, hW.symm⟩
                          clear hW
                          try clear hc172 f180 f181 f182
                          replace HOA := Lib.hid (HOA.out.below (hd.below _))
                          replace HD := Lib.hid (HD.out.trans ((hd.below _).mono HD.out.size))
                          replace HW1 := Lib.hid (HW1.out.trans ((hd.below _).mono HW1.out.size))
                          clear hd
                          obtain rfl := Option.some.inj HL1.out
                          have hm := HM.out; try dsimp only at hm
                          replace HM := Lib.hid hm; clear hm
                          obtain rfl := Option.some.inj HM.out
                          go_wp2_with fail
                          go_ret
                          exact ⟨rfl, HD.out⟩
                        · replace HB174 := Lib.hid (ifT rfl HB174.out)
                          obtain rfl := Option.some.inj HB174.out
                          replace HB171 := Lib.hid (ifF (by first | exact Bool.false_ne_true | exact not_false) HB171.out)
                          obtain ⟨y195, hy196, hm⟩ := obind HB171.out
                          replace HB171 := Lib.hid hm; clear hm
                          obtain rfl := Option.some.inj (HY184.out.symm.trans hy196)
                          clear hy196
                          obtain ⟨A199, cap200, he, _⟩ := HP.open_I HOA.out (List.Mem.head _)
                          subst he
                          obtain ⟨y197, hy198, hm⟩ := obind HB171.out
                          replace HB171 := Lib.hid hm; clear hm
                          obtain ⟨b201, o202, ea203, _, f204, f205, f206⟩ := ReadsI.ix (HP.rd_I HOA.out (List.Mem.head _)) hy198
                          cases ea203
                          try simp only [Nat.zero_add, Nat.add_zero, Int.toNat_natCast, Int.toNat_zero, Int.toNat_one] at f206
                          try rw [← HP.len_I HOA.out (List.Mem.head _)] at f205
                          have HY208 := Lib.hid hy198; clear hy198
                          obtain ⟨y209, hy210, hm⟩ := obind HB171.out
                          replace HB171 := Lib.hid hm; clear hm
                          obtain ⟨b211, o212, ea213, _, f214, f215, f216⟩ := ReadsI.ix (HP.rd_I HOA.out (List.Mem.head _)) hy210
                          cases ea213
                          try simp only [Nat.zero_add, Nat.add_zero, Int.toNat_natCast, Int.toNat_zero, Int.toNat_one] at f216
                          try rw [← HP.len_I HOA.out (List.Mem.head _)] at f215
                          have HY218 := Lib.hid hy210; clear hy210
                          rcases Bool.eq_false_or_eq_true (y197 != (wrap64 (y209 - 1))) with hc219 | hc219
                          · replace HB171 := Lib.hid (ifT hc219 HB171.out)
                            have HK220 := Lib.hid hc219
                            obtain rfl := Option.some.inj HB171.out
                            replace HL1 := Lib.hid (ifT (by first | rfl | trivial) HL1.out)
                            go_quiet (first | (go_at_call 10; with_reducible exact quiet_left (HC186.out _)) | (go_at_call 15; with_reducible exact quiet_left (HC192.out _)))
                            generalize hW : World.drewN W139 _ = W221
                            have hd : Dr W139 W221 := ⟨_, hW.symm⟩
                            clear hW
                            try clear hc172 f180 f181 f182 f204 f205 f206 f214 f215 f216 hc219
                            replace HOA := Lib.hid (HOA.out.below (hd.below _))
                            replace HD := Lib.hid (HD.out.trans ((hd.below _).mono HD.out.size))
                            replace HW1 := Lib.hid (HW1.out.trans ((hd.below _).mono HW1.out.size))
                            clear hd
                            obtain rfl := Option.some.inj HL1.out
                            have hm := HM.out; try dsimp only at hm
                            replace HM := Lib.hid hm; clear hm
                            obtain rfl := Option.some.inj HM.out
                            go_wp2_with fail
                            go_ret
                            exact ⟨rfl, HD.out⟩
                          · replace HB171 := Lib.hid (ifF (bF hc219) HB171.out)
                            have HK220 := Lib.hid hc219
                            obtain rfl := Option.some.inj HB171.out
                            replace HL1 := Lib.hid (ifF (by first | exact Bool.false_ne_true | exact not_false) HL1.out)
                            go_quiet (first | (go_at_call 10; with_reducible exact quiet_left (HC186.out _)) | (go_at_call 15; with_reducible exact quiet_left (HC192.out _)))
                            generalize hW : World.drewN W139 _ = W222
                            have hd : Dr W139 W222 := ⟨_, hW.symm⟩
                            clear hW
                            try clear hc172 f180 f181 f182 f204 f205 f206 f214 f215 f216 hc219
                            replace HOA := Lib.hid (HOA.out.below (hd.below _))
                            replace HD := Lib.hid (HD.out.trans ((hd.below _).mono HD.out.size))
                            replace HW1 := Lib.hid (HW1.out.trans ((hd.below _).mono HW1.out.size))
                            clear hd
                            go_wp2_with fail
                            go_roundg g1
                            case measure => omega
                            case rel => exact ⟨(wrap64 (x137 + 1)), rfl, HW1, HL1⟩
                · replace HL1 := Lib.hid (ifF hc140 HL1.out)
                  have hc140d := decide_eq_false hc140
                  have HK141 := Lib.hid hc140
                  obtain rfl := Option.some.inj HL1.out
                  have hm := HM.out; try dsimp only at hm
                  replace HM := Lib.hid hm; clear hm
                  obtain rfl := Option.some.inj HM.out
                  go_wp2_with fail
                  go_ret
                  exact ⟨(by first | rfl | (refine congrArg (fun b => Ending.returned (Value.bool b)) ?_; first | (exact decide_eq_true (by omega)) | (exact decide_eq_false (by omega)))), HD.out⟩
          · replace HM := Lib.hid (ifT rfl HM.out)
            obtain rfl := Option.some.inj HM.out
            go_wp2_with fail
            go_ret
            exact ⟨rfl, HD.out⟩
    · rw [errV_pos _ hz9] at HC6; replace HC6 := Lib.hid HC6
      go_wp2_with fail
      refine HC6.out.mono ?_; rintro e W13 ⟨V14, rfl, ho, hd⟩
      replace HOA := Lib.hid (HOA.out.call hd HD.out.size ho); clear ho
      replace HD := Lib.hid (HD.out.trans (hd.mono HD.out.size))
      clear hd
      have HZ16 := Lib.hid hz9; clear hz9
      replace HM := Lib.hid (ifT (bne_iff_ne.2 HZ16.out) HM.out)
      obtain ⟨b223, hb, hm⟩ := obind HM.out
      replace HM := Lib.hid hm; have HB224 := Lib.hid hb; clear hm hb
      obtain ⟨A225, cap226, he, _⟩ := HP.open_I HOA.out (List.Mem.head _)
      subst he
      rcases Bool.eq_false_or_eq_true (((y7).length : Int) == 0) with hc227 | hc227
      · replace HB224 := Lib.hid (ifT hc227 HB224.out)
        have HK228 := Lib.hid hc227
        obtain rfl := Option.some.inj HB224.out
        obtain rfl := Option.some.inj HM.out
        go_wp2_with fail
        go_ret
        exact ⟨(by first | rfl | (refine congrArg (fun b => Ending.returned (Value.bool b)) ?_; first | (exact decide_eq_true (by omega)) | (exact decide_eq_false (by omega)))), HD.out⟩
      · replace HB224 := Lib.hid (ifF (bF hc227) HB224.out)
        have HK228 := Lib.hid hc227
        obtain rfl := Option.some.inj HB224.out
        obtain rfl := Option.some.inj HM.out
        go_wp2_with fail
        go_ret
        exact ⟨(by first | rfl | (refine congrArg (fun b => Ending.returned (Value.bool b)) ?_; first | (exact decide_eq_true (by omega)) | (exact decide_eq_false (by omega)))), HD.out⟩
def L3_CommonThree_L1 (F : Nat) (v7 : List Int) (v9 : List Int) (v11 : List Int) : Nat → (List Int) → (Int) → Option (List Int × Int)
  | 0, _, _ => none
  | g+1, v13, v14 => if v14 < ((v7).length : Int) then (((ix v7 v14).bind fun y9 => (R1_Has F (v9) (y9)).bind fun y10 => if y10 = true then (ix v7 v14).bind fun y11 => (R1_Has F (v11) (y11)).bind fun y12 => if y12 = true then some true else some false else some false).bind fun b8 => if b8 = true then (ix v7 v14).bind fun y14 => (app v13 y14).bind fun y13 => L3_CommonThree_L1 F v7 v9 v11 g (y13) ((wrap64 (v14 + 1))) else L3_CommonThree_L1 F v7 v9 v11 g (v13) ((wrap64 (v14 + 1)))) else some (v13, v14)
theorem L3_CommonThree_L1_0 (F : Nat) (v7 : List Int) (v9 : List Int) (v11 : List Int) (v13 : List Int) (v14 : Int) : L3_CommonThree_L1 F v7 v9 v11 0 v13 v14 = none := by rw [L3_CommonThree_L1]
theorem L3_CommonThree_L1_s (F g : Nat) (v7 : List Int) (v9 : List Int) (v11 : List Int) (v13 : List Int) (v14 : Int) : L3_CommonThree_L1 F v7 v9 v11 (g+1) v13 v14 = (if v14 < ((v7).length : Int) then (((ix v7 v14).bind fun y9 => (R1_Has F (v9) (y9)).bind fun y10 => if y10 = true then (ix v7 v14).bind fun y11 => (R1_Has F (v11) (y11)).bind fun y12 => if y12 = true then some true else some false else some false).bind fun b8 => if b8 = true then (ix v7 v14).bind fun y14 => (app v13 y14).bind fun y13 => L3_CommonThree_L1 F v7 v9 v11 g (y13) ((wrap64 (v14 + 1))) else L3_CommonThree_L1 F v7 v9 v11 g (v13) ((wrap64 (v14 + 1)))) else some (v13, v14)) := by rw [L3_CommonThree_L1]
def L3_CommonThree (F : Nat) (v0 : Int) (v1 : List (Int × Int)) (v2 : Int) (v3 : Int) (v4 : Int) : Option (Bool) := (L3_commonFact F ).bind fun y1 => (if y1 = true then (common_Way F (v0) (v1) (v2) (v3)).bind fun y2 => (common_Way F (v0) (v1) (v3) (v4)).bind fun y3 => (common_Way F (v0) (v1) (v2) (v4)).bind fun y4 => (((if (y2.2 != 0) = true then some true else if (y3.2 != 0) = true then some true else some false).bind fun b6 => if b6 = true then some true else if (y4.2 != 0) = true then some true else some false).bind fun b5 => if b5 = true then (if (y2.2 == 0) = true then some true else if (((y2.1).length : Int) == 0) = true then some true else some false).bind fun b7 => some (b7) else (L3_CommonThree_L1 F (y2.1) (y3.1) (y4.1) F ([]) (0)).bind fun o15 => (common_Of F (v0) (v1) (v4) (v2) (v3)).bind fun y16 => (if (y16.2 == 0) = true then (SE_Ints F (o15.1) ([y16.1])).bind fun y18 => if y18 = true then some true else some false else some false).bind fun b17 => some (b17)) else some (false))
set_option maxRecDepth 100000 in
set_option maxHeartbeats 4000000 in
theorem L3_CommonThree_ok {F : Nat} {v0 : Int} {v1 : List (Int × Int)} {A1 : Option Addr} {v2 : Int} {v3 : Int} {v4 : Int} {r : Bool} (w : World) (cap1 : Nat) (hr1 : ReadsL w w.heap.size A1 v1) (h : L3_CommonThree F v0 v1 v2 v3 v4 = some r) :
    Calls Try.prog 4 #[.int .i64 v0, .slice A1 v1.length cap1, .int .i64 v2, .int .i64 v3, .int .i64 v4] w fun e w' => e = .returned (.bool r) ∧ Below w.heap.size w w' := by
  have HR1 := Lib.hid hr1; clear hr1
  have HD := Lib.hid (Below.refl w.heap.size w)
  have HOA := Lib.hid (HP.nil (W := w) (B := w.heap.size))
  unfold L3_CommonThree at h
  have HM := Lib.hid h; clear h
  go_enter Try.func4, Try.ntmps4
  obtain ⟨y3, hy1, hm⟩ := obind HM.out
  replace HM := Lib.hid hm; clear hm
  have HC2 := L3_commonFact_ok w  hy1
  clear hy1
  replace HC2 := Lib.hid HC2
  go_wp2_with fail
  refine HC2.out.mono ?_; rintro e W4 ⟨rfl, hd⟩
  replace HOA := Lib.hid (HOA.out.below hd)
  replace HD := Lib.hid (HD.out.trans (hd.mono HD.out.size))
  clear hd
  cases y3
  · replace HM := Lib.hid (ifF Bool.false_ne_true HM.out)
    obtain rfl := Option.some.inj HM.out
    go_wp2_with fail
    go_ret
    exact ⟨rfl, HD.out⟩
  · replace HM := Lib.hid (ifT rfl HM.out)
    obtain ⟨⟨y7, y8⟩, hy5, hm⟩ := obind HM.out
    dsimp only at hm
    replace HM := Lib.hid hm; clear hm
    have HC6 := common_Way_ok W4 cap1 (rdL HD.out HR1.out) hy5
    clear hy5
    by_cases hz9 : y8 = 0
    · subst hz9
      rw [errV_zero] at HC6; replace HC6 := Lib.hid HC6
      go_wp2_with fail
      refine HC6.out.mono ?_; rintro e W10 ⟨V11, rfl, ho, hd⟩
      replace HOA := Lib.hid (HOA.out.call hd HD.out.size ho); clear ho
      replace HD := Lib.hid (HD.out.trans (hd.mono HD.out.size))
      clear hd
      obtain ⟨⟨y19, y20⟩, hy17, hm⟩ := obind HM.out
      dsimp only at hm
      replace HM := Lib.hid hm; clear hm
      have HC18 := common_Way_ok W10 cap1 (rdL HD.out HR1.out) hy17
      clear hy17
      by_cases hz21 : y20 = 0
      · subst hz21
        rw [errV_zero] at HC18; replace HC18 := Lib.hid HC18
        go_wp2_with fail
        refine HC18.out.mono ?_; rintro e W22 ⟨V23, rfl, ho, hd⟩
        replace HOA := Lib.hid (HOA.out.call hd HD.out.size ho); clear ho
        replace HD := Lib.hid (HD.out.trans (hd.mono HD.out.size))
        clear hd
        obtain ⟨⟨y31, y32⟩, hy29, hm⟩ := obind HM.out
        dsimp only at hm
        replace HM := Lib.hid hm; clear hm
        have HC30 := common_Way_ok W22 cap1 (rdL HD.out HR1.out) hy29
        clear hy29
        by_cases hz33 : y32 = 0
        · subst hz33
          rw [errV_zero] at HC30; replace HC30 := Lib.hid HC30
          go_wp2_with fail
          refine HC30.out.mono ?_; rintro e W34 ⟨V35, rfl, ho, hd⟩
          replace HOA := Lib.hid (HOA.out.call hd HD.out.size ho); clear ho
          replace HD := Lib.hid (HD.out.trans (hd.mono HD.out.size))
          clear hd
          go_upto_region 7 with (fail)
          obtain ⟨b41, hb, hm⟩ := obind HM.out
          replace HM := Lib.hid hm; have HB42 := Lib.hid hb; clear hm hb
          go_cut [58] (fun uq wr => uq = .bool b41 ∧ Hid (Below W34.heap.size W34 wr))
          case first =>
            have HWC43 := Lib.hid (Below.refl W34.heap.size W34)
            obtain ⟨b44, hb, hm⟩ := obind HB42.out
            replace HB42 := Lib.hid hm; have HB45 := Lib.hid hb; clear hm hb
            replace HB45 := Lib.hid (ifF (by decide) HB45.out)
            replace HB45 := Lib.hid (ifF (by decide) HB45.out)
            obtain rfl := Option.some.inj HB45.out
            replace HB42 := Lib.hid (ifF (by first | exact Bool.false_ne_true | exact not_false) HB42.out)
            replace HB42 := Lib.hid (ifF (by decide) HB42.out)
            cases Option.some.inj HB42.out
            try go_wp2_with fail
            go_meet
            case rel => exact ⟨rfl, HWC43⟩
          case rest =>
            obtain ⟨rfl, HWC43⟩ := hcut
            rename World => W46
            have hd := HWC43.out
            replace HOA := Lib.hid (HOA.out.below hd)
            replace HD := Lib.hid (HD.out.trans (hd.mono HD.out.size))
            clear hd
            cases b41
            · replace HM := Lib.hid (ifF Bool.false_ne_true HM.out)
              replace HOA := Lib.hid (show HP _ _ (.fl (owI (.slice none 0 0) ([])) :: _) from HOA.out.pushNil _ _)
              go_wp2_with fail
              obtain ⟨o48, ho, hm⟩ := obind HM.out
              replace HM := Lib.hid hm; have HL1 := Lib.hid ho; clear hm ho
              go_loopg [18, 19] F (fun gg ux51 ux52 wr => ∃ (x49 : List Int) (x50 : Int) (V53 : Value), V53 = ux51 ∧ ux52 = .int .i64 x50 ∧ Hid (Below w.heap.size w wr) ∧ Hid (HP wr w.heap.size [.fl (owI V53 (x49)), .fl (owI V35 (y31)), .fl (owI V23 (y19)), .fl (owI V11 (y7))]) ∧ Hid (L3_CommonThree_L1 F (y7) (y19) (y31) gg x49 x50 = some o48))
              case atStart => exact ⟨[], 0, (.slice none 0 0), rfl, rfl, HD, HOA, HL1⟩
              case round =>
                obtain ⟨x49, x50, V53, rfl, rfl, HD, HOA, HL1⟩ := hrel
                rename World => W54
                cases gk with
                | zero => exact absurd ((L3_CommonThree_L1_0 ..).symm.trans HL1.out) (by intro h; cases h)
                | succ g1 =>
                  replace HL1 := Lib.hid ((L3_CommonThree_L1_s ..).symm.trans HL1.out)
                  obtain ⟨A55, cap56, he, _⟩ := HP.open_I HOA.out (List.Mem.tail _ (List.Mem.tail _ (List.Mem.tail _ (List.Mem.head _))))
                  subst he
                  by_cases hc57 : x50 < ((y7).length : Int)
                  · replace HL1 := Lib.hid (ifT hc57 HL1.out)
                    have HK58 := Lib.hid hc57
                    obtain ⟨b59, hb, hm⟩ := obind HL1.out
                    replace HL1 := Lib.hid hm; have HB60 := Lib.hid hb; clear hm hb
                    obtain ⟨y61, hy62, hm⟩ := obind HB60.out
                    replace HB60 := Lib.hid hm; clear hm
                    obtain ⟨b63, o64, ea65, _, f66, f67, f68⟩ := ReadsI.ix (HP.rd_I HOA.out (List.Mem.tail _ (List.Mem.tail _ (List.Mem.tail _ (List.Mem.head _))))) hy62
                    cases ea65
                    try simp only [Nat.zero_add, Nat.add_zero, Int.toNat_natCast, Int.toNat_zero, Int.toNat_one] at f68
                    try rw [← HP.len_I HOA.out (List.Mem.tail _ (List.Mem.tail _ (List.Mem.tail _ (List.Mem.head _))))] at f67
                    have HY70 := Lib.hid hy62; clear hy62
                    obtain ⟨y73, hy71, hm⟩ := obind HB60.out
                    replace HB60 := Lib.hid hm; clear hm
                    obtain ⟨A74, cap75, he, _⟩ := HP.open_I HOA.out (List.Mem.tail _ (List.Mem.tail _ (List.Mem.head _)))
                    subst he
                    have HC72 := R1_Has_ok W54 cap75 (HP.rd_I HOA.out (List.Mem.tail _ (List.Mem.tail _ (List.Mem.head _)))) hy71
                    clear hy71
                    replace HC72 := Lib.hid HC72
                    cases y73
                    · replace HB60 := Lib.hid (ifF Bool.false_ne_true HB60.out)
                      obtain rfl := Option.some.inj HB60.out
                      replace HL1 := Lib.hid (ifF (by first | exact Bool.false_ne_true | exact not_false) HL1.out)
                      go_wp2_with fail
                      refine HC72.out.mono ?_; rintro e w' ⟨rfl, rfl⟩
                      go_wp2_with fail
                      try clear hc57 f66 f67 f68
                      go_roundg g1
                      case measure => omega
                      case rel => exact ⟨x49, (wrap64 (x50 + 1)), V53, rfl, rfl, HD, HOA, HL1⟩
                    · replace HB60 := Lib.hid (ifT rfl HB60.out)
                      obtain ⟨y76, hy77, hm⟩ := obind HB60.out
                      replace HB60 := Lib.hid hm; clear hm
                      obtain rfl := Option.some.inj (HY70.out.symm.trans hy77)
                      clear hy77
                      obtain ⟨y80, hy78, hm⟩ := obind HB60.out
                      replace HB60 := Lib.hid hm; clear hm
                      obtain ⟨A81, cap82, he, _⟩ := HP.open_I HOA.out (List.Mem.tail _ (List.Mem.head _))
                      subst he
                      have HC79 := R1_Has_ok W54 cap82 (HP.rd_I HOA.out (List.Mem.tail _ (List.Mem.head _))) hy78
                      clear hy78
                      replace HC79 := Lib.hid HC79
                      cases y80
                      · replace HB60 := Lib.hid (ifF Bool.false_ne_true HB60.out)
                        obtain rfl := Option.some.inj HB60.out
                        replace HL1 := Lib.hid (ifF (by first | exact Bool.false_ne_true | exact not_false) HL1.out)
                        go_wp2_with fail
                        refine HC72.out.mono ?_; rintro e w' ⟨rfl, rfl⟩
                        go_wp2_with fail
                        refine HC79.out.mono ?_; rintro e w' ⟨rfl, rfl⟩
                        go_wp2_with fail
                        try clear hc57 f66 f67 f68
                        go_roundg g1
                        case measure => omega
                        case rel => exact ⟨x49, (wrap64 (x50 + 1)), V53, rfl, rfl, HD, HOA, HL1⟩
                      · replace HB60 := Lib.hid (ifT rfl HB60.out)
                        obtain rfl := Option.some.inj HB60.out
                        replace HL1 := Lib.hid (ifT (by first | rfl | trivial) HL1.out)
                        obtain ⟨y83, hy84, hm⟩ := obind HL1.out
                        replace HL1 := Lib.hid hm; clear hm
                        obtain rfl := Option.some.inj (HY70.out.symm.trans hy84)
                        clear hy84
                        obtain ⟨y85, hy86, hm⟩ := obind HL1.out
                        replace HL1 := Lib.hid hm; clear hm
                        obtain ⟨f87, hy86⟩ := app_some hy86; subst hy86
                        go_wp2_with fail
                        refine HC72.out.mono ?_; rintro e w' ⟨rfl, rfl⟩
                        go_wp2_with fail
                        refine HC79.out.mono ?_; rintro e w' ⟨rfl, rfl⟩
                        have HF90 := Lib.hid f87; clear f87
                        go_upto_region 12 with (at_builtin; refine hp_appI _ (.tmp 86) (.tmp 91) 28 Try.underlying28 rfl rfl (L1 := []) HOA.out rfl rfl HF90.out HD.out.size ?_; intro V88 W89 hoa hd)
                        try clear hc57 f66 f67 f68
                        replace HOA := Lib.hid (show HP W89 w.heap.size [.fl (owI V88 ((x49 ++ [y61]))), .fl (owI (.slice A81 (y31).length cap82) (y31)), .fl (owI (.slice A74 (y19).length cap75) (y19)), .fl (owI (.slice (some ⟨b63, o64, none⟩) (y7).length cap56) (y7))] from hoa); clear hoa
                        replace HD := Lib.hid (HD.out.trans hd); clear hd
                        go_wp2_with fail
                        go_roundg g1
                        case measure => omega
                        case rel => exact ⟨(x49 ++ [y61]), (wrap64 (x50 + 1)), V88, rfl, rfl, HD, HOA, HL1⟩
                  · replace HL1 := Lib.hid (ifF hc57 HL1.out)
                    have hc57d := decide_eq_false hc57
                    have HK58 := Lib.hid hc57
                    obtain rfl := Option.some.inj HL1.out
                    have hm := HM.out; try dsimp only at hm
                    replace HM := Lib.hid hm; clear hm
                    obtain ⟨⟨y93, y94⟩, hy91, hm⟩ := obind HM.out
                    dsimp only at hm
                    replace HM := Lib.hid hm; clear hm
                    have HC92 := common_Of_ok W54 cap1 (rdL HD.out HR1.out) hy91
                    clear hy91
                    by_cases hz95 : y94 = 0
                    · subst hz95
                      rw [errV_zero] at HC92; replace HC92 := Lib.hid HC92
                      go_wp2_with fail
                      refine HC92.out.mono ?_; rintro e W96 ⟨rfl, hd⟩
                      try clear hc57 hc57d
                      replace HOA := Lib.hid (HOA.out.below hd)
                      replace HD := Lib.hid (HD.out.trans (hd.mono HD.out.size))
                      clear hd
                      obtain ⟨b99, hb, hm⟩ := obind HM.out
                      replace HM := Lib.hid hm; have HB100 := Lib.hid hb; clear hm hb
                      replace HB100 := Lib.hid (ifT (by decide) HB100.out)
                      have hd : Below W96.heap.size W96 (World.alloc W96 (.cells #[Value.int .i64 (y93)] 3)) := (Below.refl _ _).alloc (Nat.le_refl _) _
                      have ho : (owI (.slice (some ⟨W96.heap.size, 0, none⟩) 1 1) [y93]).ok (World.alloc W96 (.cells #[Value.int .i64 (y93)] 3)) W96.heap.size := litI_ok W96 [y93] (by unfold maxLen; simp)
                      replace HOA := Lib.hid (HOA.out.call hd HD.out.size ho); clear ho
                      replace HD := Lib.hid (HD.out.trans (hd.mono HD.out.size))
                      clear hd
                      obtain ⟨y105, hy103, hm⟩ := obind HB100.out
                      replace HB100 := Lib.hid hm; clear hm
                      obtain ⟨A106, cap107, he, _⟩ := HP.open_I HOA.out (List.Mem.tail _ (List.Mem.head _))
                      subst he
                      have HC104 := SE_Ints_ok (World.alloc W96 (.cells #[Value.int .i64 (y93)] 3)) cap107 (HP.rd_I HOA.out (List.Mem.tail _ (List.Mem.head _))) 1 (HP.rd_I HOA.out (List.Mem.head _)) hy103
                      clear hy103
                      replace HC104 := Lib.hid HC104
                      go_wp2_with fail
                      refine HC104.out.mono ?_; rintro e W108 ⟨rfl, hd⟩
                      replace HOA := Lib.hid (HOA.out.below (hd.below _))
                      replace HD := Lib.hid (HD.out.trans ((hd.below _).mono HD.out.size))
                      clear hd
                      cases y105
                      · replace HB100 := Lib.hid (ifF Bool.false_ne_true HB100.out)
                        obtain rfl := Option.some.inj HB100.out
                        obtain rfl := Option.some.inj HM.out
                        go_wp2_with fail
                        go_ret
                        exact ⟨rfl, HD.out⟩
                      · replace HB100 := Lib.hid (ifT rfl HB100.out)
                        obtain rfl := Option.some.inj HB100.out
                        obtain rfl := Option.some.inj HM.out
                        go_wp2_with fail
                        go_ret
                        exact ⟨rfl, HD.out⟩
                    · rw [errV_pos _ hz95] at HC92; replace HC92 := Lib.hid HC92
                      go_wp2_with fail
                      refine HC92.out.mono ?_; rintro e W97 ⟨rfl, hd⟩
                      try clear hc57 hc57d
                      replace HOA := Lib.hid (HOA.out.below hd)
                      replace HD := Lib.hid (HD.out.trans (hd.mono HD.out.size))
                      clear hd
                      have HZ98 := Lib.hid hz95; clear hz95
                      obtain ⟨b109, hb, hm⟩ := obind HM.out
                      replace HM := Lib.hid hm; have HB110 := Lib.hid hb; clear hm hb
                      replace HB110 := Lib.hid (ifF (fun h => HZ98.out (eq_of_beq h)) HB110.out)
                      obtain rfl := Option.some.inj HB110.out
                      obtain rfl := Option.some.inj HM.out
                      go_wp2_with fail
                      go_ret
                      exact ⟨rfl, HD.out⟩
            · replace HM := Lib.hid (ifT rfl HM.out)
              obtain ⟨b111, hb, hm⟩ := obind HM.out
              replace HM := Lib.hid hm; have HB112 := Lib.hid hb; clear hm hb
              replace HB112 := Lib.hid (ifT (by decide) HB112.out)
              obtain rfl := Option.some.inj HB112.out
              obtain rfl := Option.some.inj HM.out
              go_wp2_with fail
              go_ret
              exact ⟨rfl, HD.out⟩
        · rw [errV_pos _ hz33] at HC30; replace HC30 := Lib.hid HC30
          go_wp2_with fail
          refine HC30.out.mono ?_; rintro e W37 ⟨V38, rfl, ho, hd⟩
          replace HOA := Lib.hid (HOA.out.call hd HD.out.size ho); clear ho
          replace HD := Lib.hid (HD.out.trans (hd.mono HD.out.size))
          clear hd
          have HZ40 := Lib.hid hz33; clear hz33
          go_upto_region 7 with (fail)
          obtain ⟨b113, hb, hm⟩ := obind HM.out
          replace HM := Lib.hid hm; have HB114 := Lib.hid hb; clear hm hb
          go_cut [58] (fun uq wr => uq = .bool b113 ∧ Hid (Below W37.heap.size W37 wr))
          case first =>
            have HWC115 := Lib.hid (Below.refl W37.heap.size W37)
            obtain ⟨b116, hb, hm⟩ := obind HB114.out
            replace HB114 := Lib.hid hm; have HB117 := Lib.hid hb; clear hm hb
            replace HB117 := Lib.hid (ifF (by decide) HB117.out)
            replace HB117 := Lib.hid (ifF (by decide) HB117.out)
            obtain rfl := Option.some.inj HB117.out
            replace HB114 := Lib.hid (ifF (by first | exact Bool.false_ne_true | exact not_false) HB114.out)
            replace HB114 := Lib.hid (ifT (bne_iff_ne.2 HZ40.out) HB114.out)
            cases Option.some.inj HB114.out
            try go_wp2_with fail
            go_meet
            case rel => exact ⟨rfl, HWC115⟩
          case rest =>
            obtain ⟨rfl, HWC115⟩ := hcut
            rename World => W118
            have hd := HWC115.out
            replace HOA := Lib.hid (HOA.out.below hd)
            replace HD := Lib.hid (HD.out.trans (hd.mono HD.out.size))
            clear hd
            cases b113
            · replace HM := Lib.hid (ifF Bool.false_ne_true HM.out)
              replace HOA := Lib.hid (show HP _ _ (.fl (owI (.slice none 0 0) ([])) :: _) from HOA.out.pushNil _ _)
              go_wp2_with fail
              obtain ⟨o120, ho, hm⟩ := obind HM.out
              replace HM := Lib.hid hm; have HL1 := Lib.hid ho; clear hm ho
              go_loopg [18, 19] F (fun gg ux123 ux124 wr => ∃ (x121 : List Int) (x122 : Int) (V125 : Value), V125 = ux123 ∧ ux124 = .int .i64 x122 ∧ Hid (Below w.heap.size w wr) ∧ Hid (HP wr w.heap.size [.fl (owI V125 (x121)), .fl (owI V38 (y31)), .fl (owI V23 (y19)), .fl (owI V11 (y7))]) ∧ Hid (L3_CommonThree_L1 F (y7) (y19) (y31) gg x121 x122 = some o120))
              case atStart => exact ⟨[], 0, (.slice none 0 0), rfl, rfl, HD, HOA, HL1⟩
              case round =>
                obtain ⟨x121, x122, V125, rfl, rfl, HD, HOA, HL1⟩ := hrel
                rename World => W126
                cases gk with
                | zero => exact absurd ((L3_CommonThree_L1_0 ..).symm.trans HL1.out) (by intro h; cases h)
                | succ g1 =>
                  replace HL1 := Lib.hid ((L3_CommonThree_L1_s ..).symm.trans HL1.out)
                  obtain ⟨A127, cap128, he, _⟩ := HP.open_I HOA.out (List.Mem.tail _ (List.Mem.tail _ (List.Mem.tail _ (List.Mem.head _))))
                  subst he
                  by_cases hc129 : x122 < ((y7).length : Int)
                  · replace HL1 := Lib.hid (ifT hc129 HL1.out)
                    have HK130 := Lib.hid hc129
                    obtain ⟨b131, hb, hm⟩ := obind HL1.out
                    replace HL1 := Lib.hid hm; have HB132 := Lib.hid hb; clear hm hb
                    obtain ⟨y133, hy134, hm⟩ := obind HB132.out
                    replace HB132 := Lib.hid hm; clear hm
                    obtain ⟨b135, o136, ea137, _, f138, f139, f140⟩ := ReadsI.ix (HP.rd_I HOA.out (List.Mem.tail _ (List.Mem.tail _ (List.Mem.tail _ (List.Mem.head _))))) hy134
                    cases ea137
                    try simp only [Nat.zero_add, Nat.add_zero, Int.toNat_natCast, Int.toNat_zero, Int.toNat_one] at f140
                    try rw [← HP.len_I HOA.out (List.Mem.tail _ (List.Mem.tail _ (List.Mem.tail _ (List.Mem.head _))))] at f139
                    have HY142 := Lib.hid hy134; clear hy134
                    obtain ⟨y145, hy143, hm⟩ := obind HB132.out
                    replace HB132 := Lib.hid hm; clear hm
                    obtain ⟨A146, cap147, he, _⟩ := HP.open_I HOA.out (List.Mem.tail _ (List.Mem.tail _ (List.Mem.head _)))
                    subst he
                    have HC144 := R1_Has_ok W126 cap147 (HP.rd_I HOA.out (List.Mem.tail _ (List.Mem.tail _ (List.Mem.head _)))) hy143
                    clear hy143
                    replace HC144 := Lib.hid HC144
                    cases y145
                    · replace HB132 := Lib.hid (ifF Bool.false_ne_true HB132.out)
                      obtain rfl := Option.some.inj HB132.out
                      replace HL1 := Lib.hid (ifF (by first | exact Bool.false_ne_true | exact not_false) HL1.out)
                      go_wp2_with fail
                      refine HC144.out.mono ?_; rintro e w' ⟨rfl, rfl⟩
                      go_wp2_with fail
                      try clear hc129 f138 f139 f140
                      go_roundg g1
                      case measure => omega
                      case rel => exact ⟨x121, (wrap64 (x122 + 1)), V125, rfl, rfl, HD, HOA, HL1⟩
                    · replace HB132 := Lib.hid (ifT rfl HB132.out)
                      obtain ⟨y148, hy149, hm⟩ := obind HB132.out
                      replace HB132 := Lib.hid hm; clear hm
                      obtain rfl := Option.some.inj (HY142.out.symm.trans hy149)
                      clear hy149
                      obtain ⟨y152, hy150, hm⟩ := obind HB132.out
                      replace HB132 := Lib.hid hm; clear hm
                      obtain ⟨A153, cap154, he, _⟩ := HP.open_I HOA.out (List.Mem.tail _ (List.Mem.head _))
                      subst he
                      have HC151 := R1_Has_ok W126 cap154 (HP.rd_I HOA.out (List.Mem.tail _ (List.Mem.head _))) hy150
                      clear hy150
                      replace HC151 := Lib.hid HC151
                      cases y152
                      · replace HB132 := Lib.hid (ifF Bool.false_ne_true HB132.out)
                        obtain rfl := Option.some.inj HB132.out
                        replace HL1 := Lib.hid (ifF (by first | exact Bool.false_ne_true | exact not_false) HL1.out)
                        go_wp2_with fail
                        refine HC144.out.mono ?_; rintro e w' ⟨rfl, rfl⟩
                        go_wp2_with fail
                        refine HC151.out.mono ?_; rintro e w' ⟨rfl, rfl⟩
                        go_wp2_with fail
                        try clear hc129 f138 f139 f140
                        go_roundg g1
                        case measure => omega
                        case rel => exact ⟨x121, (wrap64 (x122 + 1)), V125, rfl, rfl, HD, HOA, HL1⟩
                      · replace HB132 := Lib.hid (ifT rfl HB132.out)
                        obtain rfl := Option.some.inj HB132.out
                        replace HL1 := Lib.hid (ifT (by first | rfl | trivial) HL1.out)
                        obtain ⟨y155, hy156, hm⟩ := obind HL1.out
                        replace HL1 := Lib.hid hm; clear hm
                        obtain rfl := Option.some.inj (HY142.out.symm.trans hy156)
                        clear hy156
                        obtain ⟨y157, hy158, hm⟩ := obind HL1.out
                        replace HL1 := Lib.hid hm; clear hm
                        obtain ⟨f159, hy158⟩ := app_some hy158; subst hy158
                        go_wp2_with fail
                        refine HC144.out.mono ?_; rintro e w' ⟨rfl, rfl⟩
                        go_wp2_with fail
                        refine HC151.out.mono ?_; rintro e w' ⟨rfl, rfl⟩
                        have HF162 := Lib.hid f159; clear f159
                        go_upto_region 12 with (at_builtin; refine hp_appI _ (.tmp 86) (.tmp 91) 28 Try.underlying28 rfl rfl (L1 := []) HOA.out rfl rfl HF162.out HD.out.size ?_; intro V160 W161 hoa hd)
                        try clear hc129 f138 f139 f140
                        replace HOA := Lib.hid (show HP W161 w.heap.size [.fl (owI V160 ((x121 ++ [y133]))), .fl (owI (.slice A153 (y31).length cap154) (y31)), .fl (owI (.slice A146 (y19).length cap147) (y19)), .fl (owI (.slice (some ⟨b135, o136, none⟩) (y7).length cap128) (y7))] from hoa); clear hoa
                        replace HD := Lib.hid (HD.out.trans hd); clear hd
                        go_wp2_with fail
                        go_roundg g1
                        case measure => omega
                        case rel => exact ⟨(x121 ++ [y133]), (wrap64 (x122 + 1)), V160, rfl, rfl, HD, HOA, HL1⟩
                  · replace HL1 := Lib.hid (ifF hc129 HL1.out)
                    have hc129d := decide_eq_false hc129
                    have HK130 := Lib.hid hc129
                    obtain rfl := Option.some.inj HL1.out
                    have hm := HM.out; try dsimp only at hm
                    replace HM := Lib.hid hm; clear hm
                    obtain ⟨⟨y165, y166⟩, hy163, hm⟩ := obind HM.out
                    dsimp only at hm
                    replace HM := Lib.hid hm; clear hm
                    have HC164 := common_Of_ok W126 cap1 (rdL HD.out HR1.out) hy163
                    clear hy163
                    by_cases hz167 : y166 = 0
                    · subst hz167
                      rw [errV_zero] at HC164; replace HC164 := Lib.hid HC164
                      go_wp2_with fail
                      refine HC164.out.mono ?_; rintro e W168 ⟨rfl, hd⟩
                      try clear hc129 hc129d
                      replace HOA := Lib.hid (HOA.out.below hd)
                      replace HD := Lib.hid (HD.out.trans (hd.mono HD.out.size))
                      clear hd
                      obtain ⟨b171, hb, hm⟩ := obind HM.out
                      replace HM := Lib.hid hm; have HB172 := Lib.hid hb; clear hm hb
                      replace HB172 := Lib.hid (ifT (by decide) HB172.out)
                      have hd : Below W168.heap.size W168 (World.alloc W168 (.cells #[Value.int .i64 (y165)] 3)) := (Below.refl _ _).alloc (Nat.le_refl _) _
                      have ho : (owI (.slice (some ⟨W168.heap.size, 0, none⟩) 1 1) [y165]).ok (World.alloc W168 (.cells #[Value.int .i64 (y165)] 3)) W168.heap.size := litI_ok W168 [y165] (by unfold maxLen; simp)
                      replace HOA := Lib.hid (HOA.out.call hd HD.out.size ho); clear ho
                      replace HD := Lib.hid (HD.out.trans (hd.mono HD.out.size))
                      clear hd
                      obtain ⟨y177, hy175, hm⟩ := obind HB172.out
                      replace HB172 := Lib.hid hm; clear hm
                      obtain ⟨A178, cap179, he, _⟩ := HP.open_I HOA.out (List.Mem.tail _ (List.Mem.head _))
                      subst he
                      have HC176 := SE_Ints_ok (World.alloc W168 (.cells #[Value.int .i64 (y165)] 3)) cap179 (HP.rd_I HOA.out (List.Mem.tail _ (List.Mem.head _))) 1 (HP.rd_I HOA.out (List.Mem.head _)) hy175
                      clear hy175
                      replace HC176 := Lib.hid HC176
                      go_wp2_with fail
                      refine HC176.out.mono ?_; rintro e W180 ⟨rfl, hd⟩
                      replace HOA := Lib.hid (HOA.out.below (hd.below _))
                      replace HD := Lib.hid (HD.out.trans ((hd.below _).mono HD.out.size))
                      clear hd
                      cases y177
                      · replace HB172 := Lib.hid (ifF Bool.false_ne_true HB172.out)
                        obtain rfl := Option.some.inj HB172.out
                        obtain rfl := Option.some.inj HM.out
                        go_wp2_with fail
                        go_ret
                        exact ⟨rfl, HD.out⟩
                      · replace HB172 := Lib.hid (ifT rfl HB172.out)
                        obtain rfl := Option.some.inj HB172.out
                        obtain rfl := Option.some.inj HM.out
                        go_wp2_with fail
                        go_ret
                        exact ⟨rfl, HD.out⟩
                    · rw [errV_pos _ hz167] at HC164; replace HC164 := Lib.hid HC164
                      go_wp2_with fail
                      refine HC164.out.mono ?_; rintro e W169 ⟨rfl, hd⟩
                      try clear hc129 hc129d
                      replace HOA := Lib.hid (HOA.out.below hd)
                      replace HD := Lib.hid (HD.out.trans (hd.mono HD.out.size))
                      clear hd
                      have HZ170 := Lib.hid hz167; clear hz167
                      obtain ⟨b181, hb, hm⟩ := obind HM.out
                      replace HM := Lib.hid hm; have HB182 := Lib.hid hb; clear hm hb
                      replace HB182 := Lib.hid (ifF (fun h => HZ170.out (eq_of_beq h)) HB182.out)
                      obtain rfl := Option.some.inj HB182.out
                      obtain rfl := Option.some.inj HM.out
                      go_wp2_with fail
                      go_ret
                      exact ⟨rfl, HD.out⟩
            · replace HM := Lib.hid (ifT rfl HM.out)
              obtain ⟨b183, hb, hm⟩ := obind HM.out
              replace HM := Lib.hid hm; have HB184 := Lib.hid hb; clear hm hb
              replace HB184 := Lib.hid (ifT (by decide) HB184.out)
              obtain rfl := Option.some.inj HB184.out
              obtain rfl := Option.some.inj HM.out
              go_wp2_with fail
              go_ret
              exact ⟨rfl, HD.out⟩
      · rw [errV_pos _ hz21] at HC18; replace HC18 := Lib.hid HC18
        go_wp2_with fail
        refine HC18.out.mono ?_; rintro e W25 ⟨V26, rfl, ho, hd⟩
        replace HOA := Lib.hid (HOA.out.call hd HD.out.size ho); clear ho
        replace HD := Lib.hid (HD.out.trans (hd.mono HD.out.size))
        clear hd
        have HZ28 := Lib.hid hz21; clear hz21
        obtain ⟨⟨y187, y188⟩, hy185, hm⟩ := obind HM.out
        dsimp only at hm
        replace HM := Lib.hid hm; clear hm
        have HC186 := common_Way_ok W25 cap1 (rdL HD.out HR1.out) hy185
        clear hy185
        by_cases hz189 : y188 = 0
        · subst hz189
          rw [errV_zero] at HC186; replace HC186 := Lib.hid HC186
          go_wp2_with fail
          refine HC186.out.mono ?_; rintro e W190 ⟨V191, rfl, ho, hd⟩
          replace HOA := Lib.hid (HOA.out.call hd HD.out.size ho); clear ho
          replace HD := Lib.hid (HD.out.trans (hd.mono HD.out.size))
          clear hd
          go_upto_region 7 with (fail)
          obtain ⟨b197, hb, hm⟩ := obind HM.out
          replace HM := Lib.hid hm; have HB198 := Lib.hid hb; clear hm hb
          go_cut [58] (fun uq wr => uq = .bool b197 ∧ Hid (Below W190.heap.size W190 wr))
          case first =>
            have HWC199 := Lib.hid (Below.refl W190.heap.size W190)
            obtain ⟨b200, hb, hm⟩ := obind HB198.out
            replace HB198 := Lib.hid hm; have HB201 := Lib.hid hb; clear hm hb
            replace HB201 := Lib.hid (ifF (by decide) HB201.out)
            replace HB201 := Lib.hid (ifT (bne_iff_ne.2 HZ28.out) HB201.out)
            obtain rfl := Option.some.inj HB201.out
            replace HB198 := Lib.hid (ifT (by first | rfl | trivial) HB198.out)
            cases Option.some.inj HB198.out
            try go_wp2_with fail
            go_meet
            case rel => exact ⟨rfl, HWC199⟩
          case rest =>
            obtain ⟨rfl, HWC199⟩ := hcut
            rename World => W202
            have hd := HWC199.out
            replace HOA := Lib.hid (HOA.out.below hd)
            replace HD := Lib.hid (HD.out.trans (hd.mono HD.out.size))
            clear hd
            cases b197
            · replace HM := Lib.hid (ifF Bool.false_ne_true HM.out)
              replace HOA := Lib.hid (show HP _ _ (.fl (owI (.slice none 0 0) ([])) :: _) from HOA.out.pushNil _ _)
              go_wp2_with fail
              obtain ⟨o204, ho, hm⟩ := obind HM.out
              replace HM := Lib.hid hm; have HL1 := Lib.hid ho; clear hm ho
              go_loopg [18, 19] F (fun gg ux207 ux208 wr => ∃ (x205 : List Int) (x206 : Int) (V209 : Value), V209 = ux207 ∧ ux208 = .int .i64 x206 ∧ Hid (Below w.heap.size w wr) ∧ Hid (HP wr w.heap.size [.fl (owI V209 (x205)), .fl (owI V191 (y187)), .fl (owI V26 (y19)), .fl (owI V11 (y7))]) ∧ Hid (L3_CommonThree_L1 F (y7) (y19) (y187) gg x205 x206 = some o204))
              case atStart => exact ⟨[], 0, (.slice none 0 0), rfl, rfl, HD, HOA, HL1⟩
              case round =>
                obtain ⟨x205, x206, V209, rfl, rfl, HD, HOA, HL1⟩ := hrel
                rename World => W210
                cases gk with
                | zero => exact absurd ((L3_CommonThree_L1_0 ..).symm.trans HL1.out) (by intro h; cases h)
                | succ g1 =>
                  replace HL1 := Lib.hid ((L3_CommonThree_L1_s ..).symm.trans HL1.out)
                  obtain ⟨A211, cap212, he, _⟩ := HP.open_I HOA.out (List.Mem.tail _ (List.Mem.tail _ (List.Mem.tail _ (List.Mem.head _))))
                  subst he
                  by_cases hc213 : x206 < ((y7).length : Int)
                  · replace HL1 := Lib.hid (ifT hc213 HL1.out)
                    have HK214 := Lib.hid hc213
                    obtain ⟨b215, hb, hm⟩ := obind HL1.out
                    replace HL1 := Lib.hid hm; have HB216 := Lib.hid hb; clear hm hb
                    obtain ⟨y217, hy218, hm⟩ := obind HB216.out
                    replace HB216 := Lib.hid hm; clear hm
                    obtain ⟨b219, o220, ea221, _, f222, f223, f224⟩ := ReadsI.ix (HP.rd_I HOA.out (List.Mem.tail _ (List.Mem.tail _ (List.Mem.tail _ (List.Mem.head _))))) hy218
                    cases ea221
                    try simp only [Nat.zero_add, Nat.add_zero, Int.toNat_natCast, Int.toNat_zero, Int.toNat_one] at f224
                    try rw [← HP.len_I HOA.out (List.Mem.tail _ (List.Mem.tail _ (List.Mem.tail _ (List.Mem.head _))))] at f223
                    have HY226 := Lib.hid hy218; clear hy218
                    obtain ⟨y229, hy227, hm⟩ := obind HB216.out
                    replace HB216 := Lib.hid hm; clear hm
                    obtain ⟨A230, cap231, he, _⟩ := HP.open_I HOA.out (List.Mem.tail _ (List.Mem.tail _ (List.Mem.head _)))
                    subst he
                    have HC228 := R1_Has_ok W210 cap231 (HP.rd_I HOA.out (List.Mem.tail _ (List.Mem.tail _ (List.Mem.head _)))) hy227
                    clear hy227
                    replace HC228 := Lib.hid HC228
                    cases y229
                    · replace HB216 := Lib.hid (ifF Bool.false_ne_true HB216.out)
                      obtain rfl := Option.some.inj HB216.out
                      replace HL1 := Lib.hid (ifF (by first | exact Bool.false_ne_true | exact not_false) HL1.out)
                      go_wp2_with fail
                      refine HC228.out.mono ?_; rintro e w' ⟨rfl, rfl⟩
                      go_wp2_with fail
                      try clear hc213 f222 f223 f224
                      go_roundg g1
                      case measure => omega
                      case rel => exact ⟨x205, (wrap64 (x206 + 1)), V209, rfl, rfl, HD, HOA, HL1⟩
                    · replace HB216 := Lib.hid (ifT rfl HB216.out)
                      obtain ⟨y232, hy233, hm⟩ := obind HB216.out
                      replace HB216 := Lib.hid hm; clear hm
                      obtain rfl := Option.some.inj (HY226.out.symm.trans hy233)
                      clear hy233
                      obtain ⟨y236, hy234, hm⟩ := obind HB216.out
                      replace HB216 := Lib.hid hm; clear hm
                      obtain ⟨A237, cap238, he, _⟩ := HP.open_I HOA.out (List.Mem.tail _ (List.Mem.head _))
                      subst he
                      have HC235 := R1_Has_ok W210 cap238 (HP.rd_I HOA.out (List.Mem.tail _ (List.Mem.head _))) hy234
                      clear hy234
                      replace HC235 := Lib.hid HC235
                      cases y236
                      · replace HB216 := Lib.hid (ifF Bool.false_ne_true HB216.out)
                        obtain rfl := Option.some.inj HB216.out
                        replace HL1 := Lib.hid (ifF (by first | exact Bool.false_ne_true | exact not_false) HL1.out)
                        go_wp2_with fail
                        refine HC228.out.mono ?_; rintro e w' ⟨rfl, rfl⟩
                        go_wp2_with fail
                        refine HC235.out.mono ?_; rintro e w' ⟨rfl, rfl⟩
                        go_wp2_with fail
                        try clear hc213 f222 f223 f224
                        go_roundg g1
                        case measure => omega
                        case rel => exact ⟨x205, (wrap64 (x206 + 1)), V209, rfl, rfl, HD, HOA, HL1⟩
                      · replace HB216 := Lib.hid (ifT rfl HB216.out)
                        obtain rfl := Option.some.inj HB216.out
                        replace HL1 := Lib.hid (ifT (by first | rfl | trivial) HL1.out)
                        obtain ⟨y239, hy240, hm⟩ := obind HL1.out
                        replace HL1 := Lib.hid hm; clear hm
                        obtain rfl := Option.some.inj (HY226.out.symm.trans hy240)
                        clear hy240
                        obtain ⟨y241, hy242, hm⟩ := obind HL1.out
                        replace HL1 := Lib.hid hm; clear hm
                        obtain ⟨f243, hy242⟩ := app_some hy242; subst hy242
                        go_wp2_with fail
                        refine HC228.out.mono ?_; rintro e w' ⟨rfl, rfl⟩
                        go_wp2_with fail
                        refine HC235.out.mono ?_; rintro e w' ⟨rfl, rfl⟩
                        have HF246 := Lib.hid f243; clear f243
                        go_upto_region 12 with (at_builtin; refine hp_appI _ (.tmp 86) (.tmp 91) 28 Try.underlying28 rfl rfl (L1 := []) HOA.out rfl rfl HF246.out HD.out.size ?_; intro V244 W245 hoa hd)
                        try clear hc213 f222 f223 f224
                        replace HOA := Lib.hid (show HP W245 w.heap.size [.fl (owI V244 ((x205 ++ [y217]))), .fl (owI (.slice A237 (y187).length cap238) (y187)), .fl (owI (.slice A230 (y19).length cap231) (y19)), .fl (owI (.slice (some ⟨b219, o220, none⟩) (y7).length cap212) (y7))] from hoa); clear hoa
                        replace HD := Lib.hid (HD.out.trans hd); clear hd
                        go_wp2_with fail
                        go_roundg g1
                        case measure => omega
                        case rel => exact ⟨(x205 ++ [y217]), (wrap64 (x206 + 1)), V244, rfl, rfl, HD, HOA, HL1⟩
                  · replace HL1 := Lib.hid (ifF hc213 HL1.out)
                    have hc213d := decide_eq_false hc213
                    have HK214 := Lib.hid hc213
                    obtain rfl := Option.some.inj HL1.out
                    have hm := HM.out; try dsimp only at hm
                    replace HM := Lib.hid hm; clear hm
                    obtain ⟨⟨y249, y250⟩, hy247, hm⟩ := obind HM.out
                    dsimp only at hm
                    replace HM := Lib.hid hm; clear hm
                    have HC248 := common_Of_ok W210 cap1 (rdL HD.out HR1.out) hy247
                    clear hy247
                    by_cases hz251 : y250 = 0
                    · subst hz251
                      rw [errV_zero] at HC248; replace HC248 := Lib.hid HC248
                      go_wp2_with fail
                      refine HC248.out.mono ?_; rintro e W252 ⟨rfl, hd⟩
                      try clear hc213 hc213d
                      replace HOA := Lib.hid (HOA.out.below hd)
                      replace HD := Lib.hid (HD.out.trans (hd.mono HD.out.size))
                      clear hd
                      obtain ⟨b255, hb, hm⟩ := obind HM.out
                      replace HM := Lib.hid hm; have HB256 := Lib.hid hb; clear hm hb
                      replace HB256 := Lib.hid (ifT (by decide) HB256.out)
                      have hd : Below W252.heap.size W252 (World.alloc W252 (.cells #[Value.int .i64 (y249)] 3)) := (Below.refl _ _).alloc (Nat.le_refl _) _
                      have ho : (owI (.slice (some ⟨W252.heap.size, 0, none⟩) 1 1) [y249]).ok (World.alloc W252 (.cells #[Value.int .i64 (y249)] 3)) W252.heap.size := litI_ok W252 [y249] (by unfold maxLen; simp)
                      replace HOA := Lib.hid (HOA.out.call hd HD.out.size ho); clear ho
                      replace HD := Lib.hid (HD.out.trans (hd.mono HD.out.size))
                      clear hd
                      obtain ⟨y261, hy259, hm⟩ := obind HB256.out
                      replace HB256 := Lib.hid hm; clear hm
                      obtain ⟨A262, cap263, he, _⟩ := HP.open_I HOA.out (List.Mem.tail _ (List.Mem.head _))
                      subst he
                      have HC260 := SE_Ints_ok (World.alloc W252 (.cells #[Value.int .i64 (y249)] 3)) cap263 (HP.rd_I HOA.out (List.Mem.tail _ (List.Mem.head _))) 1 (HP.rd_I HOA.out (List.Mem.head _)) hy259
                      clear hy259
                      replace HC260 := Lib.hid HC260
                      go_wp2_with fail
                      refine HC260.out.mono ?_; rintro e W264 ⟨rfl, hd⟩
                      replace HOA := Lib.hid (HOA.out.below (hd.below _))
                      replace HD := Lib.hid (HD.out.trans ((hd.below _).mono HD.out.size))
                      clear hd
                      cases y261
                      · replace HB256 := Lib.hid (ifF Bool.false_ne_true HB256.out)
                        obtain rfl := Option.some.inj HB256.out
                        obtain rfl := Option.some.inj HM.out
                        go_wp2_with fail
                        go_ret
                        exact ⟨rfl, HD.out⟩
                      · replace HB256 := Lib.hid (ifT rfl HB256.out)
                        obtain rfl := Option.some.inj HB256.out
                        obtain rfl := Option.some.inj HM.out
                        go_wp2_with fail
                        go_ret
                        exact ⟨rfl, HD.out⟩
                    · rw [errV_pos _ hz251] at HC248; replace HC248 := Lib.hid HC248
                      go_wp2_with fail
                      refine HC248.out.mono ?_; rintro e W253 ⟨rfl, hd⟩
                      try clear hc213 hc213d
                      replace HOA := Lib.hid (HOA.out.below hd)
                      replace HD := Lib.hid (HD.out.trans (hd.mono HD.out.size))
                      clear hd
                      have HZ254 := Lib.hid hz251; clear hz251
                      obtain ⟨b265, hb, hm⟩ := obind HM.out
                      replace HM := Lib.hid hm; have HB266 := Lib.hid hb; clear hm hb
                      replace HB266 := Lib.hid (ifF (fun h => HZ254.out (eq_of_beq h)) HB266.out)
                      obtain rfl := Option.some.inj HB266.out
                      obtain rfl := Option.some.inj HM.out
                      go_wp2_with fail
                      go_ret
                      exact ⟨rfl, HD.out⟩
            · replace HM := Lib.hid (ifT rfl HM.out)
              obtain ⟨b267, hb, hm⟩ := obind HM.out
              replace HM := Lib.hid hm; have HB268 := Lib.hid hb; clear hm hb
              replace HB268 := Lib.hid (ifT (by decide) HB268.out)
              obtain rfl := Option.some.inj HB268.out
              obtain rfl := Option.some.inj HM.out
              go_wp2_with fail
              go_ret
              exact ⟨rfl, HD.out⟩
        · rw [errV_pos _ hz189] at HC186; replace HC186 := Lib.hid HC186
          go_wp2_with fail
          refine HC186.out.mono ?_; rintro e W193 ⟨V194, rfl, ho, hd⟩
          replace HOA := Lib.hid (HOA.out.call hd HD.out.size ho); clear ho
          replace HD := Lib.hid (HD.out.trans (hd.mono HD.out.size))
          clear hd
          have HZ196 := Lib.hid hz189; clear hz189
          go_upto_region 7 with (fail)
          obtain ⟨b269, hb, hm⟩ := obind HM.out
          replace HM := Lib.hid hm; have HB270 := Lib.hid hb; clear hm hb
          go_cut [58] (fun uq wr => uq = .bool b269 ∧ Hid (Below W193.heap.size W193 wr))
          case first =>
            have HWC271 := Lib.hid (Below.refl W193.heap.size W193)
            obtain ⟨b272, hb, hm⟩ := obind HB270.out
            replace HB270 := Lib.hid hm; have HB273 := Lib.hid hb; clear hm hb
            replace HB273 := Lib.hid (ifF (by decide) HB273.out)
            replace HB273 := Lib.hid (ifT (bne_iff_ne.2 HZ28.out) HB273.out)
            obtain rfl := Option.some.inj HB273.out
            replace HB270 := Lib.hid (ifT (by first | rfl | trivial) HB270.out)
            cases Option.some.inj HB270.out
            try go_wp2_with fail
            go_meet
            case rel => exact ⟨rfl, HWC271⟩
          case rest =>
            obtain ⟨rfl, HWC271⟩ := hcut
            rename World => W274
            have hd := HWC271.out
            replace HOA := Lib.hid (HOA.out.below hd)
            replace HD := Lib.hid (HD.out.trans (hd.mono HD.out.size))
            clear hd
            cases b269
            · replace HM := Lib.hid (ifF Bool.false_ne_true HM.out)
              replace HOA := Lib.hid (show HP _ _ (.fl (owI (.slice none 0 0) ([])) :: _) from HOA.out.pushNil _ _)
              go_wp2_with fail
              obtain ⟨o276, ho, hm⟩ := obind HM.out
              replace HM := Lib.hid hm; have HL1 := Lib.hid ho; clear hm ho
              go_loopg [18, 19] F (fun gg ux279 ux280 wr => ∃ (x277 : List Int) (x278 : Int) (V281 : Value), V281 = ux279 ∧ ux280 = .int .i64 x278 ∧ Hid (Below w.heap.size w wr) ∧ Hid (HP wr w.heap.size [.fl (owI V281 (x277)), .fl (owI V194 (y187)), .fl (owI V26 (y19)), .fl (owI V11 (y7))]) ∧ Hid (L3_CommonThree_L1 F (y7) (y19) (y187) gg x277 x278 = some o276))
              case atStart => exact ⟨[], 0, (.slice none 0 0), rfl, rfl, HD, HOA, HL1⟩
              case round =>
                obtain ⟨x277, x278, V281, rfl, rfl, HD, HOA, HL1⟩ := hrel
                rename World => W282
                cases gk with
                | zero => exact absurd ((L3_CommonThree_L1_0 ..).symm.trans HL1.out) (by intro h; cases h)
                | succ g1 =>
                  replace HL1 := Lib.hid ((L3_CommonThree_L1_s ..).symm.trans HL1.out)
                  obtain ⟨A283, cap284, he, _⟩ := HP.open_I HOA.out (List.Mem.tail _ (List.Mem.tail _ (List.Mem.tail _ (List.Mem.head _))))
                  subst he
                  by_cases hc285 : x278 < ((y7).length : Int)
                  · replace HL1 := Lib.hid (ifT hc285 HL1.out)
                    have HK286 := Lib.hid hc285
                    obtain ⟨b287, hb, hm⟩ := obind HL1.out
                    replace HL1 := Lib.hid hm; have HB288 := Lib.hid hb; clear hm hb
                    obtain ⟨y289, hy290, hm⟩ := obind HB288.out
                    replace HB288 := Lib.hid hm; clear hm
                    obtain ⟨b291, o292, ea293, _, f294, f295, f296⟩ := ReadsI.ix (HP.rd_I HOA.out (List.Mem.tail _ (List.Mem.tail _ (List.Mem.tail _ (List.Mem.head _))))) hy290
                    cases ea293
                    try simp only [Nat.zero_add, Nat.add_zero, Int.toNat_natCast, Int.toNat_zero, Int.toNat_one] at f296
                    try rw [← HP.len_I HOA.out (List.Mem.tail _ (List.Mem.tail _ (List.Mem.tail _ (List.Mem.head _))))] at f295
                    have HY298 := Lib.hid hy290; clear hy290
                    obtain ⟨y301, hy299, hm⟩ := obind HB288.out
                    replace HB288 := Lib.hid hm; clear hm
                    obtain ⟨A302, cap303, he, _⟩ := HP.open_I HOA.out (List.Mem.tail _ (List.Mem.tail _ (List.Mem.head _)))
                    subst he
                    have HC300 := R1_Has_ok W282 cap303 (HP.rd_I HOA.out (List.Mem.tail _ (List.Mem.tail _ (List.Mem.head _)))) hy299
                    clear hy299
                    replace HC300 := Lib.hid HC300
                    cases y301
                    · replace HB288 := Lib.hid (ifF Bool.false_ne_true HB288.out)
                      obtain rfl := Option.some.inj HB288.out
                      replace HL1 := Lib.hid (ifF (by first | exact Bool.false_ne_true | exact not_false) HL1.out)
                      go_wp2_with fail
                      refine HC300.out.mono ?_; rintro e w' ⟨rfl, rfl⟩
                      go_wp2_with fail
                      try clear hc285 f294 f295 f296
                      go_roundg g1
                      case measure => omega
                      case rel => exact ⟨x277, (wrap64 (x278 + 1)), V281, rfl, rfl, HD, HOA, HL1⟩
                    · replace HB288 := Lib.hid (ifT rfl HB288.out)
                      obtain ⟨y304, hy305, hm⟩ := obind HB288.out
                      replace HB288 := Lib.hid hm; clear hm
                      obtain rfl := Option.some.inj (HY298.out.symm.trans hy305)
                      clear hy305
                      obtain ⟨y308, hy306, hm⟩ := obind HB288.out
                      replace HB288 := Lib.hid hm; clear hm
                      obtain ⟨A309, cap310, he, _⟩ := HP.open_I HOA.out (List.Mem.tail _ (List.Mem.head _))
                      subst he
                      have HC307 := R1_Has_ok W282 cap310 (HP.rd_I HOA.out (List.Mem.tail _ (List.Mem.head _))) hy306
                      clear hy306
                      replace HC307 := Lib.hid HC307
                      cases y308
                      · replace HB288 := Lib.hid (ifF Bool.false_ne_true HB288.out)
                        obtain rfl := Option.some.inj HB288.out
                        replace HL1 := Lib.hid (ifF (by first | exact Bool.false_ne_true | exact not_false) HL1.out)
                        go_wp2_with fail
                        refine HC300.out.mono ?_; rintro e w' ⟨rfl, rfl⟩
                        go_wp2_with fail
                        refine HC307.out.mono ?_; rintro e w' ⟨rfl, rfl⟩
                        go_wp2_with fail
                        try clear hc285 f294 f295 f296
                        go_roundg g1
                        case measure => omega
                        case rel => exact ⟨x277, (wrap64 (x278 + 1)), V281, rfl, rfl, HD, HOA, HL1⟩
                      · replace HB288 := Lib.hid (ifT rfl HB288.out)
                        obtain rfl := Option.some.inj HB288.out
                        replace HL1 := Lib.hid (ifT (by first | rfl | trivial) HL1.out)
                        obtain ⟨y311, hy312, hm⟩ := obind HL1.out
                        replace HL1 := Lib.hid hm; clear hm
                        obtain rfl := Option.some.inj (HY298.out.symm.trans hy312)
                        clear hy312
                        obtain ⟨y313, hy314, hm⟩ := obind HL1.out
                        replace HL1 := Lib.hid hm; clear hm
                        obtain ⟨f315, hy314⟩ := app_some hy314; subst hy314
                        go_wp2_with fail
                        refine HC300.out.mono ?_; rintro e w' ⟨rfl, rfl⟩
                        go_wp2_with fail
                        refine HC307.out.mono ?_; rintro e w' ⟨rfl, rfl⟩
                        have HF318 := Lib.hid f315; clear f315
                        go_upto_region 12 with (at_builtin; refine hp_appI _ (.tmp 86) (.tmp 91) 28 Try.underlying28 rfl rfl (L1 := []) HOA.out rfl rfl HF318.out HD.out.size ?_; intro V316 W317 hoa hd)
                        try clear hc285 f294 f295 f296
                        replace HOA := Lib.hid (show HP W317 w.heap.size [.fl (owI V316 ((x277 ++ [y289]))), .fl (owI (.slice A309 (y187).length cap310) (y187)), .fl (owI (.slice A302 (y19).length cap303) (y19)), .fl (owI (.slice (some ⟨b291, o292, none⟩) (y7).length cap284) (y7))] from hoa); clear hoa
                        replace HD := Lib.hid (HD.out.trans hd); clear hd
                        go_wp2_with fail
                        go_roundg g1
                        case measure => omega
                        case rel => exact ⟨(x277 ++ [y289]), (wrap64 (x278 + 1)), V316, rfl, rfl, HD, HOA, HL1⟩
                  · replace HL1 := Lib.hid (ifF hc285 HL1.out)
                    have hc285d := decide_eq_false hc285
                    have HK286 := Lib.hid hc285
                    obtain rfl := Option.some.inj HL1.out
                    have hm := HM.out; try dsimp only at hm
                    replace HM := Lib.hid hm; clear hm
                    obtain ⟨⟨y321, y322⟩, hy319, hm⟩ := obind HM.out
                    dsimp only at hm
                    replace HM := Lib.hid hm; clear hm
                    have HC320 := common_Of_ok W282 cap1 (rdL HD.out HR1.out) hy319
                    clear hy319
                    by_cases hz323 : y322 = 0
                    · subst hz323
                      rw [errV_zero] at HC320; replace HC320 := Lib.hid HC320
                      go_wp2_with fail
                      refine HC320.out.mono ?_; rintro e W324 ⟨rfl, hd⟩
                      try clear hc285 hc285d
                      replace HOA := Lib.hid (HOA.out.below hd)
                      replace HD := Lib.hid (HD.out.trans (hd.mono HD.out.size))
                      clear hd
                      obtain ⟨b327, hb, hm⟩ := obind HM.out
                      replace HM := Lib.hid hm; have HB328 := Lib.hid hb; clear hm hb
                      replace HB328 := Lib.hid (ifT (by decide) HB328.out)
                      have hd : Below W324.heap.size W324 (World.alloc W324 (.cells #[Value.int .i64 (y321)] 3)) := (Below.refl _ _).alloc (Nat.le_refl _) _
                      have ho : (owI (.slice (some ⟨W324.heap.size, 0, none⟩) 1 1) [y321]).ok (World.alloc W324 (.cells #[Value.int .i64 (y321)] 3)) W324.heap.size := litI_ok W324 [y321] (by unfold maxLen; simp)
                      replace HOA := Lib.hid (HOA.out.call hd HD.out.size ho); clear ho
                      replace HD := Lib.hid (HD.out.trans (hd.mono HD.out.size))
                      clear hd
                      obtain ⟨y333, hy331, hm⟩ := obind HB328.out
                      replace HB328 := Lib.hid hm; clear hm
                      obtain ⟨A334, cap335, he, _⟩ := HP.open_I HOA.out (List.Mem.tail _ (List.Mem.head _))
                      subst he
                      have HC332 := SE_Ints_ok (World.alloc W324 (.cells #[Value.int .i64 (y321)] 3)) cap335 (HP.rd_I HOA.out (List.Mem.tail _ (List.Mem.head _))) 1 (HP.rd_I HOA.out (List.Mem.head _)) hy331
                      clear hy331
                      replace HC332 := Lib.hid HC332
                      go_wp2_with fail
                      refine HC332.out.mono ?_; rintro e W336 ⟨rfl, hd⟩
                      replace HOA := Lib.hid (HOA.out.below (hd.below _))
                      replace HD := Lib.hid (HD.out.trans ((hd.below _).mono HD.out.size))
                      clear hd
                      cases y333
                      · replace HB328 := Lib.hid (ifF Bool.false_ne_true HB328.out)
                        obtain rfl := Option.some.inj HB328.out
                        obtain rfl := Option.some.inj HM.out
                        go_wp2_with fail
                        go_ret
                        exact ⟨rfl, HD.out⟩
                      · replace HB328 := Lib.hid (ifT rfl HB328.out)
                        obtain rfl := Option.some.inj HB328.out
                        obtain rfl := Option.some.inj HM.out
                        go_wp2_with fail
                        go_ret
                        exact ⟨rfl, HD.out⟩
                    · rw [errV_pos _ hz323] at HC320; replace HC320 := Lib.hid HC320
                      go_wp2_with fail
                      refine HC320.out.mono ?_; rintro e W325 ⟨rfl, hd⟩
                      try clear hc285 hc285d
                      replace HOA := Lib.hid (HOA.out.below hd)
                      replace HD := Lib.hid (HD.out.trans (hd.mono HD.out.size))
                      clear hd
                      have HZ326 := Lib.hid hz323; clear hz323
                      obtain ⟨b337, hb, hm⟩ := obind HM.out
                      replace HM := Lib.hid hm; have HB338 := Lib.hid hb; clear hm hb
                      replace HB338 := Lib.hid (ifF (fun h => HZ326.out (eq_of_beq h)) HB338.out)
                      obtain rfl := Option.some.inj HB338.out
                      obtain rfl := Option.some.inj HM.out
                      go_wp2_with fail
                      go_ret
                      exact ⟨rfl, HD.out⟩
            · replace HM := Lib.hid (ifT rfl HM.out)
              obtain ⟨b339, hb, hm⟩ := obind HM.out
              replace HM := Lib.hid hm; have HB340 := Lib.hid hb; clear hm hb
              replace HB340 := Lib.hid (ifT (by decide) HB340.out)
              obtain rfl := Option.some.inj HB340.out
              obtain rfl := Option.some.inj HM.out
              go_wp2_with fail
              go_ret
              exact ⟨rfl, HD.out⟩
    · rw [errV_pos _ hz9] at HC6; replace HC6 := Lib.hid HC6
      go_wp2_with fail
      refine HC6.out.mono ?_; rintro e W13 ⟨V14, rfl, ho, hd⟩
      replace HOA := Lib.hid (HOA.out.call hd HD.out.size ho); clear ho
      replace HD := Lib.hid (HD.out.trans (hd.mono HD.out.size))
      clear hd
      have HZ16 := Lib.hid hz9; clear hz9
      obtain ⟨⟨y343, y344⟩, hy341, hm⟩ := obind HM.out
      dsimp only at hm
      replace HM := Lib.hid hm; clear hm
      have HC342 := common_Way_ok W13 cap1 (rdL HD.out HR1.out) hy341
      clear hy341
      by_cases hz345 : y344 = 0
      · subst hz345
        rw [errV_zero] at HC342; replace HC342 := Lib.hid HC342
        go_wp2_with fail
        refine HC342.out.mono ?_; rintro e W346 ⟨V347, rfl, ho, hd⟩
        replace HOA := Lib.hid (HOA.out.call hd HD.out.size ho); clear ho
        replace HD := Lib.hid (HD.out.trans (hd.mono HD.out.size))
        clear hd
        obtain ⟨⟨y355, y356⟩, hy353, hm⟩ := obind HM.out
        dsimp only at hm
        replace HM := Lib.hid hm; clear hm
        have HC354 := common_Way_ok W346 cap1 (rdL HD.out HR1.out) hy353
        clear hy353
        by_cases hz357 : y356 = 0
        · subst hz357
          rw [errV_zero] at HC354; replace HC354 := Lib.hid HC354
          go_wp2_with fail
          refine HC354.out.mono ?_; rintro e W358 ⟨V359, rfl, ho, hd⟩
          replace HOA := Lib.hid (HOA.out.call hd HD.out.size ho); clear ho
          replace HD := Lib.hid (HD.out.trans (hd.mono HD.out.size))
          clear hd
          go_upto_region 7 with (fail)
          obtain ⟨b365, hb, hm⟩ := obind HM.out
          replace HM := Lib.hid hm; have HB366 := Lib.hid hb; clear hm hb
          go_cut [58] (fun uq wr => uq = .bool b365 ∧ Hid (Below W358.heap.size W358 wr))
          case first =>
            have HWC367 := Lib.hid (Below.refl W358.heap.size W358)
            obtain ⟨b368, hb, hm⟩ := obind HB366.out
            replace HB366 := Lib.hid hm; have HB369 := Lib.hid hb; clear hm hb
            replace HB369 := Lib.hid (ifT (bne_iff_ne.2 HZ16.out) HB369.out)
            obtain rfl := Option.some.inj HB369.out
            replace HB366 := Lib.hid (ifT (by first | rfl | trivial) HB366.out)
            cases Option.some.inj HB366.out
            try go_wp2_with fail
            go_meet
            case rel => exact ⟨rfl, HWC367⟩
          case rest =>
            obtain ⟨rfl, HWC367⟩ := hcut
            rename World => W370
            have hd := HWC367.out
            replace HOA := Lib.hid (HOA.out.below hd)
            replace HD := Lib.hid (HD.out.trans (hd.mono HD.out.size))
            clear hd
            cases b365
            · replace HM := Lib.hid (ifF Bool.false_ne_true HM.out)
              replace HOA := Lib.hid (show HP _ _ (.fl (owI (.slice none 0 0) ([])) :: _) from HOA.out.pushNil _ _)
              go_wp2_with fail
              obtain ⟨o372, ho, hm⟩ := obind HM.out
              replace HM := Lib.hid hm; have HL1 := Lib.hid ho; clear hm ho
              go_loopg [18, 19] F (fun gg ux375 ux376 wr => ∃ (x373 : List Int) (x374 : Int) (V377 : Value), V377 = ux375 ∧ ux376 = .int .i64 x374 ∧ Hid (Below w.heap.size w wr) ∧ Hid (HP wr w.heap.size [.fl (owI V377 (x373)), .fl (owI V359 (y355)), .fl (owI V347 (y343)), .fl (owI V14 (y7))]) ∧ Hid (L3_CommonThree_L1 F (y7) (y343) (y355) gg x373 x374 = some o372))
              case atStart => exact ⟨[], 0, (.slice none 0 0), rfl, rfl, HD, HOA, HL1⟩
              case round =>
                obtain ⟨x373, x374, V377, rfl, rfl, HD, HOA, HL1⟩ := hrel
                rename World => W378
                cases gk with
                | zero => exact absurd ((L3_CommonThree_L1_0 ..).symm.trans HL1.out) (by intro h; cases h)
                | succ g1 =>
                  replace HL1 := Lib.hid ((L3_CommonThree_L1_s ..).symm.trans HL1.out)
                  obtain ⟨A379, cap380, he, _⟩ := HP.open_I HOA.out (List.Mem.tail _ (List.Mem.tail _ (List.Mem.tail _ (List.Mem.head _))))
                  subst he
                  by_cases hc381 : x374 < ((y7).length : Int)
                  · replace HL1 := Lib.hid (ifT hc381 HL1.out)
                    have HK382 := Lib.hid hc381
                    obtain ⟨b383, hb, hm⟩ := obind HL1.out
                    replace HL1 := Lib.hid hm; have HB384 := Lib.hid hb; clear hm hb
                    obtain ⟨y385, hy386, hm⟩ := obind HB384.out
                    replace HB384 := Lib.hid hm; clear hm
                    obtain ⟨b387, o388, ea389, _, f390, f391, f392⟩ := ReadsI.ix (HP.rd_I HOA.out (List.Mem.tail _ (List.Mem.tail _ (List.Mem.tail _ (List.Mem.head _))))) hy386
                    cases ea389
                    try simp only [Nat.zero_add, Nat.add_zero, Int.toNat_natCast, Int.toNat_zero, Int.toNat_one] at f392
                    try rw [← HP.len_I HOA.out (List.Mem.tail _ (List.Mem.tail _ (List.Mem.tail _ (List.Mem.head _))))] at f391
                    have HY394 := Lib.hid hy386; clear hy386
                    obtain ⟨y397, hy395, hm⟩ := obind HB384.out
                    replace HB384 := Lib.hid hm; clear hm
                    obtain ⟨A398, cap399, he, _⟩ := HP.open_I HOA.out (List.Mem.tail _ (List.Mem.tail _ (List.Mem.head _)))
                    subst he
                    have HC396 := R1_Has_ok W378 cap399 (HP.rd_I HOA.out (List.Mem.tail _ (List.Mem.tail _ (List.Mem.head _)))) hy395
                    clear hy395
                    replace HC396 := Lib.hid HC396
                    cases y397
                    · replace HB384 := Lib.hid (ifF Bool.false_ne_true HB384.out)
                      obtain rfl := Option.some.inj HB384.out
                      replace HL1 := Lib.hid (ifF (by first | exact Bool.false_ne_true | exact not_false) HL1.out)
                      go_wp2_with fail
                      refine HC396.out.mono ?_; rintro e w' ⟨rfl, rfl⟩
                      go_wp2_with fail
                      try clear hc381 f390 f391 f392
                      go_roundg g1
                      case measure => omega
                      case rel => exact ⟨x373, (wrap64 (x374 + 1)), V377, rfl, rfl, HD, HOA, HL1⟩
                    · replace HB384 := Lib.hid (ifT rfl HB384.out)
                      obtain ⟨y400, hy401, hm⟩ := obind HB384.out
                      replace HB384 := Lib.hid hm; clear hm
                      obtain rfl := Option.some.inj (HY394.out.symm.trans hy401)
                      clear hy401
                      obtain ⟨y404, hy402, hm⟩ := obind HB384.out
                      replace HB384 := Lib.hid hm; clear hm
                      obtain ⟨A405, cap406, he, _⟩ := HP.open_I HOA.out (List.Mem.tail _ (List.Mem.head _))
                      subst he
                      have HC403 := R1_Has_ok W378 cap406 (HP.rd_I HOA.out (List.Mem.tail _ (List.Mem.head _))) hy402
                      clear hy402
                      replace HC403 := Lib.hid HC403
                      cases y404
                      · replace HB384 := Lib.hid (ifF Bool.false_ne_true HB384.out)
                        obtain rfl := Option.some.inj HB384.out
                        replace HL1 := Lib.hid (ifF (by first | exact Bool.false_ne_true | exact not_false) HL1.out)
                        go_wp2_with fail
                        refine HC396.out.mono ?_; rintro e w' ⟨rfl, rfl⟩
                        go_wp2_with fail
                        refine HC403.out.mono ?_; rintro e w' ⟨rfl, rfl⟩
                        go_wp2_with fail
                        try clear hc381 f390 f391 f392
                        go_roundg g1
                        case measure => omega
                        case rel => exact ⟨x373, (wrap64 (x374 + 1)), V377, rfl, rfl, HD, HOA, HL1⟩
                      · replace HB384 := Lib.hid (ifT rfl HB384.out)
                        obtain rfl := Option.some.inj HB384.out
                        replace HL1 := Lib.hid (ifT (by first | rfl | trivial) HL1.out)
                        obtain ⟨y407, hy408, hm⟩ := obind HL1.out
                        replace HL1 := Lib.hid hm; clear hm
                        obtain rfl := Option.some.inj (HY394.out.symm.trans hy408)
                        clear hy408
                        obtain ⟨y409, hy410, hm⟩ := obind HL1.out
                        replace HL1 := Lib.hid hm; clear hm
                        obtain ⟨f411, hy410⟩ := app_some hy410; subst hy410
                        go_wp2_with fail
                        refine HC396.out.mono ?_; rintro e w' ⟨rfl, rfl⟩
                        go_wp2_with fail
                        refine HC403.out.mono ?_; rintro e w' ⟨rfl, rfl⟩
                        have HF414 := Lib.hid f411; clear f411
                        go_upto_region 12 with (at_builtin; refine hp_appI _ (.tmp 86) (.tmp 91) 28 Try.underlying28 rfl rfl (L1 := []) HOA.out rfl rfl HF414.out HD.out.size ?_; intro V412 W413 hoa hd)
                        try clear hc381 f390 f391 f392
                        replace HOA := Lib.hid (show HP W413 w.heap.size [.fl (owI V412 ((x373 ++ [y385]))), .fl (owI (.slice A405 (y355).length cap406) (y355)), .fl (owI (.slice A398 (y343).length cap399) (y343)), .fl (owI (.slice (some ⟨b387, o388, none⟩) (y7).length cap380) (y7))] from hoa); clear hoa
                        replace HD := Lib.hid (HD.out.trans hd); clear hd
                        go_wp2_with fail
                        go_roundg g1
                        case measure => omega
                        case rel => exact ⟨(x373 ++ [y385]), (wrap64 (x374 + 1)), V412, rfl, rfl, HD, HOA, HL1⟩
                  · replace HL1 := Lib.hid (ifF hc381 HL1.out)
                    have hc381d := decide_eq_false hc381
                    have HK382 := Lib.hid hc381
                    obtain rfl := Option.some.inj HL1.out
                    have hm := HM.out; try dsimp only at hm
                    replace HM := Lib.hid hm; clear hm
                    obtain ⟨⟨y417, y418⟩, hy415, hm⟩ := obind HM.out
                    dsimp only at hm
                    replace HM := Lib.hid hm; clear hm
                    have HC416 := common_Of_ok W378 cap1 (rdL HD.out HR1.out) hy415
                    clear hy415
                    by_cases hz419 : y418 = 0
                    · subst hz419
                      rw [errV_zero] at HC416; replace HC416 := Lib.hid HC416
                      go_wp2_with fail
                      refine HC416.out.mono ?_; rintro e W420 ⟨rfl, hd⟩
                      try clear hc381 hc381d
                      replace HOA := Lib.hid (HOA.out.below hd)
                      replace HD := Lib.hid (HD.out.trans (hd.mono HD.out.size))
                      clear hd
                      obtain ⟨b423, hb, hm⟩ := obind HM.out
                      replace HM := Lib.hid hm; have HB424 := Lib.hid hb; clear hm hb
                      replace HB424 := Lib.hid (ifT (by decide) HB424.out)
                      have hd : Below W420.heap.size W420 (World.alloc W420 (.cells #[Value.int .i64 (y417)] 3)) := (Below.refl _ _).alloc (Nat.le_refl _) _
                      have ho : (owI (.slice (some ⟨W420.heap.size, 0, none⟩) 1 1) [y417]).ok (World.alloc W420 (.cells #[Value.int .i64 (y417)] 3)) W420.heap.size := litI_ok W420 [y417] (by unfold maxLen; simp)
                      replace HOA := Lib.hid (HOA.out.call hd HD.out.size ho); clear ho
                      replace HD := Lib.hid (HD.out.trans (hd.mono HD.out.size))
                      clear hd
                      obtain ⟨y429, hy427, hm⟩ := obind HB424.out
                      replace HB424 := Lib.hid hm; clear hm
                      obtain ⟨A430, cap431, he, _⟩ := HP.open_I HOA.out (List.Mem.tail _ (List.Mem.head _))
                      subst he
                      have HC428 := SE_Ints_ok (World.alloc W420 (.cells #[Value.int .i64 (y417)] 3)) cap431 (HP.rd_I HOA.out (List.Mem.tail _ (List.Mem.head _))) 1 (HP.rd_I HOA.out (List.Mem.head _)) hy427
                      clear hy427
                      replace HC428 := Lib.hid HC428
                      go_wp2_with fail
                      refine HC428.out.mono ?_; rintro e W432 ⟨rfl, hd⟩
                      replace HOA := Lib.hid (HOA.out.below (hd.below _))
                      replace HD := Lib.hid (HD.out.trans ((hd.below _).mono HD.out.size))
                      clear hd
                      cases y429
                      · replace HB424 := Lib.hid (ifF Bool.false_ne_true HB424.out)
                        obtain rfl := Option.some.inj HB424.out
                        obtain rfl := Option.some.inj HM.out
                        go_wp2_with fail
                        go_ret
                        exact ⟨rfl, HD.out⟩
                      · replace HB424 := Lib.hid (ifT rfl HB424.out)
                        obtain rfl := Option.some.inj HB424.out
                        obtain rfl := Option.some.inj HM.out
                        go_wp2_with fail
                        go_ret
                        exact ⟨rfl, HD.out⟩
                    · rw [errV_pos _ hz419] at HC416; replace HC416 := Lib.hid HC416
                      go_wp2_with fail
                      refine HC416.out.mono ?_; rintro e W421 ⟨rfl, hd⟩
                      try clear hc381 hc381d
                      replace HOA := Lib.hid (HOA.out.below hd)
                      replace HD := Lib.hid (HD.out.trans (hd.mono HD.out.size))
                      clear hd
                      have HZ422 := Lib.hid hz419; clear hz419
                      obtain ⟨b433, hb, hm⟩ := obind HM.out
                      replace HM := Lib.hid hm; have HB434 := Lib.hid hb; clear hm hb
                      replace HB434 := Lib.hid (ifF (fun h => HZ422.out (eq_of_beq h)) HB434.out)
                      obtain rfl := Option.some.inj HB434.out
                      obtain rfl := Option.some.inj HM.out
                      go_wp2_with fail
                      go_ret
                      exact ⟨rfl, HD.out⟩
            · replace HM := Lib.hid (ifT rfl HM.out)
              obtain ⟨b435, hb, hm⟩ := obind HM.out
              replace HM := Lib.hid hm; have HB436 := Lib.hid hb; clear hm hb
              replace HB436 := Lib.hid (ifF (fun h => HZ16.out (eq_of_beq h)) HB436.out)
              obtain ⟨A437, cap438, he, _⟩ := HP.open_I HOA.out (List.Mem.tail _ (List.Mem.tail _ (List.Mem.head _)))
              subst he
              rcases Bool.eq_false_or_eq_true (((y7).length : Int) == 0) with hc439 | hc439
              · replace HB436 := Lib.hid (ifT hc439 HB436.out)
                have HK440 := Lib.hid hc439
                obtain rfl := Option.some.inj HB436.out
                obtain rfl := Option.some.inj HM.out
                go_wp2_with fail
                go_ret
                exact ⟨(by first | rfl | (refine congrArg (fun b => Ending.returned (Value.bool b)) ?_; first | (exact decide_eq_true (by omega)) | (exact decide_eq_false (by omega)))), HD.out⟩
              · replace HB436 := Lib.hid (ifF (bF hc439) HB436.out)
                have HK440 := Lib.hid hc439
                obtain rfl := Option.some.inj HB436.out
                obtain rfl := Option.some.inj HM.out
                go_wp2_with fail
                go_ret
                exact ⟨(by first | rfl | (refine congrArg (fun b => Ending.returned (Value.bool b)) ?_; first | (exact decide_eq_true (by omega)) | (exact decide_eq_false (by omega)))), HD.out⟩
        · rw [errV_pos _ hz357] at HC354; replace HC354 := Lib.hid HC354
          go_wp2_with fail
          refine HC354.out.mono ?_; rintro e W361 ⟨V362, rfl, ho, hd⟩
          replace HOA := Lib.hid (HOA.out.call hd HD.out.size ho); clear ho
          replace HD := Lib.hid (HD.out.trans (hd.mono HD.out.size))
          clear hd
          have HZ364 := Lib.hid hz357; clear hz357
          go_upto_region 7 with (fail)
          obtain ⟨b441, hb, hm⟩ := obind HM.out
          replace HM := Lib.hid hm; have HB442 := Lib.hid hb; clear hm hb
          go_cut [58] (fun uq wr => uq = .bool b441 ∧ Hid (Below W361.heap.size W361 wr))
          case first =>
            have HWC443 := Lib.hid (Below.refl W361.heap.size W361)
            obtain ⟨b444, hb, hm⟩ := obind HB442.out
            replace HB442 := Lib.hid hm; have HB445 := Lib.hid hb; clear hm hb
            replace HB445 := Lib.hid (ifT (bne_iff_ne.2 HZ16.out) HB445.out)
            obtain rfl := Option.some.inj HB445.out
            replace HB442 := Lib.hid (ifT (by first | rfl | trivial) HB442.out)
            cases Option.some.inj HB442.out
            try go_wp2_with fail
            go_meet
            case rel => exact ⟨rfl, HWC443⟩
          case rest =>
            obtain ⟨rfl, HWC443⟩ := hcut
            rename World => W446
            have hd := HWC443.out
            replace HOA := Lib.hid (HOA.out.below hd)
            replace HD := Lib.hid (HD.out.trans (hd.mono HD.out.size))
            clear hd
            cases b441
            · replace HM := Lib.hid (ifF Bool.false_ne_true HM.out)
              replace HOA := Lib.hid (show HP _ _ (.fl (owI (.slice none 0 0) ([])) :: _) from HOA.out.pushNil _ _)
              go_wp2_with fail
              obtain ⟨o448, ho, hm⟩ := obind HM.out
              replace HM := Lib.hid hm; have HL1 := Lib.hid ho; clear hm ho
              go_loopg [18, 19] F (fun gg ux451 ux452 wr => ∃ (x449 : List Int) (x450 : Int) (V453 : Value), V453 = ux451 ∧ ux452 = .int .i64 x450 ∧ Hid (Below w.heap.size w wr) ∧ Hid (HP wr w.heap.size [.fl (owI V453 (x449)), .fl (owI V362 (y355)), .fl (owI V347 (y343)), .fl (owI V14 (y7))]) ∧ Hid (L3_CommonThree_L1 F (y7) (y343) (y355) gg x449 x450 = some o448))
              case atStart => exact ⟨[], 0, (.slice none 0 0), rfl, rfl, HD, HOA, HL1⟩
              case round =>
                obtain ⟨x449, x450, V453, rfl, rfl, HD, HOA, HL1⟩ := hrel
                rename World => W454
                cases gk with
                | zero => exact absurd ((L3_CommonThree_L1_0 ..).symm.trans HL1.out) (by intro h; cases h)
                | succ g1 =>
                  replace HL1 := Lib.hid ((L3_CommonThree_L1_s ..).symm.trans HL1.out)
                  obtain ⟨A455, cap456, he, _⟩ := HP.open_I HOA.out (List.Mem.tail _ (List.Mem.tail _ (List.Mem.tail _ (List.Mem.head _))))
                  subst he
                  by_cases hc457 : x450 < ((y7).length : Int)
                  · replace HL1 := Lib.hid (ifT hc457 HL1.out)
                    have HK458 := Lib.hid hc457
                    obtain ⟨b459, hb, hm⟩ := obind HL1.out
                    replace HL1 := Lib.hid hm; have HB460 := Lib.hid hb; clear hm hb
                    obtain ⟨y461, hy462, hm⟩ := obind HB460.out
                    replace HB460 := Lib.hid hm; clear hm
                    obtain ⟨b463, o464, ea465, _, f466, f467, f468⟩ := ReadsI.ix (HP.rd_I HOA.out (List.Mem.tail _ (List.Mem.tail _ (List.Mem.tail _ (List.Mem.head _))))) hy462
                    cases ea465
                    try simp only [Nat.zero_add, Nat.add_zero, Int.toNat_natCast, Int.toNat_zero, Int.toNat_one] at f468
                    try rw [← HP.len_I HOA.out (List.Mem.tail _ (List.Mem.tail _ (List.Mem.tail _ (List.Mem.head _))))] at f467
                    have HY470 := Lib.hid hy462; clear hy462
                    obtain ⟨y473, hy471, hm⟩ := obind HB460.out
                    replace HB460 := Lib.hid hm; clear hm
                    obtain ⟨A474, cap475, he, _⟩ := HP.open_I HOA.out (List.Mem.tail _ (List.Mem.tail _ (List.Mem.head _)))
                    subst he
                    have HC472 := R1_Has_ok W454 cap475 (HP.rd_I HOA.out (List.Mem.tail _ (List.Mem.tail _ (List.Mem.head _)))) hy471
                    clear hy471
                    replace HC472 := Lib.hid HC472
                    cases y473
                    · replace HB460 := Lib.hid (ifF Bool.false_ne_true HB460.out)
                      obtain rfl := Option.some.inj HB460.out
                      replace HL1 := Lib.hid (ifF (by first | exact Bool.false_ne_true | exact not_false) HL1.out)
                      go_wp2_with fail
                      refine HC472.out.mono ?_; rintro e w' ⟨rfl, rfl⟩
                      go_wp2_with fail
                      try clear hc457 f466 f467 f468
                      go_roundg g1
                      case measure => omega
                      case rel => exact ⟨x449, (wrap64 (x450 + 1)), V453, rfl, rfl, HD, HOA, HL1⟩
                    · replace HB460 := Lib.hid (ifT rfl HB460.out)
                      obtain ⟨y476, hy477, hm⟩ := obind HB460.out
                      replace HB460 := Lib.hid hm; clear hm
                      obtain rfl := Option.some.inj (HY470.out.symm.trans hy477)
                      clear hy477
                      obtain ⟨y480, hy478, hm⟩ := obind HB460.out
                      replace HB460 := Lib.hid hm; clear hm
                      obtain ⟨A481, cap482, he, _⟩ := HP.open_I HOA.out (List.Mem.tail _ (List.Mem.head _))
                      subst he
                      have HC479 := R1_Has_ok W454 cap482 (HP.rd_I HOA.out (List.Mem.tail _ (List.Mem.head _))) hy478
                      clear hy478
                      replace HC479 := Lib.hid HC479
                      cases y480
                      · replace HB460 := Lib.hid (ifF Bool.false_ne_true HB460.out)
                        obtain rfl := Option.some.inj HB460.out
                        replace HL1 := Lib.hid (ifF (by first | exact Bool.false_ne_true | exact not_false) HL1.out)
                        go_wp2_with fail
                        refine HC472.out.mono ?_; rintro e w' ⟨rfl, rfl⟩
                        go_wp2_with fail
                        refine HC479.out.mono ?_; rintro e w' ⟨rfl, rfl⟩
                        go_wp2_with fail
                        try clear hc457 f466 f467 f468
                        go_roundg g1
                        case measure => omega
                        case rel => exact ⟨x449, (wrap64 (x450 + 1)), V453, rfl, rfl, HD, HOA, HL1⟩
                      · replace HB460 := Lib.hid (ifT rfl HB460.out)
                        obtain rfl := Option.some.inj HB460.out
                        replace HL1 := Lib.hid (ifT (by first | rfl | trivial) HL1.out)
                        obtain ⟨y483, hy484, hm⟩ := obind HL1.out
                        replace HL1 := Lib.hid hm; clear hm
                        obtain rfl := Option.some.inj (HY470.out.symm.trans hy484)
                        clear hy484
                        obtain ⟨y485, hy486, hm⟩ := obind HL1.out
                        replace HL1 := Lib.hid hm; clear hm
                        obtain ⟨f487, hy486⟩ := app_some hy486; subst hy486
                        go_wp2_with fail
                        refine HC472.out.mono ?_; rintro e w' ⟨rfl, rfl⟩
                        go_wp2_with fail
                        refine HC479.out.mono ?_; rintro e w' ⟨rfl, rfl⟩
                        have HF490 := Lib.hid f487; clear f487
                        go_upto_region 12 with (at_builtin; refine hp_appI _ (.tmp 86) (.tmp 91) 28 Try.underlying28 rfl rfl (L1 := []) HOA.out rfl rfl HF490.out HD.out.size ?_; intro V488 W489 hoa hd)
                        try clear hc457 f466 f467 f468
                        replace HOA := Lib.hid (show HP W489 w.heap.size [.fl (owI V488 ((x449 ++ [y461]))), .fl (owI (.slice A481 (y355).length cap482) (y355)), .fl (owI (.slice A474 (y343).length cap475) (y343)), .fl (owI (.slice (some ⟨b463, o464, none⟩) (y7).length cap456) (y7))] from hoa); clear hoa
                        replace HD := Lib.hid (HD.out.trans hd); clear hd
                        go_wp2_with fail
                        go_roundg g1
                        case measure => omega
                        case rel => exact ⟨(x449 ++ [y461]), (wrap64 (x450 + 1)), V488, rfl, rfl, HD, HOA, HL1⟩
                  · replace HL1 := Lib.hid (ifF hc457 HL1.out)
                    have hc457d := decide_eq_false hc457
                    have HK458 := Lib.hid hc457
                    obtain rfl := Option.some.inj HL1.out
                    have hm := HM.out; try dsimp only at hm
                    replace HM := Lib.hid hm; clear hm
                    obtain ⟨⟨y493, y494⟩, hy491, hm⟩ := obind HM.out
                    dsimp only at hm
                    replace HM := Lib.hid hm; clear hm
                    have HC492 := common_Of_ok W454 cap1 (rdL HD.out HR1.out) hy491
                    clear hy491
                    by_cases hz495 : y494 = 0
                    · subst hz495
                      rw [errV_zero] at HC492; replace HC492 := Lib.hid HC492
                      go_wp2_with fail
                      refine HC492.out.mono ?_; rintro e W496 ⟨rfl, hd⟩
                      try clear hc457 hc457d
                      replace HOA := Lib.hid (HOA.out.below hd)
                      replace HD := Lib.hid (HD.out.trans (hd.mono HD.out.size))
                      clear hd
                      obtain ⟨b499, hb, hm⟩ := obind HM.out
                      replace HM := Lib.hid hm; have HB500 := Lib.hid hb; clear hm hb
                      replace HB500 := Lib.hid (ifT (by decide) HB500.out)
                      have hd : Below W496.heap.size W496 (World.alloc W496 (.cells #[Value.int .i64 (y493)] 3)) := (Below.refl _ _).alloc (Nat.le_refl _) _
                      have ho : (owI (.slice (some ⟨W496.heap.size, 0, none⟩) 1 1) [y493]).ok (World.alloc W496 (.cells #[Value.int .i64 (y493)] 3)) W496.heap.size := litI_ok W496 [y493] (by unfold maxLen; simp)
                      replace HOA := Lib.hid (HOA.out.call hd HD.out.size ho); clear ho
                      replace HD := Lib.hid (HD.out.trans (hd.mono HD.out.size))
                      clear hd
                      obtain ⟨y505, hy503, hm⟩ := obind HB500.out
                      replace HB500 := Lib.hid hm; clear hm
                      obtain ⟨A506, cap507, he, _⟩ := HP.open_I HOA.out (List.Mem.tail _ (List.Mem.head _))
                      subst he
                      have HC504 := SE_Ints_ok (World.alloc W496 (.cells #[Value.int .i64 (y493)] 3)) cap507 (HP.rd_I HOA.out (List.Mem.tail _ (List.Mem.head _))) 1 (HP.rd_I HOA.out (List.Mem.head _)) hy503
                      clear hy503
                      replace HC504 := Lib.hid HC504
                      go_wp2_with fail
                      refine HC504.out.mono ?_; rintro e W508 ⟨rfl, hd⟩
                      replace HOA := Lib.hid (HOA.out.below (hd.below _))
                      replace HD := Lib.hid (HD.out.trans ((hd.below _).mono HD.out.size))
                      clear hd
                      cases y505
                      · replace HB500 := Lib.hid (ifF Bool.false_ne_true HB500.out)
                        obtain rfl := Option.some.inj HB500.out
                        obtain rfl := Option.some.inj HM.out
                        go_wp2_with fail
                        go_ret
                        exact ⟨rfl, HD.out⟩
                      · replace HB500 := Lib.hid (ifT rfl HB500.out)
                        obtain rfl := Option.some.inj HB500.out
                        obtain rfl := Option.some.inj HM.out
                        go_wp2_with fail
                        go_ret
                        exact ⟨rfl, HD.out⟩
                    · rw [errV_pos _ hz495] at HC492; replace HC492 := Lib.hid HC492
                      go_wp2_with fail
                      refine HC492.out.mono ?_; rintro e W497 ⟨rfl, hd⟩
                      try clear hc457 hc457d
                      replace HOA := Lib.hid (HOA.out.below hd)
                      replace HD := Lib.hid (HD.out.trans (hd.mono HD.out.size))
                      clear hd
                      have HZ498 := Lib.hid hz495; clear hz495
                      obtain ⟨b509, hb, hm⟩ := obind HM.out
                      replace HM := Lib.hid hm; have HB510 := Lib.hid hb; clear hm hb
                      replace HB510 := Lib.hid (ifF (fun h => HZ498.out (eq_of_beq h)) HB510.out)
                      obtain rfl := Option.some.inj HB510.out
                      obtain rfl := Option.some.inj HM.out
                      go_wp2_with fail
                      go_ret
                      exact ⟨rfl, HD.out⟩
            · replace HM := Lib.hid (ifT rfl HM.out)
              obtain ⟨b511, hb, hm⟩ := obind HM.out
              replace HM := Lib.hid hm; have HB512 := Lib.hid hb; clear hm hb
              replace HB512 := Lib.hid (ifF (fun h => HZ16.out (eq_of_beq h)) HB512.out)
              obtain ⟨A513, cap514, he, _⟩ := HP.open_I HOA.out (List.Mem.tail _ (List.Mem.tail _ (List.Mem.head _)))
              subst he
              rcases Bool.eq_false_or_eq_true (((y7).length : Int) == 0) with hc515 | hc515
              · replace HB512 := Lib.hid (ifT hc515 HB512.out)
                have HK516 := Lib.hid hc515
                obtain rfl := Option.some.inj HB512.out
                obtain rfl := Option.some.inj HM.out
                go_wp2_with fail
                go_ret
                exact ⟨(by first | rfl | (refine congrArg (fun b => Ending.returned (Value.bool b)) ?_; first | (exact decide_eq_true (by omega)) | (exact decide_eq_false (by omega)))), HD.out⟩
              · replace HB512 := Lib.hid (ifF (bF hc515) HB512.out)
                have HK516 := Lib.hid hc515
                obtain rfl := Option.some.inj HB512.out
                obtain rfl := Option.some.inj HM.out
                go_wp2_with fail
                go_ret
                exact ⟨(by first | rfl | (refine congrArg (fun b => Ending.returned (Value.bool b)) ?_; first | (exact decide_eq_true (by omega)) | (exact decide_eq_false (by omega)))), HD.out⟩
      · rw [errV_pos _ hz345] at HC342; replace HC342 := Lib.hid HC342
        go_wp2_with fail
        refine HC342.out.mono ?_; rintro e W349 ⟨V350, rfl, ho, hd⟩
        replace HOA := Lib.hid (HOA.out.call hd HD.out.size ho); clear ho
        replace HD := Lib.hid (HD.out.trans (hd.mono HD.out.size))
        clear hd
        have HZ352 := Lib.hid hz345; clear hz345
        obtain ⟨⟨y519, y520⟩, hy517, hm⟩ := obind HM.out
        dsimp only at hm
        replace HM := Lib.hid hm; clear hm
        have HC518 := common_Way_ok W349 cap1 (rdL HD.out HR1.out) hy517
        clear hy517
        by_cases hz521 : y520 = 0
        · subst hz521
          rw [errV_zero] at HC518; replace HC518 := Lib.hid HC518
          go_wp2_with fail
          refine HC518.out.mono ?_; rintro e W522 ⟨V523, rfl, ho, hd⟩
          replace HOA := Lib.hid (HOA.out.call hd HD.out.size ho); clear ho
          replace HD := Lib.hid (HD.out.trans (hd.mono HD.out.size))
          clear hd
          go_upto_region 7 with (fail)
          obtain ⟨b529, hb, hm⟩ := obind HM.out
          replace HM := Lib.hid hm; have HB530 := Lib.hid hb; clear hm hb
          go_cut [58] (fun uq wr => uq = .bool b529 ∧ Hid (Below W522.heap.size W522 wr))
          case first =>
            have HWC531 := Lib.hid (Below.refl W522.heap.size W522)
            obtain ⟨b532, hb, hm⟩ := obind HB530.out
            replace HB530 := Lib.hid hm; have HB533 := Lib.hid hb; clear hm hb
            replace HB533 := Lib.hid (ifT (bne_iff_ne.2 HZ16.out) HB533.out)
            obtain rfl := Option.some.inj HB533.out
            replace HB530 := Lib.hid (ifT (by first | rfl | trivial) HB530.out)
            cases Option.some.inj HB530.out
            try go_wp2_with fail
            go_meet
            case rel => exact ⟨rfl, HWC531⟩
          case rest =>
            obtain ⟨rfl, HWC531⟩ := hcut
            rename World => W534
            have hd := HWC531.out
            replace HOA := Lib.hid (HOA.out.below hd)
            replace HD := Lib.hid (HD.out.trans (hd.mono HD.out.size))
            clear hd
            cases b529
            · replace HM := Lib.hid (ifF Bool.false_ne_true HM.out)
              replace HOA := Lib.hid (show HP _ _ (.fl (owI (.slice none 0 0) ([])) :: _) from HOA.out.pushNil _ _)
              go_wp2_with fail
              obtain ⟨o536, ho, hm⟩ := obind HM.out
              replace HM := Lib.hid hm; have HL1 := Lib.hid ho; clear hm ho
              go_loopg [18, 19] F (fun gg ux539 ux540 wr => ∃ (x537 : List Int) (x538 : Int) (V541 : Value), V541 = ux539 ∧ ux540 = .int .i64 x538 ∧ Hid (Below w.heap.size w wr) ∧ Hid (HP wr w.heap.size [.fl (owI V541 (x537)), .fl (owI V523 (y519)), .fl (owI V350 (y343)), .fl (owI V14 (y7))]) ∧ Hid (L3_CommonThree_L1 F (y7) (y343) (y519) gg x537 x538 = some o536))
              case atStart => exact ⟨[], 0, (.slice none 0 0), rfl, rfl, HD, HOA, HL1⟩
              case round =>
                obtain ⟨x537, x538, V541, rfl, rfl, HD, HOA, HL1⟩ := hrel
                rename World => W542
                cases gk with
                | zero => exact absurd ((L3_CommonThree_L1_0 ..).symm.trans HL1.out) (by intro h; cases h)
                | succ g1 =>
                  replace HL1 := Lib.hid ((L3_CommonThree_L1_s ..).symm.trans HL1.out)
                  obtain ⟨A543, cap544, he, _⟩ := HP.open_I HOA.out (List.Mem.tail _ (List.Mem.tail _ (List.Mem.tail _ (List.Mem.head _))))
                  subst he
                  by_cases hc545 : x538 < ((y7).length : Int)
                  · replace HL1 := Lib.hid (ifT hc545 HL1.out)
                    have HK546 := Lib.hid hc545
                    obtain ⟨b547, hb, hm⟩ := obind HL1.out
                    replace HL1 := Lib.hid hm; have HB548 := Lib.hid hb; clear hm hb
                    obtain ⟨y549, hy550, hm⟩ := obind HB548.out
                    replace HB548 := Lib.hid hm; clear hm
                    obtain ⟨b551, o552, ea553, _, f554, f555, f556⟩ := ReadsI.ix (HP.rd_I HOA.out (List.Mem.tail _ (List.Mem.tail _ (List.Mem.tail _ (List.Mem.head _))))) hy550
                    cases ea553
                    try simp only [Nat.zero_add, Nat.add_zero, Int.toNat_natCast, Int.toNat_zero, Int.toNat_one] at f556
                    try rw [← HP.len_I HOA.out (List.Mem.tail _ (List.Mem.tail _ (List.Mem.tail _ (List.Mem.head _))))] at f555
                    have HY558 := Lib.hid hy550; clear hy550
                    obtain ⟨y561, hy559, hm⟩ := obind HB548.out
                    replace HB548 := Lib.hid hm; clear hm
                    obtain ⟨A562, cap563, he, _⟩ := HP.open_I HOA.out (List.Mem.tail _ (List.Mem.tail _ (List.Mem.head _)))
                    subst he
                    have HC560 := R1_Has_ok W542 cap563 (HP.rd_I HOA.out (List.Mem.tail _ (List.Mem.tail _ (List.Mem.head _)))) hy559
                    clear hy559
                    replace HC560 := Lib.hid HC560
                    cases y561
                    · replace HB548 := Lib.hid (ifF Bool.false_ne_true HB548.out)
                      obtain rfl := Option.some.inj HB548.out
                      replace HL1 := Lib.hid (ifF (by first | exact Bool.false_ne_true | exact not_false) HL1.out)
                      go_wp2_with fail
                      refine HC560.out.mono ?_; rintro e w' ⟨rfl, rfl⟩
                      go_wp2_with fail
                      try clear hc545 f554 f555 f556
                      go_roundg g1
                      case measure => omega
                      case rel => exact ⟨x537, (wrap64 (x538 + 1)), V541, rfl, rfl, HD, HOA, HL1⟩
                    · replace HB548 := Lib.hid (ifT rfl HB548.out)
                      obtain ⟨y564, hy565, hm⟩ := obind HB548.out
                      replace HB548 := Lib.hid hm; clear hm
                      obtain rfl := Option.some.inj (HY558.out.symm.trans hy565)
                      clear hy565
                      obtain ⟨y568, hy566, hm⟩ := obind HB548.out
                      replace HB548 := Lib.hid hm; clear hm
                      obtain ⟨A569, cap570, he, _⟩ := HP.open_I HOA.out (List.Mem.tail _ (List.Mem.head _))
                      subst he
                      have HC567 := R1_Has_ok W542 cap570 (HP.rd_I HOA.out (List.Mem.tail _ (List.Mem.head _))) hy566
                      clear hy566
                      replace HC567 := Lib.hid HC567
                      cases y568
                      · replace HB548 := Lib.hid (ifF Bool.false_ne_true HB548.out)
                        obtain rfl := Option.some.inj HB548.out
                        replace HL1 := Lib.hid (ifF (by first | exact Bool.false_ne_true | exact not_false) HL1.out)
                        go_wp2_with fail
                        refine HC560.out.mono ?_; rintro e w' ⟨rfl, rfl⟩
                        go_wp2_with fail
                        refine HC567.out.mono ?_; rintro e w' ⟨rfl, rfl⟩
                        go_wp2_with fail
                        try clear hc545 f554 f555 f556
                        go_roundg g1
                        case measure => omega
                        case rel => exact ⟨x537, (wrap64 (x538 + 1)), V541, rfl, rfl, HD, HOA, HL1⟩
                      · replace HB548 := Lib.hid (ifT rfl HB548.out)
                        obtain rfl := Option.some.inj HB548.out
                        replace HL1 := Lib.hid (ifT (by first | rfl | trivial) HL1.out)
                        obtain ⟨y571, hy572, hm⟩ := obind HL1.out
                        replace HL1 := Lib.hid hm; clear hm
                        obtain rfl := Option.some.inj (HY558.out.symm.trans hy572)
                        clear hy572
                        obtain ⟨y573, hy574, hm⟩ := obind HL1.out
                        replace HL1 := Lib.hid hm; clear hm
                        obtain ⟨f575, hy574⟩ := app_some hy574; subst hy574
                        go_wp2_with fail
                        refine HC560.out.mono ?_; rintro e w' ⟨rfl, rfl⟩
                        go_wp2_with fail
                        refine HC567.out.mono ?_; rintro e w' ⟨rfl, rfl⟩
                        have HF578 := Lib.hid f575; clear f575
                        go_upto_region 12 with (at_builtin; refine hp_appI _ (.tmp 86) (.tmp 91) 28 Try.underlying28 rfl rfl (L1 := []) HOA.out rfl rfl HF578.out HD.out.size ?_; intro V576 W577 hoa hd)
                        try clear hc545 f554 f555 f556
                        replace HOA := Lib.hid (show HP W577 w.heap.size [.fl (owI V576 ((x537 ++ [y549]))), .fl (owI (.slice A569 (y519).length cap570) (y519)), .fl (owI (.slice A562 (y343).length cap563) (y343)), .fl (owI (.slice (some ⟨b551, o552, none⟩) (y7).length cap544) (y7))] from hoa); clear hoa
                        replace HD := Lib.hid (HD.out.trans hd); clear hd
                        go_wp2_with fail
                        go_roundg g1
                        case measure => omega
                        case rel => exact ⟨(x537 ++ [y549]), (wrap64 (x538 + 1)), V576, rfl, rfl, HD, HOA, HL1⟩
                  · replace HL1 := Lib.hid (ifF hc545 HL1.out)
                    have hc545d := decide_eq_false hc545
                    have HK546 := Lib.hid hc545
                    obtain rfl := Option.some.inj HL1.out
                    have hm := HM.out; try dsimp only at hm
                    replace HM := Lib.hid hm; clear hm
                    obtain ⟨⟨y581, y582⟩, hy579, hm⟩ := obind HM.out
                    dsimp only at hm
                    replace HM := Lib.hid hm; clear hm
                    have HC580 := common_Of_ok W542 cap1 (rdL HD.out HR1.out) hy579
                    clear hy579
                    by_cases hz583 : y582 = 0
                    · subst hz583
                      rw [errV_zero] at HC580; replace HC580 := Lib.hid HC580
                      go_wp2_with fail
                      refine HC580.out.mono ?_; rintro e W584 ⟨rfl, hd⟩
                      try clear hc545 hc545d
                      replace HOA := Lib.hid (HOA.out.below hd)
                      replace HD := Lib.hid (HD.out.trans (hd.mono HD.out.size))
                      clear hd
                      obtain ⟨b587, hb, hm⟩ := obind HM.out
                      replace HM := Lib.hid hm; have HB588 := Lib.hid hb; clear hm hb
                      replace HB588 := Lib.hid (ifT (by decide) HB588.out)
                      have hd : Below W584.heap.size W584 (World.alloc W584 (.cells #[Value.int .i64 (y581)] 3)) := (Below.refl _ _).alloc (Nat.le_refl _) _
                      have ho : (owI (.slice (some ⟨W584.heap.size, 0, none⟩) 1 1) [y581]).ok (World.alloc W584 (.cells #[Value.int .i64 (y581)] 3)) W584.heap.size := litI_ok W584 [y581] (by unfold maxLen; simp)
                      replace HOA := Lib.hid (HOA.out.call hd HD.out.size ho); clear ho
                      replace HD := Lib.hid (HD.out.trans (hd.mono HD.out.size))
                      clear hd
                      obtain ⟨y593, hy591, hm⟩ := obind HB588.out
                      replace HB588 := Lib.hid hm; clear hm
                      obtain ⟨A594, cap595, he, _⟩ := HP.open_I HOA.out (List.Mem.tail _ (List.Mem.head _))
                      subst he
                      have HC592 := SE_Ints_ok (World.alloc W584 (.cells #[Value.int .i64 (y581)] 3)) cap595 (HP.rd_I HOA.out (List.Mem.tail _ (List.Mem.head _))) 1 (HP.rd_I HOA.out (List.Mem.head _)) hy591
                      clear hy591
                      replace HC592 := Lib.hid HC592
                      go_wp2_with fail
                      refine HC592.out.mono ?_; rintro e W596 ⟨rfl, hd⟩
                      replace HOA := Lib.hid (HOA.out.below (hd.below _))
                      replace HD := Lib.hid (HD.out.trans ((hd.below _).mono HD.out.size))
                      clear hd
                      cases y593
                      · replace HB588 := Lib.hid (ifF Bool.false_ne_true HB588.out)
                        obtain rfl := Option.some.inj HB588.out
                        obtain rfl := Option.some.inj HM.out
                        go_wp2_with fail
                        go_ret
                        exact ⟨rfl, HD.out⟩
                      · replace HB588 := Lib.hid (ifT rfl HB588.out)
                        obtain rfl := Option.some.inj HB588.out
                        obtain rfl := Option.some.inj HM.out
                        go_wp2_with fail
                        go_ret
                        exact ⟨rfl, HD.out⟩
                    · rw [errV_pos _ hz583] at HC580; replace HC580 := Lib.hid HC580
                      go_wp2_with fail
                      refine HC580.out.mono ?_; rintro e W585 ⟨rfl, hd⟩
                      try clear hc545 hc545d
                      replace HOA := Lib.hid (HOA.out.below hd)
                      replace HD := Lib.hid (HD.out.trans (hd.mono HD.out.size))
                      clear hd
                      have HZ586 := Lib.hid hz583; clear hz583
                      obtain ⟨b597, hb, hm⟩ := obind HM.out
                      replace HM := Lib.hid hm; have HB598 := Lib.hid hb; clear hm hb
                      replace HB598 := Lib.hid (ifF (fun h => HZ586.out (eq_of_beq h)) HB598.out)
                      obtain rfl := Option.some.inj HB598.out
                      obtain rfl := Option.some.inj HM.out
                      go_wp2_with fail
                      go_ret
                      exact ⟨rfl, HD.out⟩
            · replace HM := Lib.hid (ifT rfl HM.out)
              obtain ⟨b599, hb, hm⟩ := obind HM.out
              replace HM := Lib.hid hm; have HB600 := Lib.hid hb; clear hm hb
              replace HB600 := Lib.hid (ifF (fun h => HZ16.out (eq_of_beq h)) HB600.out)
              obtain ⟨A601, cap602, he, _⟩ := HP.open_I HOA.out (List.Mem.tail _ (List.Mem.tail _ (List.Mem.head _)))
              subst he
              rcases Bool.eq_false_or_eq_true (((y7).length : Int) == 0) with hc603 | hc603
              · replace HB600 := Lib.hid (ifT hc603 HB600.out)
                have HK604 := Lib.hid hc603
                obtain rfl := Option.some.inj HB600.out
                obtain rfl := Option.some.inj HM.out
                go_wp2_with fail
                go_ret
                exact ⟨(by first | rfl | (refine congrArg (fun b => Ending.returned (Value.bool b)) ?_; first | (exact decide_eq_true (by omega)) | (exact decide_eq_false (by omega)))), HD.out⟩
              · replace HB600 := Lib.hid (ifF (bF hc603) HB600.out)
                have HK604 := Lib.hid hc603
                obtain rfl := Option.some.inj HB600.out
                obtain rfl := Option.some.inj HM.out
                go_wp2_with fail
                go_ret
                exact ⟨(by first | rfl | (refine congrArg (fun b => Ending.returned (Value.bool b)) ?_; first | (exact decide_eq_true (by omega)) | (exact decide_eq_false (by omega)))), HD.out⟩
        · rw [errV_pos _ hz521] at HC518; replace HC518 := Lib.hid HC518
          go_wp2_with fail
          refine HC518.out.mono ?_; rintro e W525 ⟨V526, rfl, ho, hd⟩
          replace HOA := Lib.hid (HOA.out.call hd HD.out.size ho); clear ho
          replace HD := Lib.hid (HD.out.trans (hd.mono HD.out.size))
          clear hd
          have HZ528 := Lib.hid hz521; clear hz521
          go_upto_region 7 with (fail)
          obtain ⟨b605, hb, hm⟩ := obind HM.out
          replace HM := Lib.hid hm; have HB606 := Lib.hid hb; clear hm hb
          go_cut [58] (fun uq wr => uq = .bool b605 ∧ Hid (Below W525.heap.size W525 wr))
          case first =>
            have HWC607 := Lib.hid (Below.refl W525.heap.size W525)
            obtain ⟨b608, hb, hm⟩ := obind HB606.out
            replace HB606 := Lib.hid hm; have HB609 := Lib.hid hb; clear hm hb
            replace HB609 := Lib.hid (ifT (bne_iff_ne.2 HZ16.out) HB609.out)
            obtain rfl := Option.some.inj HB609.out
            replace HB606 := Lib.hid (ifT (by first | rfl | trivial) HB606.out)
            cases Option.some.inj HB606.out
            try go_wp2_with fail
            go_meet
            case rel => exact ⟨rfl, HWC607⟩
          case rest =>
            obtain ⟨rfl, HWC607⟩ := hcut
            rename World => W610
            have hd := HWC607.out
            replace HOA := Lib.hid (HOA.out.below hd)
            replace HD := Lib.hid (HD.out.trans (hd.mono HD.out.size))
            clear hd
            cases b605
            · replace HM := Lib.hid (ifF Bool.false_ne_true HM.out)
              replace HOA := Lib.hid (show HP _ _ (.fl (owI (.slice none 0 0) ([])) :: _) from HOA.out.pushNil _ _)
              go_wp2_with fail
              obtain ⟨o612, ho, hm⟩ := obind HM.out
              replace HM := Lib.hid hm; have HL1 := Lib.hid ho; clear hm ho
              go_loopg [18, 19] F (fun gg ux615 ux616 wr => ∃ (x613 : List Int) (x614 : Int) (V617 : Value), V617 = ux615 ∧ ux616 = .int .i64 x614 ∧ Hid (Below w.heap.size w wr) ∧ Hid (HP wr w.heap.size [.fl (owI V617 (x613)), .fl (owI V526 (y519)), .fl (owI V350 (y343)), .fl (owI V14 (y7))]) ∧ Hid (L3_CommonThree_L1 F (y7) (y343) (y519) gg x613 x614 = some o612))
              case atStart => exact ⟨[], 0, (.slice none 0 0), rfl, rfl, HD, HOA, HL1⟩
              case round =>
                obtain ⟨x613, x614, V617, rfl, rfl, HD, HOA, HL1⟩ := hrel
                rename World => W618
                cases gk with
                | zero => exact absurd ((L3_CommonThree_L1_0 ..).symm.trans HL1.out) (by intro h; cases h)
                | succ g1 =>
                  replace HL1 := Lib.hid ((L3_CommonThree_L1_s ..).symm.trans HL1.out)
                  obtain ⟨A619, cap620, he, _⟩ := HP.open_I HOA.out (List.Mem.tail _ (List.Mem.tail _ (List.Mem.tail _ (List.Mem.head _))))
                  subst he
                  by_cases hc621 : x614 < ((y7).length : Int)
                  · replace HL1 := Lib.hid (ifT hc621 HL1.out)
                    have HK622 := Lib.hid hc621
                    obtain ⟨b623, hb, hm⟩ := obind HL1.out
                    replace HL1 := Lib.hid hm; have HB624 := Lib.hid hb; clear hm hb
                    obtain ⟨y625, hy626, hm⟩ := obind HB624.out
                    replace HB624 := Lib.hid hm; clear hm
                    obtain ⟨b627, o628, ea629, _, f630, f631, f632⟩ := ReadsI.ix (HP.rd_I HOA.out (List.Mem.tail _ (List.Mem.tail _ (List.Mem.tail _ (List.Mem.head _))))) hy626
                    cases ea629
                    try simp only [Nat.zero_add, Nat.add_zero, Int.toNat_natCast, Int.toNat_zero, Int.toNat_one] at f632
                    try rw [← HP.len_I HOA.out (List.Mem.tail _ (List.Mem.tail _ (List.Mem.tail _ (List.Mem.head _))))] at f631
                    have HY634 := Lib.hid hy626; clear hy626
                    obtain ⟨y637, hy635, hm⟩ := obind HB624.out
                    replace HB624 := Lib.hid hm; clear hm
                    obtain ⟨A638, cap639, he, _⟩ := HP.open_I HOA.out (List.Mem.tail _ (List.Mem.tail _ (List.Mem.head _)))
                    subst he
                    have HC636 := R1_Has_ok W618 cap639 (HP.rd_I HOA.out (List.Mem.tail _ (List.Mem.tail _ (List.Mem.head _)))) hy635
                    clear hy635
                    replace HC636 := Lib.hid HC636
                    cases y637
                    · replace HB624 := Lib.hid (ifF Bool.false_ne_true HB624.out)
                      obtain rfl := Option.some.inj HB624.out
                      replace HL1 := Lib.hid (ifF (by first | exact Bool.false_ne_true | exact not_false) HL1.out)
                      go_wp2_with fail
                      refine HC636.out.mono ?_; rintro e w' ⟨rfl, rfl⟩
                      go_wp2_with fail
                      try clear hc621 f630 f631 f632
                      go_roundg g1
                      case measure => omega
                      case rel => exact ⟨x613, (wrap64 (x614 + 1)), V617, rfl, rfl, HD, HOA, HL1⟩
                    · replace HB624 := Lib.hid (ifT rfl HB624.out)
                      obtain ⟨y640, hy641, hm⟩ := obind HB624.out
                      replace HB624 := Lib.hid hm; clear hm
                      obtain rfl := Option.some.inj (HY634.out.symm.trans hy641)
                      clear hy641
                      obtain ⟨y644, hy642, hm⟩ := obind HB624.out
                      replace HB624 := Lib.hid hm; clear hm
                      obtain ⟨A645, cap646, he, _⟩ := HP.open_I HOA.out (List.Mem.tail _ (List.Mem.head _))
                      subst he
                      have HC643 := R1_Has_ok W618 cap646 (HP.rd_I HOA.out (List.Mem.tail _ (List.Mem.head _))) hy642
                      clear hy642
                      replace HC643 := Lib.hid HC643
                      cases y644
                      · replace HB624 := Lib.hid (ifF Bool.false_ne_true HB624.out)
                        obtain rfl := Option.some.inj HB624.out
                        replace HL1 := Lib.hid (ifF (by first | exact Bool.false_ne_true | exact not_false) HL1.out)
                        go_wp2_with fail
                        refine HC636.out.mono ?_; rintro e w' ⟨rfl, rfl⟩
                        go_wp2_with fail
                        refine HC643.out.mono ?_; rintro e w' ⟨rfl, rfl⟩
                        go_wp2_with fail
                        try clear hc621 f630 f631 f632
                        go_roundg g1
                        case measure => omega
                        case rel => exact ⟨x613, (wrap64 (x614 + 1)), V617, rfl, rfl, HD, HOA, HL1⟩
                      · replace HB624 := Lib.hid (ifT rfl HB624.out)
                        obtain rfl := Option.some.inj HB624.out
                        replace HL1 := Lib.hid (ifT (by first | rfl | trivial) HL1.out)
                        obtain ⟨y647, hy648, hm⟩ := obind HL1.out
                        replace HL1 := Lib.hid hm; clear hm
                        obtain rfl := Option.some.inj (HY634.out.symm.trans hy648)
                        clear hy648
                        obtain ⟨y649, hy650, hm⟩ := obind HL1.out
                        replace HL1 := Lib.hid hm; clear hm
                        obtain ⟨f651, hy650⟩ := app_some hy650; subst hy650
                        go_wp2_with fail
                        refine HC636.out.mono ?_; rintro e w' ⟨rfl, rfl⟩
                        go_wp2_with fail
                        refine HC643.out.mono ?_; rintro e w' ⟨rfl, rfl⟩
                        have HF654 := Lib.hid f651; clear f651
                        go_upto_region 12 with (at_builtin; refine hp_appI _ (.tmp 86) (.tmp 91) 28 Try.underlying28 rfl rfl (L1 := []) HOA.out rfl rfl HF654.out HD.out.size ?_; intro V652 W653 hoa hd)
                        try clear hc621 f630 f631 f632
                        replace HOA := Lib.hid (show HP W653 w.heap.size [.fl (owI V652 ((x613 ++ [y625]))), .fl (owI (.slice A645 (y519).length cap646) (y519)), .fl (owI (.slice A638 (y343).length cap639) (y343)), .fl (owI (.slice (some ⟨b627, o628, none⟩) (y7).length cap620) (y7))] from hoa); clear hoa
                        replace HD := Lib.hid (HD.out.trans hd); clear hd
                        go_wp2_with fail
                        go_roundg g1
                        case measure => omega
                        case rel => exact ⟨(x613 ++ [y625]), (wrap64 (x614 + 1)), V652, rfl, rfl, HD, HOA, HL1⟩
                  · replace HL1 := Lib.hid (ifF hc621 HL1.out)
                    have hc621d := decide_eq_false hc621
                    have HK622 := Lib.hid hc621
                    obtain rfl := Option.some.inj HL1.out
                    have hm := HM.out; try dsimp only at hm
                    replace HM := Lib.hid hm; clear hm
                    obtain ⟨⟨y657, y658⟩, hy655, hm⟩ := obind HM.out
                    dsimp only at hm
                    replace HM := Lib.hid hm; clear hm
                    have HC656 := common_Of_ok W618 cap1 (rdL HD.out HR1.out) hy655
                    clear hy655
                    by_cases hz659 : y658 = 0
                    · subst hz659
                      rw [errV_zero] at HC656; replace HC656 := Lib.hid HC656
                      go_wp2_with fail
                      refine HC656.out.mono ?_; rintro e W660 ⟨rfl, hd⟩
                      try clear hc621 hc621d
                      replace HOA := Lib.hid (HOA.out.below hd)
                      replace HD := Lib.hid (HD.out.trans (hd.mono HD.out.size))
                      clear hd
                      obtain ⟨b663, hb, hm⟩ := obind HM.out
                      replace HM := Lib.hid hm; have HB664 := Lib.hid hb; clear hm hb
                      replace HB664 := Lib.hid (ifT (by decide) HB664.out)
                      have hd : Below W660.heap.size W660 (World.alloc W660 (.cells #[Value.int .i64 (y657)] 3)) := (Below.refl _ _).alloc (Nat.le_refl _) _
                      have ho : (owI (.slice (some ⟨W660.heap.size, 0, none⟩) 1 1) [y657]).ok (World.alloc W660 (.cells #[Value.int .i64 (y657)] 3)) W660.heap.size := litI_ok W660 [y657] (by unfold maxLen; simp)
                      replace HOA := Lib.hid (HOA.out.call hd HD.out.size ho); clear ho
                      replace HD := Lib.hid (HD.out.trans (hd.mono HD.out.size))
                      clear hd
                      obtain ⟨y669, hy667, hm⟩ := obind HB664.out
                      replace HB664 := Lib.hid hm; clear hm
                      obtain ⟨A670, cap671, he, _⟩ := HP.open_I HOA.out (List.Mem.tail _ (List.Mem.head _))
                      subst he
                      have HC668 := SE_Ints_ok (World.alloc W660 (.cells #[Value.int .i64 (y657)] 3)) cap671 (HP.rd_I HOA.out (List.Mem.tail _ (List.Mem.head _))) 1 (HP.rd_I HOA.out (List.Mem.head _)) hy667
                      clear hy667
                      replace HC668 := Lib.hid HC668
                      go_wp2_with fail
                      refine HC668.out.mono ?_; rintro e W672 ⟨rfl, hd⟩
                      replace HOA := Lib.hid (HOA.out.below (hd.below _))
                      replace HD := Lib.hid (HD.out.trans ((hd.below _).mono HD.out.size))
                      clear hd
                      cases y669
                      · replace HB664 := Lib.hid (ifF Bool.false_ne_true HB664.out)
                        obtain rfl := Option.some.inj HB664.out
                        obtain rfl := Option.some.inj HM.out
                        go_wp2_with fail
                        go_ret
                        exact ⟨rfl, HD.out⟩
                      · replace HB664 := Lib.hid (ifT rfl HB664.out)
                        obtain rfl := Option.some.inj HB664.out
                        obtain rfl := Option.some.inj HM.out
                        go_wp2_with fail
                        go_ret
                        exact ⟨rfl, HD.out⟩
                    · rw [errV_pos _ hz659] at HC656; replace HC656 := Lib.hid HC656
                      go_wp2_with fail
                      refine HC656.out.mono ?_; rintro e W661 ⟨rfl, hd⟩
                      try clear hc621 hc621d
                      replace HOA := Lib.hid (HOA.out.below hd)
                      replace HD := Lib.hid (HD.out.trans (hd.mono HD.out.size))
                      clear hd
                      have HZ662 := Lib.hid hz659; clear hz659
                      obtain ⟨b673, hb, hm⟩ := obind HM.out
                      replace HM := Lib.hid hm; have HB674 := Lib.hid hb; clear hm hb
                      replace HB674 := Lib.hid (ifF (fun h => HZ662.out (eq_of_beq h)) HB674.out)
                      obtain rfl := Option.some.inj HB674.out
                      obtain rfl := Option.some.inj HM.out
                      go_wp2_with fail
                      go_ret
                      exact ⟨rfl, HD.out⟩
            · replace HM := Lib.hid (ifT rfl HM.out)
              obtain ⟨b675, hb, hm⟩ := obind HM.out
              replace HM := Lib.hid hm; have HB676 := Lib.hid hb; clear hm hb
              replace HB676 := Lib.hid (ifF (fun h => HZ16.out (eq_of_beq h)) HB676.out)
              obtain ⟨A677, cap678, he, _⟩ := HP.open_I HOA.out (List.Mem.tail _ (List.Mem.tail _ (List.Mem.head _)))
              subst he
              rcases Bool.eq_false_or_eq_true (((y7).length : Int) == 0) with hc679 | hc679
              · replace HB676 := Lib.hid (ifT hc679 HB676.out)
                have HK680 := Lib.hid hc679
                obtain rfl := Option.some.inj HB676.out
                obtain rfl := Option.some.inj HM.out
                go_wp2_with fail
                go_ret
                exact ⟨(by first | rfl | (refine congrArg (fun b => Ending.returned (Value.bool b)) ?_; first | (exact decide_eq_true (by omega)) | (exact decide_eq_false (by omega)))), HD.out⟩
              · replace HB676 := Lib.hid (ifF (bF hc679) HB676.out)
                have HK680 := Lib.hid hc679
                obtain rfl := Option.some.inj HB676.out
                obtain rfl := Option.some.inj HM.out
                go_wp2_with fail
                go_ret
                exact ⟨(by first | rfl | (refine congrArg (fun b => Ending.returned (Value.bool b)) ?_; first | (exact decide_eq_true (by omega)) | (exact decide_eq_false (by omega)))), HD.out⟩
end Go.Proofs.Ytfokhmkimckdnaa
