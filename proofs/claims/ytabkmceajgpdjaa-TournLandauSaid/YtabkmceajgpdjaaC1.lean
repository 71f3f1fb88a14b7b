import Derived.Test.YtabkmceajgpdjaaB
set_option linter.all false
set_option maxRecDepth 100000
namespace Go.Proofs.Ytabkmceajgpdjaa
open Go.RowKit
def L4_TournRedei_L1 (F : Nat) (v0 : Int) (v1 : List (Int × Int)) (v4 : List Int) : Nat → (Int) → Option ((Int) ⊕ (Bool))
  | 0, _ => none
  | g+1, v6 => if v6 < v0 then ((ix v4 (wrap64 (v6 - 1))).bind fun y8 => (ix v4 v6).bind fun y9 => (R1_Goes F (v1) (y8) (y9)).bind fun y10 => if y10 = true then L4_TournRedei_L1 F v0 v1 v4 g ((wrap64 (v6 + 1))) else some (.inr (false))) else some (.inl (v6))
theorem L4_TournRedei_L1_0 (F : Nat) (v0 : Int) (v1 : List (Int × Int)) (v4 : List Int) (v6 : Int) : L4_TournRedei_L1 F v0 v1 v4 0 v6 = none := by rw [L4_TournRedei_L1]
theorem L4_TournRedei_L1_s (F g : Nat) (v0 : Int) (v1 : List (Int × Int)) (v4 : List Int) (v6 : Int) : L4_TournRedei_L1 F v0 v1 v4 (g+1) v6 = (if v6 < v0 then ((ix v4 (wrap64 (v6 - 1))).bind fun y8 => (ix v4 v6).bind fun y9 => (R1_Goes F (v1) (y8) (y9)).bind fun y10 => if y10 = true then L4_TournRedei_L1 F v0 v1 v4 g ((wrap64 (v6 + 1))) else some (.inr (false))) else some (.inl (v6))) := by rw [L4_TournRedei_L1]
def L4_TournRedei (F : Nat) (v0 : Int) (v1 : List (Int × Int)) : Option (Bool) := (L4_tournFact F ).bind fun y1 => (if y1 = true then (tourn_Row F (v0) (v1)).bind fun y2 => (if (y2.2 != 0) = true then (if (((y2.1).length : Int) == 0) = true then some true else some false).bind fun b3 => some (b3) else (((if (((y2.1).length : Int) != v0) = true then some true else (R1_All F (y2.1) (0) ((wrap64 (v0 - 1)))).bind fun y6 => if y6 = true then some false else some true).bind fun b5 => if b5 = true then some true else (R1_Twice F (y2.1)).bind fun y7 => if y7 = true then some true else some false).bind fun b4 => if b4 = true then some (false) else (L4_TournRedei_L1 F (v0) (v1) (y2.1) F (1)).bind fun o11 => match o11 with | .inr r => some (r) | .inl o11 => some (true))) else some (false))
set_option maxRecDepth 100000 in
set_option maxHeartbeats 4000000 in
theorem L4_TournRedei_ok {F : Nat} {v0 : Int} {v1 : List (Int × Int)} {A1 : Option Addr} {r : Bool} (w : World) (cap1 : Nat) (hr1 : ReadsL w w.heap.size A1 v1) (h : L4_TournRedei F v0 v1 = some r) :
    Calls Try.prog 3 #[.int .i64 v0, .slice A1 v1.length cap1] w fun e w' => e = .returned (.bool r) ∧ Below w.heap.size w w' := by
  have HR1 := Lib.hid hr1; clear hr1
  have HD := Lib.hid (Below.refl w.heap.size w)
  have HOA := Lib.hid (HP.nil (W := w) (B := w.heap.size))
  unfold L4_TournRedei at h
  have HM := Lib.hid h; clear h
  go_enter Try.func3, Try.ntmps3
  obtain ⟨y3, hy1, hm⟩ := obind HM.out
  replace HM := Lib.hid hm; clear hm
  have HC2 := L4_tournFact_ok w  hy1
  clear hy1
  replace HC2 := Lib.hid HC2
  go_wp2_with fail
  refine HC2.out.mono ?_; rintro e W4 ⟨rfl, hd⟩
  replace HOA := Lib.hid (HOA.out.below hd)
  replace HD := Lib.hid (HD.out.trans (hd.mono HD.out.size))
  clear hd
  cases y3
  · replace HM := Lib.hid (ifF Bool.false_ne_true HM.out)
    obtain rfl := Option.some.inj HM.out
    go_wp2_with fail
    go_ret
    exact ⟨rfl, HD.out⟩
  · replace HM := Lib.hid (ifT rfl HM.out)
    obtain ⟨⟨y7, y8⟩, hy5, hm⟩ := obind HM.out
    dsimp only at hm
    replace HM := Lib.hid hm; clear hm
    have HC6 := tourn_Row_ok W4 cap1 (rdL HD.out HR1.out) hy5
    clear hy5
    by_cases hz9 : y8 = 0
    · subst hz9
      rw [errV_zero] at HC6; replace HC6 := Lib.hid HC6
      go_wp2_with fail
      refine HC6.out.mono ?_; rintro e W10 ⟨V11, rfl, ho, hd⟩
      replace HOA := Lib.hid (HOA.out.call hd HD.out.size ho); clear ho
      replace HD := Lib.hid (HD.out.trans (hd.mono HD.out.size))
      clear hd
      replace HM := Lib.hid (ifF (by decide) HM.out)
      go_upto_region 7 with (fail)
      obtain ⟨b17, hb, hm⟩ := obind HM.out
      replace HM := Lib.hid hm; have HB18 := Lib.hid hb; clear hm hb
      go_cut [37] (fun uq wr => uq = .bool b17 ∧ Hid (Below W10.heap.size W10 wr))
      case first =>
        have HWC19 := Lib.hid (Below.refl W10.heap.size W10)
        obtain ⟨b20, hb, hm⟩ := obind HB18.out
        replace HB18 := Lib.hid hm; have HB21 := Lib.hid hb; clear hm hb
        obtain ⟨A22, cap23, he, _⟩ := HP.open_I HOA.out (List.Mem.head _)
        subst he
        rcases Bool.eq_false_or_eq_true (((y7).length : Int) != v0) with hc24 | hc24
        · replace HB21 := Lib.hid (ifT hc24 HB21.out)
          have HK25 := Lib.hid hc24
          obtain rfl := Option.some.inj HB21.out
          replace HB18 := Lib.hid (ifT (by first | rfl | trivial) HB18.out)
          cases Option.some.inj HB18.out
          try go_wp2_with fail
          go_meet
          case rel => exact ⟨rfl, HWC19⟩
        · replace HB21 := Lib.hid (ifF (bF hc24) HB21.out)
          have HK25 := Lib.hid hc24
          obtain ⟨y28, hy26, hm⟩ := obind HB21.out
          replace HB21 := Lib.hid hm; clear hm
          have HC27 := R1_All_ok W10 cap23 (HP.rd_I HOA.out (List.Mem.head _)) hy26
          clear hy26
          replace HC27 := Lib.hid HC27
          cases y28
          · replace HB21 := Lib.hid (ifF Bool.false_ne_true HB21.out)
            obtain rfl := Option.some.inj HB21.out
            replace HB18 := Lib.hid (ifT (by first | rfl | trivial) HB18.out)
            cases Option.some.inj HB18.out
            go_wp2_with fail
            refine HC27.out.mono ?_; rintro e w' ⟨rfl, rfl⟩
            try go_wp2_with fail
            go_meet
            case rel => exact ⟨rfl, HWC19⟩
          · replace HB21 := Lib.hid (ifT rfl HB21.out)
            obtain rfl := Option.some.inj HB21.out
            replace HB18 := Lib.hid (ifF (by first | exact Bool.false_ne_true | exact not_false) HB18.out)
            obtain ⟨y31, hy29, hm⟩ := obind HB18.out
            replace HB18 := Lib.hid hm; clear hm
            have HC30 := R1_Twice_ok W10 cap23 (HP.rd_I HOA.out (List.Mem.head _)) (HP.cap_I HOA.out (List.Mem.head _)) hy29
            clear hy29
            replace HC30 := Lib.hid HC30
            go_wp2_with fail
            refine HC27.out.mono ?_; rintro e w' ⟨rfl, rfl⟩
            go_wp2_with fail
            refine HC30.out.mono ?_; rintro e W32 ⟨rfl, hd⟩
            try clear hc24
            replace HOA := Lib.hid (HOA.out.below (hd.below _))
            replace HD := Lib.hid (HD.out.trans ((hd.below _).mono HD.out.size))
            replace HWC19 := Lib.hid (HWC19.out.trans ((hd.below _).mono HWC19.out.size))
            clear hd
            cases y31
            · replace HB18 := Lib.hid (ifF Bool.false_ne_true HB18.out)
              cases Option.some.inj HB18.out
              try go_wp2_with fail
              go_meet
              case rel => exact ⟨rfl, HWC19⟩
            · replace HB18 := Lib.hid (ifT rfl HB18.out)
              cases Option.some.inj HB18.out
              try go_wp2_with fail
              go_meet
              case rel => exact ⟨rfl, HWC19⟩
      case rest =>
        obtain ⟨rfl, HWC19⟩ := hcut
        rename World => W33
        have hd := HWC19.out
        replace HOA := Lib.hid (HOA.out.below hd)
        replace HD := Lib.hid (HD.out.trans (hd.mono HD.out.size))
        clear hd
        cases b17
        · replace HM := Lib.hid (ifF Bool.false_ne_true HM.out)
          go_wp2_with fail
          obtain ⟨o34, ho, hm⟩ := obind HM.out
          replace HM := Lib.hid hm; have HL1 := Lib.hid ho; clear hm ho
          go_loopg [8] F (fun gg ux36 wr => ∃ (x35 : Int), ux36 = .int .i64 x35 ∧ Hid (Below W33.heap.size W33 wr) ∧ Hid (L4_TournRedei_L1 F (v0) (v1) (y7) gg x35 = some o34))
          case atStart => exact ⟨1, rfl, (Lib.hid (Below.refl _ _)), HL1⟩
          case round =>
            obtain ⟨x35, rfl, HW1, HL1⟩ := hrel
            rename World => W37
            have hd := HW1.out
            replace HOA := Lib.hid (HOA.out.below hd)
            replace HD := Lib.hid (HD.out.trans (hd.mono HD.out.size))
            clear hd
            cases gk with
            | zero => exact absurd ((L4_TournRedei_L1_0 ..).symm.trans HL1.out) (by intro h; cases h)
            | succ g1 =>
              replace HL1 := Lib.hid ((L4_TournRedei_L1_s ..).symm.trans HL1.out)
              by_cases hc38 : x35 < v0
              · replace HL1 := Lib.hid (ifT hc38 HL1.out)
                have HK39 := Lib.hid hc38
                try go_wp2_with fail
                try clear hc38
                obtain ⟨A42, cap43, he, _⟩ := HP.open_I HOA.out (List.Mem.head _)
                subst he
                obtain ⟨y40, hy41, hm⟩ := obind HL1.out
                replace HL1 := Lib.hid hm; clear hm
                obtain ⟨b44, o45, ea46, _, f47, f48, f49⟩ := ReadsI.ix (HP.rd_I HOA.out (List.Mem.head _)) hy41
                cases ea46
                try simp only [Nat.zero_add, Nat.add_zero, Int.toNat_natCast, Int.toNat_zero, Int.toNat_one] at f49
                try rw [← HP.len_I HOA.out (List.Mem.head _)] at f48
                have HY51 := Lib.hid hy41; clear hy41
                obtain ⟨y52, hy53, hm⟩ := obind HL1.out
                replace HL1 := Lib.hid hm; clear hm
                obtain ⟨b54, o55, ea56, _, f57, f58, f59⟩ := ReadsI.ix (HP.rd_I HOA.out (List.Mem.head _)) hy53
                cases ea56
                try simp only [Nat.zero_add, Nat.add_zero, Int.toNat_natCast, Int.toNat_zero, Int.toNat_one] at f59
                try rw [← HP.len_I HOA.out (List.Mem.head _)] at f58
                have HY61 := Lib.hid hy53; clear hy53
                obtain ⟨y64, hy62, hm⟩ := obind HL1.out
                replace HL1 := Lib.hid hm; clear hm
                have HC63 := Lib.hid (fun m => R1_Goes_ok (W37.drewN m) cap1 (ReadsL.drewN' (rdL HD.out HR1.out) m) hy62)
                clear hy62
                cases y64
                · replace HL1 := Lib.hid (ifF Bool.false_ne_true HL1.out)
                  go_quiet (first | (go_at_call 11; exact quiet_left (HC63.out _)))
                  generalize hW : World.drewN W37 _ = W65
                  have hd : Dr W37 W65 := ⟨_, hW.symm⟩
                  clear hW
                  try clear f47 f48 f49 f57 f58 f59
                  replace HOA := Lib.hid (HOA.out.below (hd.below _))
                  replace HD := Lib.hid (HD.out.trans ((hd.below _).mono HD.out.size))
                  replace HW1 := Lib.hid (HW1.out.trans ((hd.below _).mono HW1.out.size))
                  clear hd
                  obtain rfl := Option.some.inj HL1.out
                  have hm := HM.out; try dsimp only at hm
                  replace HM := Lib.hid hm; clear hm
                  obtain rfl := Option.some.inj HM.out
                  go_wp2_with fail
                  go_ret
                  exact ⟨rfl, HD.out⟩
                · replace HL1 := Lib.hid (ifT rfl HL1.out)
                  go_quiet (first | (go_at_call 11; exact quiet_left (HC63.out _)))
                  generalize hW : World.drewN W37 _ = W66
                  have hd : Dr W37 W66 := ⟨_, hW.symm⟩
                  clear hW
                  try clear f47 f48 f49 f57 f58 f59
                  replace HOA := Lib.hid (HOA.out.below (hd.below _))
                  replace HD := Lib.hid (HD.out.trans ((hd.below _).mono HD.out.size))
                  replace HW1 := Lib.hid (HW1.out.trans ((hd.below _).mono HW1.out.size))
                  clear hd
                  go_wp2_with fail
                  go_roundg g1
                  case measure => omega
                  case rel => exact ⟨(wrap64 (x35 + 1)), rfl, HW1, HL1⟩
              · replace HL1 := Lib.hid (ifF hc38 HL1.out)
                have hc38d := decide_eq_false hc38
                have HK39 := Lib.hid hc38
                obtain rfl := Option.some.inj HL1.out
                have hm := HM.out; try dsimp only at hm
                replace HM := Lib.hid hm; clear hm
                obtain rfl := Option.some.inj HM.out
                go_wp2_with fail
                go_ret
                exact ⟨(by first | rfl | (refine congrArg (fun b => Ending.returned (Value.bool b)) ?_; first | (exact decide_eq_true (by omega)) | (exact decide_eq_false (by omega)) | (have q := hc38; rw [bne_iff_ne] at q ⊢; omega) | (have q := hc38; rw [bne_eq_false_iff_eq] at q ⊢; omega) | (have q := hc38; rw [beq_iff_eq] at q ⊢; omega) | (have q := hc38; rw [beq_eq_false_iff_ne] at q ⊢; omega) | (have q := hc38d; rw [bne_iff_ne] at q ⊢; omega) | (have q := hc38d; rw [bne_eq_false_iff_eq] at q ⊢; omega) | (have q := hc38d; rw [beq_iff_eq] at q ⊢; omega) | (have q := hc38d; rw [beq_eq_false_iff_ne] at q ⊢; omega))), HD.out⟩
        · replace HM := Lib.hid (ifT rfl HM.out)
          obtain rfl := Option.some.inj HM.out
          go_wp2_with fail
          go_ret
          exact ⟨rfl, HD.out⟩
    · rw [errV_pos _ hz9] at HC6; replace HC6 := Lib.hid HC6
      go_wp2_with fail
      refine HC6.out.mono ?_; rintro e W13 ⟨V14, rfl, ho, hd⟩
      replace HOA := Lib.hid (HOA.out.call hd HD.out.size ho); clear ho
      replace HD := Lib.hid (HD.out.trans (hd.mono HD.out.size))
      clear hd
      have HZ16 := Lib.hid hz9; clear hz9
      replace HM := Lib.hid (ifT (bne_iff_ne.2 HZ16.out) HM.out)
      obtain ⟨b67, hb, hm⟩ := obind HM.out
      replace HM := Lib.hid hm; have HB68 := Lib.hid hb; clear hm hb
      obtain ⟨A69, cap70, he, _⟩ := HP.open_I HOA.out (List.Mem.head _)
      subst he
      rcases Bool.eq_false_or_eq_true (((y7).length : Int) == 0) with hc71 | hc71
      · replace HB68 := Lib.hid (ifT hc71 HB68.out)
        have HK72 := Lib.hid hc71
        obtain rfl := Option.some.inj HB68.out
        obtain rfl := Option.some.inj HM.out
        go_wp2_with fail
        go_ret
        exact ⟨(by first | rfl | (refine congrArg (fun b => Ending.returned (Value.bool b)) ?_; first | (exact decide_eq_true (by omega)) | (exact decide_eq_false (by omega)) | (have q := hc71; rw [bne_iff_ne] at q ⊢; omega) | (have q := hc71; rw [bne_eq_false_iff_eq] at q ⊢; omega) | (have q := hc71; rw [beq_iff_eq] at q ⊢; omega) | (have q := hc71; rw [beq_eq_false_iff_ne] at q ⊢; omega))), HD.out⟩
      · replace HB68 := Lib.hid (ifF (bF hc71) HB68.out)
        have HK72 := Lib.hid hc71
        obtain rfl := Option.some.inj HB68.out
        obtain rfl := Option.some.inj HM.out
        go_wp2_with fail
        go_ret
        exact ⟨(by first | rfl | (refine congrArg (fun b => Ending.returned (Value.bool b)) ?_; first | (exact decide_eq_true (by omega)) | (exact decide_eq_false (by omega)) | (have q := hc71; rw [bne_iff_ne] at q ⊢; omega) | (have q := hc71; rw [bne_eq_false_iff_eq] at q ⊢; omega) | (have q := hc71; rw [beq_iff_eq] at q ⊢; omega) | (have q := hc71; rw [beq_eq_false_iff_ne] at q ⊢; omega))), HD.out⟩
def L4_TournKings_L1 (F : Nat) (v0 : Int) (v4 : List Int) (v6 : List Int) (v7 : Int) : Nat → (Int) → Option ((Int) ⊕ (Bool))
  | 0, _ => none
  | g+1, v8 => if v8 < v0 then (((ix v6 v8).bind fun y10 => if (y10 == v7) = true then (R1_Has F (v4) (v8)).bind fun y11 => if y11 = true then some false else some true else some false).bind fun b9 => if b9 = true then some (.inr (false)) else L4_TournKings_L1 F v0 v4 v6 v7 g ((wrap64 (v8 + 1)))) else some (.inl (v8))
theorem L4_TournKings_L1_0 (F : Nat) (v0 : Int) (v4 : List Int) (v6 : List Int) (v7 : Int) (v8 : Int) : L4_TournKings_L1 F v0 v4 v6 v7 0 v8 = none := by rw [L4_TournKings_L1]
theorem L4_TournKings_L1_s (F g : Nat) (v0 : Int) (v4 : List Int) (v6 : List Int) (v7 : Int) (v8 : Int) : L4_TournKings_L1 F v0 v4 v6 v7 (g+1) v8 = (if v8 < v0 then (((ix v6 v8).bind fun y10 => if (y10 == v7) = true then (R1_Has F (v4) (v8)).bind fun y11 => if y11 = true then some false else some true else some false).bind fun b9 => if b9 = true then some (.inr (false)) else L4_TournKings_L1 F v0 v4 v6 v7 g ((wrap64 (v8 + 1)))) else some (.inl (v8))) := by rw [L4_TournKings_L1]
def L4_TournKings (F : Nat) (v0 : Int) (v1 : List (Int × Int)) : Option (Bool) := (L4_tournFact F ).bind fun y1 => (if y1 = true then (tourn_Kings F (v0) (v1)).bind fun y2 => (if (y2.2 != 0) = true then (if (((y2.1).length : Int) == 0) = true then some true else some false).bind fun b3 => some (b3) else (tourn_Scores F (v0) (v1)).bind fun y4 => ((((if (y4.2 != 0) = true then some true else if (((y4.1).length : Int) != v0) = true then some true else some false).bind fun b7 => if b7 = true then some true else if (((y2.1).length : Int) == 0) = true then some true else some false).bind fun b6 => if b6 = true then some true else if (((y2.1).length : Int) == 2) = true then some true else some false).bind fun b5 => if b5 = true then some (false) else (R3_Most F (y4.1)).bind fun y8 => (L4_TournKings_L1 F (v0) (y2.1) (y4.1) (y8) F (0)).bind fun o12 => match o12 with | .inr r => some (r) | .inl o12 => ((if (((y2.1).length : Int) == 1) = true then some true else some false).bind fun b14 => (if (y8 == (wrap64 (v0 - 1))) = true then some true else some false).bind fun b15 => if (b14 == b15) = true then some true else some false).bind fun b13 => some (b13))) else some (false))
set_option maxRecDepth 100000 in
set_option maxHeartbeats 4000000 in
theorem L4_TournKings_ok {F : Nat} {v0 : Int} {v1 : List (Int × Int)} {A1 : Option Addr} {r : Bool} (w : World) (cap1 : Nat) (hr1 : ReadsL w w.heap.size A1 v1) (h : L4_TournKings F v0 v1 = some r) :
    Calls Try.prog 4 #[.int .i64 v0, .slice A1 v1.length cap1] w fun e w' => e = .returned (.bool r) ∧ Below w.heap.size w w' := by
  have HR1 := Lib.hid hr1; clear hr1
  have HD := Lib.hid (Below.refl w.heap.size w)
  have HOA := Lib.hid (HP.nil (W := w) (B := w.heap.size))
  unfold L4_TournKings at h
  have HM := Lib.hid h; clear h
  go_enter Try.func4, Try.ntmps4
  obtain ⟨y3, hy1, hm⟩ := obind HM.out
  replace HM := Lib.hid hm; clear hm
  have HC2 := L4_tournFact_ok w  hy1
  clear hy1
  replace HC2 := Lib.hid HC2
  go_wp2_with fail
  refine HC2.out.mono ?_; rintro e W4 ⟨rfl, hd⟩
  replace HOA := Lib.hid (HOA.out.below hd)
  replace HD := Lib.hid (HD.out.trans (hd.mono HD.out.size))
  clear hd
  cases y3
  · replace HM := Lib.hid (ifF Bool.false_ne_true HM.out)
    obtain rfl := Option.some.inj HM.out
    go_wp2_with fail
    go_ret
    exact ⟨rfl, HD.out⟩
  · replace HM := Lib.hid (ifT rfl HM.out)
    obtain ⟨⟨y7, y8⟩, hy5, hm⟩ := obind HM.out
    dsimp only at hm
    replace HM := Lib.hid hm; clear hm
    have HC6 := tourn_Kings_ok W4 cap1 (rdL HD.out HR1.out) hy5
    clear hy5
    by_cases hz9 : y8 = 0
    · subst hz9
      rw [errV_zero] at HC6; replace HC6 := Lib.hid HC6
      go_wp2_with fail
      refine HC6.out.mono ?_; rintro e W10 ⟨V11, rfl, ho, hd⟩
      replace HOA := Lib.hid (HOA.out.call hd HD.out.size ho); clear ho
      replace HD := Lib.hid (HD.out.trans (hd.mono HD.out.size))
      clear hd
      replace HM := Lib.hid (ifF (by decide) HM.out)
      obtain ⟨⟨y19, y20⟩, hy17, hm⟩ := obind HM.out
      dsimp only at hm
      replace HM := Lib.hid hm; clear hm
      have HC18 := tourn_Scores_ok W10 cap1 (rdL HD.out HR1.out) hy17
      clear hy17
      by_cases hz21 : y20 = 0
      · subst hz21
        rw [errV_zero] at HC18; replace HC18 := Lib.hid HC18
        go_wp2_with fail
        refine HC18.out.mono ?_; rintro e W22 ⟨V23, rfl, ho, hd⟩
        replace HOA := Lib.hid (HOA.out.call hd HD.out.size ho); clear ho
        replace HD := Lib.hid (HD.out.trans (hd.mono HD.out.size))
        clear hd
        go_upto_region 8 with (fail)
        obtain ⟨b29, hb, hm⟩ := obind HM.out
        replace HM := Lib.hid hm; have HB30 := Lib.hid hb; clear hm hb
        go_cut [48] (fun uq wr => uq = .bool b29 ∧ Hid (Below W22.heap.size W22 wr))
        case first =>
          have HWC31 := Lib.hid (Below.refl W22.heap.size W22)
          obtain ⟨b32, hb, hm⟩ := obind HB30.out
          replace HB30 := Lib.hid hm; have HB33 := Lib.hid hb; clear hm hb
          obtain ⟨b34, hb, hm⟩ := obind HB33.out
          replace HB33 := Lib.hid hm; have HB35 := Lib.hid hb; clear hm hb
          replace HB35 := Lib.hid (ifF (by decide) HB35.out)
          obtain ⟨A36, cap37, he, _⟩ := HP.open_I HOA.out (List.Mem.head _)
          subst he
          rcases Bool.eq_false_or_eq_true (((y19).length : Int) != v0) with hc38 | hc38
          · replace HB35 := Lib.hid (ifT hc38 HB35.out)
            have HK39 := Lib.hid hc38
            obtain rfl := Option.some.inj HB35.out
            replace HB33 := Lib.hid (ifT (by first | rfl | trivial) HB33.out)
            obtain rfl := Option.some.inj HB33.out
            replace HB30 := Lib.hid (ifT (by first | rfl | trivial) HB30.out)
            cases Option.some.inj HB30.out
            try go_wp2_with fail
            go_meet
            case rel => exact ⟨rfl, HWC31⟩
          · replace HB35 := Lib.hid (ifF (bF hc38) HB35.out)
            have HK39 := Lib.hid hc38
            obtain rfl := Option.some.inj HB35.out
            replace HB33 := Lib.hid (ifF (by first | exact Bool.false_ne_true | exact not_false) HB33.out)
            obtain ⟨A40, cap41, he, _⟩ := HP.open_I HOA.out (List.Mem.tail _ (List.Mem.head _))
            subst he
            rcases Bool.eq_false_or_eq_true (((y7).length : Int) == 0) with hc42 | hc42
            · replace HB33 := Lib.hid (ifT hc42 HB33.out)
              have HK43 := Lib.hid hc42
              obtain rfl := Option.some.inj HB33.out
              replace HB30 := Lib.hid (ifT (by first | rfl | trivial) HB30.out)
              cases Option.some.inj HB30.out
              try go_wp2_with fail
              go_meet
              case rel => exact ⟨rfl, HWC31⟩
            · replace HB33 := Lib.hid (ifF (bF hc42) HB33.out)
              have HK43 := Lib.hid hc42
              obtain rfl := Option.some.inj HB33.out
              replace HB30 := Lib.hid (ifF (by first | exact Bool.false_ne_true | exact not_false) HB30.out)
              rcases Bool.eq_false_or_eq_true (((y7).length : Int) == 2) with hc44 | hc44
              · replace HB30 := Lib.hid (ifT hc44 HB30.out)
                have HK45 := Lib.hid hc44
                cases Option.some.inj HB30.out
                try go_wp2_with fail
                go_meet
                case rel => exact ⟨rfl, HWC31⟩
              · replace HB30 := Lib.hid (ifF (bF hc44) HB30.out)
                have HK45 := Lib.hid hc44
                cases Option.some.inj HB30.out
                try go_wp2_with fail
                go_meet
                case rel => exact ⟨rfl, HWC31⟩
        case rest =>
          obtain ⟨rfl, HWC31⟩ := hcut
          rename World => W46
          have hd := HWC31.out
          replace HOA := Lib.hid (HOA.out.below hd)
          replace HD := Lib.hid (HD.out.trans (hd.mono HD.out.size))
          clear hd
          cases b29
          · replace HM := Lib.hid (ifF Bool.false_ne_true HM.out)
            obtain ⟨y49, hy47, hm⟩ := obind HM.out
            replace HM := Lib.hid hm; clear hm
            obtain ⟨A50, cap51, he, _⟩ := HP.open_I HOA.out (List.Mem.head _)
            subst he
            have HC48 := R3_Most_ok W46 cap51 (HP.rd_I HOA.out (List.Mem.head _)) hy47
            clear hy47
            replace HC48 := Lib.hid HC48
            go_wp2_with fail
            refine HC48.out.mono ?_; rintro e w' ⟨rfl, rfl⟩
            go_wp2_with fail
            obtain ⟨o52, ho, hm⟩ := obind HM.out
            replace HM := Lib.hid hm; have HL1 := Lib.hid ho; clear hm ho
            go_loopg [10] F (fun gg ux54 wr => ∃ (x53 : Int), ux54 = .int .i64 x53 ∧ Hid (Below W46.heap.size W46 wr) ∧ Hid (L4_TournKings_L1 F (v0) (y7) (y19) (y49) gg x53 = some o52))
            case atStart => exact ⟨0, rfl, (Lib.hid (Below.refl _ _)), HL1⟩
            case round =>
              obtain ⟨x53, rfl, HW1, HL1⟩ := hrel
              rename World => W55
              have hd := HW1.out
              replace HOA := Lib.hid (HOA.out.below hd)
              replace HD := Lib.hid (HD.out.trans (hd.mono HD.out.size))
              clear hd
              cases gk with
              | zero => exact absurd ((L4_TournKings_L1_0 ..).symm.trans HL1.out) (by intro h; cases h)
              | succ g1 =>
                replace HL1 := Lib.hid ((L4_TournKings_L1_s ..).symm.trans HL1.out)
                by_cases hc56 : x53 < v0
                · replace HL1 := Lib.hid (ifT hc56 HL1.out)
                  have HK57 := Lib.hid hc56
                  obtain ⟨b58, hb, hm⟩ := obind HL1.out
                  replace HL1 := Lib.hid hm; have HB59 := Lib.hid hb; clear hm hb
                  obtain ⟨y60, hy61, hm⟩ := obind HB59.out
                  replace HB59 := Lib.hid hm; clear hm
                  obtain ⟨b62, o63, ea64, _, f65, f66, f67⟩ := ReadsI.ix (HP.rd_I HOA.out (List.Mem.head _)) hy61
                  cases ea64
                  try simp only [Nat.zero_add, Nat.add_zero, Int.toNat_natCast, Int.toNat_zero, Int.toNat_one] at f67
                  try rw [← HP.len_I HOA.out (List.Mem.head _)] at f66
                  have HY69 := Lib.hid hy61; clear hy61
                  rcases Bool.eq_false_or_eq_true (y60 == y49) with hc70 | hc70
                  · replace HB59 := Lib.hid (ifT hc70 HB59.out)
                    have HK71 := Lib.hid hc70
                    obtain ⟨y74, hy72, hm⟩ := obind HB59.out
                    replace HB59 := Lib.hid hm; clear hm
                    obtain ⟨A75, cap76, he, _⟩ := HP.open_I HOA.out (List.Mem.tail _ (List.Mem.head _))
                    subst he
                    have HC73 := R1_Has_ok W55 cap76 (HP.rd_I HOA.out (List.Mem.tail _ (List.Mem.head _))) hy72
                    clear hy72
                    replace HC73 := Lib.hid HC73
                    cases y74
                    · replace HB59 := Lib.hid (ifF Bool.false_ne_true HB59.out)
                      obtain rfl := Option.some.inj HB59.out
                      replace HL1 := Lib.hid (ifT (by first | rfl | trivial) HL1.out)
                      obtain rfl := Option.some.inj HL1.out
                      have hm := HM.out; try dsimp only at hm
                      replace HM := Lib.hid hm; clear hm
                      obtain rfl := Option.some.inj HM.out
                      go_wp2_with fail
                      refine HC73.out.mono ?_; rintro e w' ⟨rfl, rfl⟩
                      go_wp2_with fail
                      try clear f65 f66 f67
                      go_ret
                      exact ⟨(by first | rfl | (refine congrArg (fun b => Ending.returned (Value.bool b)) ?_; first | (exact decide_eq_true (by omega)) | (exact decide_eq_false (by omega)) | (have q := hc56; rw [bne_iff_ne] at q ⊢; omega) | (have q := hc56; rw [bne_eq_false_iff_eq] at q ⊢; omega) | (have q := hc56; rw [beq_iff_eq] at q ⊢; omega) | (have q := hc56; rw [beq_eq_false_iff_ne] at q ⊢; omega) | (have q := hc70; rw [bne_iff_ne] at q ⊢; omega) | (have q := hc70; rw [bne_eq_false_iff_eq] at q ⊢; omega) | (have q := hc70; rw [beq_iff_eq] at q ⊢; omega) | (have q := hc70; rw [beq_eq_false_iff_ne] at q ⊢; omega))), HD.out⟩
                    · replace HB59 := Lib.hid (ifT rfl HB59.out)
                      obtain rfl := Option.some.inj HB59.out
                      replace HL1 := Lib.hid (ifF (by first | exact Bool.false_ne_true | exact not_false) HL1.out)
                      go_wp2_with fail
                      refine HC73.out.mono ?_; rintro e w' ⟨rfl, rfl⟩
                      go_wp2_with fail
                      try clear hc56 f65 f66 f67 hc70
                      go_roundg g1
                      case measure => omega
                      case rel => exact ⟨(wrap64 (x53 + 1)), rfl, HW1, HL1⟩
                  · replace HB59 := Lib.hid (ifF (bF hc70) HB59.out)
                    have HK71 := Lib.hid hc70
                    obtain rfl := Option.some.inj HB59.out
                    replace HL1 := Lib.hid (ifF (by first | exact Bool.false_ne_true | exact not_false) HL1.out)
                    go_wp2_with fail
                    try clear hc56 f65 f66 f67 hc70
                    go_roundg g1
                    case measure => omega
                    case rel => exact ⟨(wrap64 (x53 + 1)), rfl, HW1, HL1⟩
                · replace HL1 := Lib.hid (ifF hc56 HL1.out)
                  have hc56d := decide_eq_false hc56
                  have HK57 := Lib.hid hc56
                  obtain rfl := Option.some.inj HL1.out
                  have hm := HM.out; try dsimp only at hm
                  replace HM := Lib.hid hm; clear hm
                  obtain ⟨b77, hb, hm⟩ := obind HM.out
                  replace HM := Lib.hid hm; have HB78 := Lib.hid hb; clear hm hb
                  obtain ⟨b79, hb, hm⟩ := obind HB78.out
                  replace HB78 := Lib.hid hm; have HB80 := Lib.hid hb; clear hm hb
                  obtain ⟨A81, cap82, he, _⟩ := HP.open_I HOA.out (List.Mem.tail _ (List.Mem.head _))
                  subst he
                  rcases Bool.eq_false_or_eq_true (((y7).length : Int) == 1) with hc83 | hc83
                  · replace HB80 := Lib.hid (ifT hc83 HB80.out)
                    have HK84 := Lib.hid hc83
                    obtain rfl := Option.some.inj HB80.out
                    obtain ⟨b85, hb, hm⟩ := obind HB78.out
                    replace HB78 := Lib.hid hm; have HB86 := Lib.hid hb; clear hm hb
                    rcases Bool.eq_false_or_eq_true (y49 == (wrap64 (v0 - 1))) with hc87 | hc87
                    · replace HB86 := Lib.hid (ifT hc87 HB86.out)
                      have HK88 := Lib.hid hc87
                      obtain rfl := Option.some.inj HB86.out
                      replace HB78 := Lib.hid (ifT (by decide) HB78.out)
                      obtain rfl := Option.some.inj HB78.out
                      obtain rfl := Option.some.inj HM.out
                      go_wp2_with fail
                      go_ret
                      exact ⟨(by first | rfl | (refine congrArg (fun b => Ending.returned (Value.bool b)) ?_; first | (exact decide_eq_true (by omega)) | (exact decide_eq_false (by omega)) | (have q := hc83; rw [bne_iff_ne] at q ⊢; omega) | (have q := hc83; rw [bne_eq_false_iff_eq] at q ⊢; omega) | (have q := hc83; rw [beq_iff_eq] at q ⊢; omega) | (have q := hc83; rw [beq_eq_false_iff_ne] at q ⊢; omega) | (have q := hc87; rw [bne_iff_ne] at q ⊢; omega) | (have q := hc87; rw [bne_eq_false_iff_eq] at q ⊢; omega) | (have q := hc87; rw [beq_iff_eq] at q ⊢; omega) | (have q := hc87; rw [beq_eq_false_iff_ne] at q ⊢; omega))), HD.out⟩
                    · replace HB86 := Lib.hid (ifF (bF hc87) HB86.out)
                      have HK88 := Lib.hid hc87
                      obtain rfl := Option.some.inj HB86.out
                      replace HB78 := Lib.hid (ifF (by decide) HB78.out)
                      obtain rfl := Option.some.inj HB78.out
                      obtain rfl := Option.some.inj HM.out
                      go_wp2_with fail
                      go_ret
                      exact ⟨(by first | rfl | (refine congrArg (fun b => Ending.returned (Value.bool b)) ?_; first | (exact decide_eq_true (by omega)) | (exact decide_eq_false (by omega)) | (have q := hc83; rw [bne_iff_ne] at q ⊢; omega) | (have q := hc83; rw [bne_eq_false_iff_eq] at q ⊢; omega) | (have q := hc83; rw [beq_iff_eq] at q ⊢; omega) | (have q := hc83; rw [beq_eq_false_iff_ne] at q ⊢; omega) | (have q := hc87; rw [bne_iff_ne] at q ⊢; omega) | (have q := hc87; rw [bne_eq_false_iff_eq] at q ⊢; omega) | (have q := hc87; rw [beq_iff_eq] at q ⊢; omega) | (have q := hc87; rw [beq_eq_false_iff_ne] at q ⊢; omega))), HD.out⟩
                  · replace HB80 := Lib.hid (ifF (bF hc83) HB80.out)
                    have HK84 := Lib.hid hc83
                    obtain rfl := Option.some.inj HB80.out
                    obtain ⟨b89, hb, hm⟩ := obind HB78.out
                    replace HB78 := Lib.hid hm; have HB90 := Lib.hid hb; clear hm hb
                    rcases Bool.eq_false_or_eq_true (y49 == (wrap64 (v0 - 1))) with hc91 | hc91
                    · replace HB90 := Lib.hid (ifT hc91 HB90.out)
                      have HK92 := Lib.hid hc91
                      obtain rfl := Option.some.inj HB90.out
                      replace HB78 := Lib.hid (ifF (by decide) HB78.out)
                      obtain rfl := Option.some.inj HB78.out
                      obtain rfl := Option.some.inj HM.out
                      go_wp2_with fail
                      go_ret
                      exact ⟨(by first | rfl | (refine congrArg (fun b => Ending.returned (Value.bool b)) ?_; first | (exact decide_eq_true (by omega)) | (exact decide_eq_false (by omega)) | (have q := hc83; rw [bne_iff_ne] at q ⊢; omega) | (have q := hc83; rw [bne_eq_false_iff_eq] at q ⊢; omega) | (have q := hc83; rw [beq_iff_eq] at q ⊢; omega) | (have q := hc83; rw [beq_eq_false_iff_ne] at q ⊢; omega) | (have q := hc91; rw [bne_iff_ne] at q ⊢; omega) | (have q := hc91; rw [bne_eq_false_iff_eq] at q ⊢; omega) | (have q := hc91; rw [beq_iff_eq] at q ⊢; omega) | (have q := hc91; rw [beq_eq_false_iff_ne] at q ⊢; omega))), HD.out⟩
                    · replace HB90 := Lib.hid (ifF (bF hc91) HB90.out)
                      have HK92 := Lib.hid hc91
                      obtain rfl := Option.some.inj HB90.out
                      replace HB78 := Lib.hid (ifT (by decide) HB78.out)
                      obtain rfl := Option.some.inj HB78.out
                      obtain rfl := Option.some.inj HM.out
                      go_wp2_with fail
                      go_ret
                      exact ⟨(by first | rfl | (refine congrArg (fun b => Ending.returned (Value.bool b)) ?_; first | (exact decide_eq_true (by omega)) | (exact decide_eq_false (by omega)) | (have q := hc83; rw [bne_iff_ne] at q ⊢; omega) | (have q := hc83; rw [bne_eq_false_iff_eq] at q ⊢; omega) | (have q := hc83; rw [beq_iff_eq] at q ⊢; omega) | (have q := hc83; rw [beq_eq_false_iff_ne] at q ⊢; omega) | (have q := hc91; rw [bne_iff_ne] at q ⊢; omega) | (have q := hc91; rw [bne_eq_false_iff_eq] at q ⊢; omega) | (have q := hc91; rw [beq_iff_eq] at q ⊢; omega) | (have q := hc91; rw [beq_eq_false_iff_ne] at q ⊢; omega))), HD.out⟩
          · replace HM := Lib.hid (ifT rfl HM.out)
            obtain rfl := Option.some.inj HM.out
            go_wp2_with fail
            go_ret
            exact ⟨rfl, HD.out⟩
      · rw [errV_pos _ hz21] at HC18; replace HC18 := Lib.hid HC18
        go_wp2_with fail
        refine HC18.out.mono ?_; rintro e W25 ⟨V26, rfl, ho, hd⟩
        replace HOA := Lib.hid (HOA.out.call hd HD.out.size ho); clear ho
        replace HD := Lib.hid (HD.out.trans (hd.mono HD.out.size))
        clear hd
        have HZ28 := Lib.hid hz21; clear hz21
        go_upto_region 8 with (fail)
        obtain ⟨b93, hb, hm⟩ := obind HM.out
        replace HM := Lib.hid hm; have HB94 := Lib.hid hb; clear hm hb
        go_cut [48] (fun uq wr => uq = .bool b93 ∧ Hid (Below W25.heap.size W25 wr))
        case first =>
          have HWC95 := Lib.hid (Below.refl W25.heap.size W25)
          obtain ⟨b96, hb, hm⟩ := obind HB94.out
          replace HB94 := Lib.hid hm; have HB97 := Lib.hid hb; clear hm hb
          obtain ⟨b98, hb, hm⟩ := obind HB97.out
          replace HB97 := Lib.hid hm; have HB99 := Lib.hid hb; clear hm hb
          replace HB99 := Lib.hid (ifT (bne_iff_ne.2 HZ28.out) HB99.out)
          obtain rfl := Option.some.inj HB99.out
          replace HB97 := Lib.hid (ifT (by first | rfl | trivial) HB97.out)
          obtain rfl := Option.some.inj HB97.out
          replace HB94 := Lib.hid (ifT (by first | rfl | trivial) HB94.out)
          cases Option.some.inj HB94.out
          try go_wp2_with fail
          go_meet
          case rel => exact ⟨rfl, HWC95⟩
        case rest =>
          obtain ⟨rfl, HWC95⟩ := hcut
          rename World => W100
          have hd := HWC95.out
          replace HOA := Lib.hid (HOA.out.below hd)
          replace HD := Lib.hid (HD.out.trans (hd.mono HD.out.size))
          clear hd
          cases b93
          · replace HM := Lib.hid (ifF Bool.false_ne_true HM.out)
            obtain ⟨y103, hy101, hm⟩ := obind HM.out
            replace HM := Lib.hid hm; clear hm
            obtain ⟨A104, cap105, he, _⟩ := HP.open_I HOA.out (List.Mem.head _)
            subst he
            have HC102 := R3_Most_ok W100 cap105 (HP.rd_I HOA.out (List.Mem.head _)) hy101
            clear hy101
            replace HC102 := Lib.hid HC102
            go_wp2_with fail
            refine HC102.out.mono ?_; rintro e w' ⟨rfl, rfl⟩
            go_wp2_with fail
            obtain ⟨o106, ho, hm⟩ := obind HM.out
            replace HM := Lib.hid hm; have HL1 := Lib.hid ho; clear hm ho
            go_loopg [10] F (fun gg ux108 wr => ∃ (x107 : Int), ux108 = .int .i64 x107 ∧ Hid (Below W100.heap.size W100 wr) ∧ Hid (L4_TournKings_L1 F (v0) (y7) (y19) (y103) gg x107 = some o106))
            case atStart => exact ⟨0, rfl, (Lib.hid (Below.refl _ _)), HL1⟩
            case round =>
              obtain ⟨x107, rfl, HW1, HL1⟩ := hrel
              rename World => W109
              have hd := HW1.out
              replace HOA := Lib.hid (HOA.out.below hd)
              replace HD := Lib.hid (HD.out.trans (hd.mono HD.out.size))
              clear hd
              cases gk with
              | zero => exact absurd ((L4_TournKings_L1_0 ..).symm.trans HL1.out) (by intro h; cases h)
              | succ g1 =>
                replace HL1 := Lib.hid ((L4_TournKings_L1_s ..).symm.trans HL1.out)
                by_cases hc110 : x107 < v0
                · replace HL1 := Lib.hid (ifT hc110 HL1.out)
                  have HK111 := Lib.hid hc110
                  obtain ⟨b112, hb, hm⟩ := obind HL1.out
                  replace HL1 := Lib.hid hm; have HB113 := Lib.hid hb; clear hm hb
                  obtain ⟨y114, hy115, hm⟩ := obind HB113.out
                  replace HB113 := Lib.hid hm; clear hm
                  obtain ⟨b116, o117, ea118, _, f119, f120, f121⟩ := ReadsI.ix (HP.rd_I HOA.out (List.Mem.head _)) hy115
                  cases ea118
                  try simp only [Nat.zero_add, Nat.add_zero, Int.toNat_natCast, Int.toNat_zero, Int.toNat_one] at f121
                  try rw [← HP.len_I HOA.out (List.Mem.head _)] at f120
                  have HY123 := Lib.hid hy115; clear hy115
                  rcases Bool.eq_false_or_eq_true (y114 == y103) with hc124 | hc124
                  · replace HB113 := Lib.hid (ifT hc124 HB113.out)
                    have HK125 := Lib.hid hc124
                    obtain ⟨y128, hy126, hm⟩ := obind HB113.out
                    replace HB113 := Lib.hid hm; clear hm
                    obtain ⟨A129, cap130, he, _⟩ := HP.open_I HOA.out (List.Mem.tail _ (List.Mem.head _))
                    subst he
                    have HC127 := R1_Has_ok W109 cap130 (HP.rd_I HOA.out (List.Mem.tail _ (List.Mem.head _))) hy126
                    clear hy126
                    replace HC127 := Lib.hid HC127
                    cases y128
                    · replace HB113 := Lib.hid (ifF Bool.false_ne_true HB113.out)
                      obtain rfl := Option.some.inj HB113.out
                      replace HL1 := Lib.hid (ifT (by first | rfl | trivial) HL1.out)
                      obtain rfl := Option.some.inj HL1.out
                      have hm := HM.out; try dsimp only at hm
                      replace HM := Lib.hid hm; clear hm
                      obtain rfl := Option.some.inj HM.out
                      go_wp2_with fail
                      refine HC127.out.mono ?_; rintro e w' ⟨rfl, rfl⟩
                      go_wp2_with fail
                      try clear f119 f120 f121
                      go_ret
                      exact ⟨(by first | rfl | (refine congrArg (fun b => Ending.returned (Value.bool b)) ?_; first | (exact decide_eq_true (by omega)) | (exact decide_eq_false (by omega)) | (have q := hc110; rw [bne_iff_ne] at q ⊢; omega) | (have q := hc110; rw [bne_eq_false_iff_eq] at q ⊢; omega) | (have q := hc110; rw [beq_iff_eq] at q ⊢; omega) | (have q := hc110; rw [beq_eq_false_iff_ne] at q ⊢; omega) | (have q := hc124; rw [bne_iff_ne] at q ⊢; omega) | (have q := hc124; rw [bne_eq_false_iff_eq] at q ⊢; omega) | (have q := hc124; rw [beq_iff_eq] at q ⊢; omega) | (have q := hc124; rw [beq_eq_false_iff_ne] at q ⊢; omega))), HD.out⟩
                    · replace HB113 := Lib.hid (ifT rfl HB113.out)
                      obtain rfl := Option.some.inj HB113.out
                      replace HL1 := Lib.hid (ifF (by first | exact Bool.false_ne_true | exact not_false) HL1.out)
                      go_wp2_with fail
                      refine HC127.out.mono ?_; rintro e w' ⟨rfl, rfl⟩
                      go_wp2_with fail
                      try clear hc110 f119 f120 f121 hc124
                      go_roundg g1
                      case measure => omega
                      case rel => exact ⟨(wrap64 (x107 + 1)), rfl, HW1, HL1⟩
                  · replace HB113 := Lib.hid (ifF (bF hc124) HB113.out)
                    have HK125 := Lib.hid hc124
                    obtain rfl := Option.some.inj HB113.out
                    replace HL1 := Lib.hid (ifF (by first | exact Bool.false_ne_true | exact not_false) HL1.out)
                    go_wp2_with fail
                    try clear hc110 f119 f120 f121 hc124
                    go_roundg g1
                    case measure => omega
                    case rel => exact ⟨(wrap64 (x107 + 1)), rfl, HW1, HL1⟩
                · replace HL1 := Lib.hid (ifF hc110 HL1.out)
                  have hc110d := decide_eq_false hc110
                  have HK111 := Lib.hid hc110
                  obtain rfl := Option.some.inj HL1.out
                  have hm := HM.out; try dsimp only at hm
                  replace HM := Lib.hid hm; clear hm
                  obtain ⟨b131, hb, hm⟩ := obind HM.out
                  replace HM := Lib.hid hm; have HB132 := Lib.hid hb; clear hm hb
                  obtain ⟨b133, hb, hm⟩ := obind HB132.out
                  replace HB132 := Lib.hid hm; have HB134 := Lib.hid hb; clear hm hb
                  obtain ⟨A135, cap136, he, _⟩ := HP.open_I HOA.out (List.Mem.tail _ (List.Mem.head _))
                  subst he
                  rcases Bool.eq_false_or_eq_true (((y7).length : Int) == 1) with hc137 | hc137
                  · replace HB134 := Lib.hid (ifT hc137 HB134.out)
                    have HK138 := Lib.hid hc137
                    obtain rfl := Option.some.inj HB134.out
                    obtain ⟨b139, hb, hm⟩ := obind HB132.out
                    replace HB132 := Lib.hid hm; have HB140 := Lib.hid hb; clear hm hb
                    rcases Bool.eq_false_or_eq_true (y103 == (wrap64 (v0 - 1))) with hc141 | hc141
                    · replace HB140 := Lib.hid (ifT hc141 HB140.out)
                      have HK142 := Lib.hid hc141
                      obtain rfl := Option.some.inj HB140.out
                      replace HB132 := Lib.hid (ifT (by decide) HB132.out)
                      obtain rfl := Option.some.inj HB132.out
                      obtain rfl := Option.some.inj HM.out
                      go_wp2_with fail
                      go_ret
                      exact ⟨(by first | rfl | (refine congrArg (fun b => Ending.returned (Value.bool b)) ?_; first | (exact decide_eq_true (by omega)) | (exact decide_eq_false (by omega)) | (have q := hc137; rw [bne_iff_ne] at q ⊢; omega) | (have q := hc137; rw [bne_eq_false_iff_eq] at q ⊢; omega) | (have q := hc137; rw [beq_iff_eq] at q ⊢; omega) | (have q := hc137; rw [beq_eq_false_iff_ne] at q ⊢; omega) | (have q := hc141; rw [bne_iff_ne] at q ⊢; omega) | (have q := hc141; rw [bne_eq_false_iff_eq] at q ⊢; omega) | (have q := hc141; rw [beq_iff_eq] at q ⊢; omega) | (have q := hc141; rw [beq_eq_false_iff_ne] at q ⊢; omega))), HD.out⟩
                    · replace HB140 := Lib.hid (ifF (bF hc141) HB140.out)
                      have HK142 := Lib.hid hc141
                      obtain rfl := Option.some.inj HB140.out
                      replace HB132 := Lib.hid (ifF (by decide) HB132.out)
                      obtain rfl := Option.some.inj HB132.out
                      obtain rfl := Option.some.inj HM.out
                      go_wp2_with fail
                      go_ret
                      exact ⟨(by first | rfl | (refine congrArg (fun b => Ending.returned (Value.bool b)) ?_; first | (exact decide_eq_true (by omega)) | (exact decide_eq_false (by omega)) | (have q := hc137; rw [bne_iff_ne] at q ⊢; omega) | (have q := hc137; rw [bne_eq_false_iff_eq] at q ⊢; omega) | (have q := hc137; rw [beq_iff_eq] at q ⊢; omega) | (have q := hc137; rw [beq_eq_false_iff_ne] at q ⊢; omega) | (have q := hc141; rw [bne_iff_ne] at q ⊢; omega) | (have q := hc141; rw [bne_eq_false_iff_eq] at q ⊢; omega) | (have q := hc141; rw [beq_iff_eq] at q ⊢; omega) | (have q := hc141; rw [beq_eq_false_iff_ne] at q ⊢; omega))), HD.out⟩
                  · replace HB134 := Lib.hid (ifF (bF hc137) HB134.out)
                    have HK138 := Lib.hid hc137
                    obtain rfl := Option.some.inj HB134.out
                    obtain ⟨b143, hb, hm⟩ := obind HB132.out
                    replace HB132 := Lib.hid hm; have HB144 := Lib.hid hb; clear hm hb
                    rcases Bool.eq_false_or_eq_true (y103 == (wrap64 (v0 - 1))) with hc145 | hc145
                    · replace HB144 := Lib.hid (ifT hc145 HB144.out)
                      have HK146 := Lib.hid hc145
                      obtain rfl := Option.some.inj HB144.out
                      replace HB132 := Lib.hid (ifF (by decide) HB132.out)
                      obtain rfl := Option.some.inj HB132.out
                      obtain rfl := Option.some.inj HM.out
                      go_wp2_with fail
                      go_ret
                      exact ⟨(by first | rfl | (refine congrArg (fun b => Ending.returned (Value.bool b)) ?_; first | (exact decide_eq_true (by omega)) | (exact decide_eq_false (by omega)) | (have q := hc137; rw [bne_iff_ne] at q ⊢; omega) | (have q := hc137; rw [bne_eq_false_iff_eq] at q ⊢; omega) | (have q := hc137; rw [beq_iff_eq] at q ⊢; omega) | (have q := hc137; rw [beq_eq_false_iff_ne] at q ⊢; omega) | (have q := hc145; rw [bne_iff_ne] at q ⊢; omega) | (have q := hc145; rw [bne_eq_false_iff_eq] at q ⊢; omega) | (have q := hc145; rw [beq_iff_eq] at q ⊢; omega) | (have q := hc145; rw [beq_eq_false_iff_ne] at q ⊢; omega))), HD.out⟩
                    · replace HB144 := Lib.hid (ifF (bF hc145) HB144.out)
                      have HK146 := Lib.hid hc145
                      obtain rfl := Option.some.inj HB144.out
                      replace HB132 := Lib.hid (ifT (by decide) HB132.out)
                      obtain rfl := Option.some.inj HB132.out
                      obtain rfl := Option.some.inj HM.out
                      go_wp2_with fail
                      go_ret
                      exact ⟨(by first | rfl | (refine congrArg (fun b => Ending.returned (Value.bool b)) ?_; first | (exact decide_eq_true (by omega)) | (exact decide_eq_false (by omega)) | (have q := hc137; rw [bne_iff_ne] at q ⊢; omega) | (have q := hc137; rw [bne_eq_false_iff_eq] at q ⊢; omega) | (have q := hc137; rw [beq_iff_eq] at q ⊢; omega) | (have q := hc137; rw [beq_eq_false_iff_ne] at q ⊢; omega) | (have q := hc145; rw [bne_iff_ne] at q ⊢; omega) | (have q := hc145; rw [bne_eq_false_iff_eq] at q ⊢; omega) | (have q := hc145; rw [beq_iff_eq] at q ⊢; omega) | (have q := hc145; rw [beq_eq_false_iff_ne] at q ⊢; omega))), HD.out⟩
          · replace HM := Lib.hid (ifT rfl HM.out)
            obtain rfl := Option.some.inj HM.out
            go_wp2_with fail
            go_ret
            exact ⟨rfl, HD.out⟩
    · rw [errV_pos _ hz9] at HC6; replace HC6 := Lib.hid HC6
      go_wp2_with fail
      refine HC6.out.mono ?_; rintro e W13 ⟨V14, rfl, ho, hd⟩
      replace HOA := Lib.hid (HOA.out.call hd HD.out.size ho); clear ho
      replace HD := Lib.hid (HD.out.trans (hd.mono HD.out.size))
      clear hd
      have HZ16 := Lib.hid hz9; clear hz9
      replace HM := Lib.hid (ifT (bne_iff_ne.2 HZ16.out) HM.out)
      obtain ⟨b147, hb, hm⟩ := obind HM.out
      replace HM := Lib.hid hm; have HB148 := Lib.hid hb; clear hm hb
      obtain ⟨A149, cap150, he, _⟩ := HP.open_I HOA.out (List.Mem.head _)
      subst he
      rcases Bool.eq_false_or_eq_true (((y7).length : Int) == 0) with hc151 | hc151
      · replace HB148 := Lib.hid (ifT hc151 HB148.out)
        have HK152 := Lib.hid hc151
        obtain rfl := Option.some.inj HB148.out
        obtain rfl := Option.some.inj HM.out
        go_wp2_with fail
        go_ret
        exact ⟨(by first | rfl | (refine congrArg (fun b => Ending.returned (Value.bool b)) ?_; first | (exact decide_eq_true (by omega)) | (exact decide_eq_false (by omega)) | (have q := hc151; rw [bne_iff_ne] at q ⊢; omega) | (have q := hc151; rw [bne_eq_false_iff_eq] at q ⊢; omega) | (have q := hc151; rw [beq_iff_eq] at q ⊢; omega) | (have q := hc151; rw [beq_eq_false_iff_ne] at q ⊢; omega))), HD.out⟩
      · replace HB148 := Lib.hid (ifF (bF hc151) HB148.out)
        have HK152 := Lib.hid hc151
        obtain rfl := Option.some.inj HB148.out
        obtain rfl := Option.some.inj HM.out
        go_wp2_with fail
        go_ret
        exact ⟨(by first | rfl | (refine congrArg (fun b => Ending.returned (Value.bool b)) ?_; first | (exact decide_eq_true (by omega)) | (exact decide_eq_false (by omega)) | (have q := hc151; rw [bne_iff_ne] at q ⊢; omega) | (have q := hc151; rw [bne_eq_false_iff_eq] at q ⊢; omega) | (have q := hc151; rw [beq_iff_eq] at q ⊢; omega) | (have q := hc151; rw [beq_eq_false_iff_ne] at q ⊢; omega))), HD.out⟩
end Go.Proofs.Ytabkmceajgpdjaa
