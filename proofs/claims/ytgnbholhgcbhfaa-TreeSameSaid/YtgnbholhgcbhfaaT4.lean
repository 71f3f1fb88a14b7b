import Derived.Test.YtgnbholhgcbhfaaT3
import Derived.Test.YtgnbholhgcbhfaaGF
set_option linter.all false
set_option maxRecDepth 100000
namespace Go.Proofs.Ytgnbholhgcbhfaa
open Go.RowKit
def L3_fits_L2 (F : Nat) (rec : (Int) → (List (Int × Int)) → (List (Int × Int)) → (List Int) → Option (Bool)) (v1 : List (Int × Int)) (v2 : List (Int × Int)) (v3 : List Int) (v5 : Int) (v6 : Int) : Nat → (Bool) → (Int) → Option (Bool × Int)
  | 0, _, _ => none
  | g+1, v7, v8 => (if v8 < v5 then if v7 = true then some true else some false else some false).bind fun b3 => if b3 = true then ((R1_Beside F (v1) (v5) (v8)).bind fun y5 => (ix v3 v8).bind fun y6 => (R1_Beside F (v2) (v6) (y6)).bind fun y7 => if (y5 == y7) = true then some true else some false).bind fun b4 => L3_fits_L2 F rec v1 v2 v3 v5 v6 g (b4) ((wrap64 (v8 + 1))) else some (v7, v8)
theorem L3_fits_L2_0 (F : Nat) (rec : (Int) → (List (Int × Int)) → (List (Int × Int)) → (List Int) → Option (Bool)) (v1 : List (Int × Int)) (v2 : List (Int × Int)) (v3 : List Int) (v5 : Int) (v6 : Int) (v7 : Bool) (v8 : Int) : L3_fits_L2 F rec v1 v2 v3 v5 v6 0 v7 v8 = none := by rw [L3_fits_L2]
theorem L3_fits_L2_s (F g : Nat) (rec : (Int) → (List (Int × Int)) → (List (Int × Int)) → (List Int) → Option (Bool)) (v1 : List (Int × Int)) (v2 : List (Int × Int)) (v3 : List Int) (v5 : Int) (v6 : Int) (v7 : Bool) (v8 : Int) : L3_fits_L2 F rec v1 v2 v3 v5 v6 (g+1) v7 v8 = ((if v8 < v5 then if v7 = true then some true else some false else some false).bind fun b3 => if b3 = true then ((R1_Beside F (v1) (v5) (v8)).bind fun y5 => (ix v3 v8).bind fun y6 => (R1_Beside F (v2) (v6) (y6)).bind fun y7 => if (y5 == y7) = true then some true else some false).bind fun b4 => L3_fits_L2 F rec v1 v2 v3 v5 v6 g (b4) ((wrap64 (v8 + 1))) else some (v7, v8)) := by rw [L3_fits_L2]
def L3_fits_L1 (F : Nat) (rec : (Int) → (List (Int × Int)) → (List (Int × Int)) → (List Int) → Option (Bool)) (v0 : Int) (v1 : List (Int × Int)) (v2 : List (Int × Int)) (v3 : List Int) (v5 : Int) : Nat → (Int) → Option ((Int) ⊕ (Bool))
  | 0, _ => none
  | g+1, v6 => if v6 < v0 then ((R1_Has F (v3) (v6)).bind fun y2 => if y2 = true then some false else some true).bind fun b1 => (L3_fits_L2 F rec (v1) (v2) (v3) (v5) (v6) F (b1) (0)).bind fun o8 => ((if o8.1 = true then (R1_Behind F (v3) (v6)).bind fun y10 => (rec (v0) (v1) (v2) (y10)).bind fun y11 => if y11 = true then some true else some false else some false).bind fun b9 => if b9 = true then some (.inr (true)) else L3_fits_L1 F rec v0 v1 v2 v3 v5 g ((wrap64 (v6 + 1)))) else some (.inl (v6))
theorem L3_fits_L1_0 (F : Nat) (rec : (Int) → (List (Int × Int)) → (List (Int × Int)) → (List Int) → Option (Bool)) (v0 : Int) (v1 : List (Int × Int)) (v2 : List (Int × Int)) (v3 : List Int) (v5 : Int) (v6 : Int) : L3_fits_L1 F rec v0 v1 v2 v3 v5 0 v6 = none := by rw [L3_fits_L1]
theorem L3_fits_L1_s (F g : Nat) (rec : (Int) → (List (Int × Int)) → (List (Int × Int)) → (List Int) → Option (Bool)) (v0 : Int) (v1 : List (Int × Int)) (v2 : List (Int × Int)) (v3 : List Int) (v5 : Int) (v6 : Int) : L3_fits_L1 F rec v0 v1 v2 v3 v5 (g+1) v6 = (if v6 < v0 then ((R1_Has F (v3) (v6)).bind fun y2 => if y2 = true then some false else some true).bind fun b1 => (L3_fits_L2 F rec (v1) (v2) (v3) (v5) (v6) F (b1) (0)).bind fun o8 => ((if o8.1 = true then (R1_Behind F (v3) (v6)).bind fun y10 => (rec (v0) (v1) (v2) (y10)).bind fun y11 => if y11 = true then some true else some false else some false).bind fun b9 => if b9 = true then some (.inr (true)) else L3_fits_L1 F rec v0 v1 v2 v3 v5 g ((wrap64 (v6 + 1)))) else some (.inl (v6))) := by rw [L3_fits_L1]
def L3_fits (F : Nat) : Nat → (Int) → (List (Int × Int)) → (List (Int × Int)) → (List Int) → Option (Bool)
  | 0, _, _, _, _ => none
  | d+1, v0, v1, v2, v3 => (if (((v3).length : Int) == v0) = true then some (true) else (L3_fits_L1 F (L3_fits F d) (v0) (v1) (v2) (v3) (((v3).length : Int)) F (0)).bind fun o12 => match o12 with | .inr r => some (r) | .inl o12 => some (false))
theorem L3_fits_s (F d : Nat) (v0 : Int) (v1 : List (Int × Int)) (v2 : List (Int × Int)) (v3 : List Int) : L3_fits F (d+1) v0 v1 v2 v3 = ((if (((v3).length : Int) == v0) = true then some (true) else (L3_fits_L1 F (L3_fits F d) (v0) (v1) (v2) (v3) (((v3).length : Int)) F (0)).bind fun o12 => match o12 with | .inr r => some (r) | .inl o12 => some (false))) := by rw [L3_fits]
theorem L3_fits_0 (F : Nat) (v0 : Int) (v1 : List (Int × Int)) (v2 : List (Int × Int)) (v3 : List Int) : L3_fits F 0 v0 v1 v2 v3 = none := by rw [L3_fits]
set_option maxRecDepth 100000 in
set_option maxHeartbeats 4000000 in
theorem L3_fits_ok {F : Nat} : ∀ (d : Nat) {v0 : Int} {v1 : List (Int × Int)} {A1 : Option Addr} {v2 : List (Int × Int)} {A2 : Option Addr} {v3 : List Int} {A3 : Option Addr} {r : Bool} (w : World) (cap1 : Nat) (hr1 : ReadsL w w.heap.size A1 v1) (cap2 : Nat) (hr2 : ReadsL w w.heap.size A2 v2) (cap3 : Nat) (hr3 : ReadsI w w.heap.size A3 v3) (h : L3_fits F d v0 v1 v2 v3 = some r),
    Calls Try.prog 12 #[.int .i64 v0, .slice A1 v1.length cap1, .slice A2 v2.length cap2, .slice A3 v3.length cap3] w fun e w' => e = .returned (.bool r) ∧ Below w.heap.size w w' := by
  intro d
  induction d with
  | zero =>
    intro v0 v1 A1 v2 A2 v3 A3 r w cap1 hr1 cap2 hr2 cap3 hr3 h
    rw [L3_fits_0] at h; cases h
  | succ d ih =>
    intro v0 v1 A1 v2 A2 v3 A3 r w cap1 hr1 cap2 hr2 cap3 hr3 h
    have HR1 := Lib.hid hr1; clear hr1
    have HR2 := Lib.hid hr2; clear hr2
    have HR3 := Lib.hid hr3; clear hr3
    have HD := Lib.hid (Below.refl w.heap.size w)
    have HOA := Lib.hid (HP.nil (W := w) (B := w.heap.size))
    rw [L3_fits_s] at h
    have HM := Lib.hid h; clear h
    go_enter Try.func12, Try.ntmps12
    rcases Bool.eq_false_or_eq_true (((v3).length : Int) == v0) with hc1 | hc1
    · replace HM := Lib.hid (ifT hc1 HM.out)
      have HK2 := Lib.hid hc1
      obtain rfl := Option.some.inj HM.out
      go_wp2_with fail
      go_ret
      exact ⟨(by first | rfl | (refine congrArg (fun b => Ending.returned (Value.bool b)) ?_; first | (exact decide_eq_true (by omega)) | (exact decide_eq_false (by omega)) | (have q := hc1; rw [bne_iff_ne] at q ⊢; omega) | (have q := hc1; rw [bne_eq_false_iff_eq] at q ⊢; omega) | (have q := hc1; rw [beq_iff_eq] at q ⊢; omega) | (have q := hc1; rw [beq_eq_false_iff_ne] at q ⊢; omega) | exact hc1 | (rw [hc1]; rfl))), HD.out⟩
    · replace HM := Lib.hid (ifF (bF hc1) HM.out)
      have HK2 := Lib.hid hc1
      go_wp2_with fail
      try clear hc1
      obtain ⟨o3, ho, hm⟩ := obind HM.out
      replace HM := Lib.hid hm; have HL1 := Lib.hid ho; clear hm ho
      go_loopg [10] F (fun gg ux5 wr => ∃ (x4 : Int), ux5 = .int .i64 x4 ∧ Hid (Below w.heap.size w wr) ∧ Hid (L3_fits_L1 F (L3_fits F d) (v0) (v1) (v2) (v3) (((v3).length : Int)) gg x4 = some o3))
      case atStart => exact ⟨0, rfl, (Lib.hid (Below.refl _ _)), HL1⟩
      case round =>
        obtain ⟨x4, rfl, HW1, HL1⟩ := hrel
        rename World => W6
        have hd := HW1.out
        replace HOA := Lib.hid (HOA.out.below hd)
        replace HD := Lib.hid (HD.out.trans (hd.mono HD.out.size))
        clear hd
        cases gk with
        | zero => exact absurd ((L3_fits_L1_0 ..).symm.trans HL1.out) (by intro h; cases h)
        | succ g1 =>
          replace HL1 := Lib.hid ((L3_fits_L1_s ..).symm.trans HL1.out)
          by_cases hc7 : x4 < v0
          · replace HL1 := Lib.hid (ifT hc7 HL1.out)
            have HK8 := Lib.hid hc7
            obtain ⟨b9, hb, hm⟩ := obind HL1.out
            replace HL1 := Lib.hid hm; have HB10 := Lib.hid hb; clear hm hb
            obtain ⟨y13, hy11, hm⟩ := obind HB10.out
            replace HB10 := Lib.hid hm; clear hm
            have HC12 := R1_Has_ok W6 cap3 (rdI HD.out HR3.out) hy11
            clear hy11
            replace HC12 := Lib.hid HC12
            cases y13
            · replace HB10 := Lib.hid (ifF Bool.false_ne_true HB10.out)
              obtain rfl := Option.some.inj HB10.out
              go_wp2_with fail
              refine HC12.out.mono ?_; rintro e w' ⟨rfl, rfl⟩
              go_wp2_with fail
              try clear hc7
              obtain ⟨o14, ho, hm⟩ := obind HL1.out
              replace HL1 := Lib.hid hm; have HL2 := Lib.hid ho; clear hm ho
              go_loopg [11, 12] F (fun gg ux17 ux18 wr => ∃ (x15 : Bool) (x16 : Int), ux17 = .bool x15 ∧ ux18 = .int .i64 x16 ∧ Hid (Below W6.heap.size W6 wr) ∧ Hid (L3_fits_L2 F (L3_fits F d) (v1) (v2) (v3) (((v3).length : Int)) (x4) gg x15 x16 = some o14))
              case atStart => exact ⟨true, 0, rfl, rfl, (Lib.hid (Below.refl _ _)), HL2⟩
              case round =>
                obtain ⟨x15, x16, rfl, rfl, HW2, HL2⟩ := hrel
                rename World => W19
                have hd := HW2.out
                replace HOA := Lib.hid (HOA.out.below hd)
                replace HD := Lib.hid (HD.out.trans (hd.mono HD.out.size))
                replace HW1 := Lib.hid (HW1.out.trans (hd.mono HW1.out.size))
                clear hd
                cases gk with
                | zero => exact absurd ((L3_fits_L2_0 ..).symm.trans HL2.out) (by intro h; cases h)
                | succ g2 =>
                  replace HL2 := Lib.hid ((L3_fits_L2_s ..).symm.trans HL2.out)
                  obtain ⟨b20, hb, hm⟩ := obind HL2.out
                  replace HL2 := Lib.hid hm; have HB21 := Lib.hid hb; clear hm hb
                  by_cases hc22 : x16 < ((v3).length : Int)
                  · replace HB21 := Lib.hid (ifT hc22 HB21.out)
                    have HK23 := Lib.hid hc22
                    cases x15
                    · replace HB21 := Lib.hid (ifF Bool.false_ne_true HB21.out)
                      obtain rfl := Option.some.inj HB21.out
                      replace HL2 := Lib.hid (ifF (by first | exact Bool.false_ne_true | exact not_false) HL2.out)
                      obtain rfl := Option.some.inj HL2.out
                      have hm := HL1.out; try dsimp only at hm
                      replace HL1 := Lib.hid hm; clear hm
                      obtain ⟨b24, hb, hm⟩ := obind HL1.out
                      replace HL1 := Lib.hid hm; have HB25 := Lib.hid hb; clear hm hb
                      replace HB25 := Lib.hid (ifF (by first | exact Bool.false_ne_true | exact not_false) HB25.out)
                      obtain rfl := Option.some.inj HB25.out
                      replace HL1 := Lib.hid (ifF (by first | exact Bool.false_ne_true | exact not_false) HL1.out)
                      go_wp2_with fail
                      try clear hc22
                      go_roundg g1
                      case measure => omega
                      case rel => exact ⟨(wrap64 (x4 + 1)), rfl, HW1, HL1⟩
                    · replace HB21 := Lib.hid (ifT rfl HB21.out)
                      obtain rfl := Option.some.inj HB21.out
                      replace HL2 := Lib.hid (ifT (by first | rfl | trivial) HL2.out)
                      try go_wp2_with fail
                      try clear hc22
                      obtain ⟨b26, hb, hm⟩ := obind HL2.out
                      replace HL2 := Lib.hid hm; have HB27 := Lib.hid hb; clear hm hb
                      obtain ⟨y30, hy28, hm⟩ := obind HB27.out
                      replace HB27 := Lib.hid hm; clear hm
                      have HC29 := Lib.hid (fun m => R1_Beside_ok (W19.drewN m) cap1 (ReadsL.drewN' (rdL HD.out HR1.out) m) hy28)
                      clear hy28
                      obtain ⟨y31, hy32, hm⟩ := obind HB27.out
                      replace HB27 := Lib.hid hm; clear hm
                      obtain ⟨b33, o34, ea35, _, f36, f37, f38⟩ := ReadsI.ix (rdI HD.out HR3.out) hy32
                      cases ea35
                      try simp only [Nat.zero_add, Nat.add_zero, Int.toNat_natCast, Int.toNat_zero, Int.toNat_one] at f38
                      have HY40 := Lib.hid hy32; clear hy32
                      obtain ⟨y43, hy41, hm⟩ := obind HB27.out
                      replace HB27 := Lib.hid hm; clear hm
                      have HC42 := Lib.hid (fun m => R1_Beside_ok (W19.drewN m) cap2 (ReadsL.drewN' (rdL HD.out HR2.out) m) hy41)
                      clear hy41
                      cases y30
                      · cases y43
                        · replace HB27 := Lib.hid (ifT (by decide) HB27.out)
                          obtain rfl := Option.some.inj HB27.out
                          go_quiet (first | (go_at_call 15; with_reducible exact quiet_left (HC29.out _)) | (go_at_call 15; with_reducible exact quiet_left (HC42.out _)))
                          generalize hW : World.drewN W19 _ = W44
                          have hd : Dr W19 W44 := ⟨_, hW.symm⟩
                          clear hW
                          try clear f36 f37 f38
                          replace HOA := Lib.hid (HOA.out.below (hd.below _))
                          replace HD := Lib.hid (HD.out.trans ((hd.below _).mono HD.out.size))
                          replace HW1 := Lib.hid (HW1.out.trans ((hd.below _).mono HW1.out.size))
                          replace HW2 := Lib.hid (HW2.out.trans ((hd.below _).mono HW2.out.size))
                          clear hd
                          go_wp2_with fail
                          go_roundg g2
                          case measure => omega
                          case rel => exact ⟨true, (wrap64 (x16 + 1)), rfl, rfl, HW2, HL2⟩
                        · replace HB27 := Lib.hid (ifF (by decide) HB27.out)
                          obtain rfl := Option.some.inj HB27.out
                          go_quiet (first | (go_at_call 15; with_reducible exact quiet_left (HC29.out _)) | (go_at_call 15; with_reducible exact quiet_left (HC42.out _)))
                          generalize hW : World.drewN W19 _ = W45
                          have hd : Dr W19 W45 := ⟨_, hW.symm⟩
                          clear hW
                          try clear f36 f37 f38
                          replace HOA := Lib.hid (HOA.out.below (hd.below _))
                          replace HD := Lib.hid (HD.out.trans ((hd.below _).mono HD.out.size))
                          replace HW1 := Lib.hid (HW1.out.trans ((hd.below _).mono HW1.out.size))
                          replace HW2 := Lib.hid (HW2.out.trans ((hd.below _).mono HW2.out.size))
                          clear hd
                          go_wp2_with fail
                          go_roundg g2
                          case measure => omega
                          case rel => exact ⟨false, (wrap64 (x16 + 1)), rfl, rfl, HW2, HL2⟩
                      · cases y43
                        · replace HB27 := Lib.hid (ifF (by decide) HB27.out)
                          obtain rfl := Option.some.inj HB27.out
                          go_quiet (first | (go_at_call 15; with_reducible exact quiet_left (HC29.out _)) | (go_at_call 15; with_reducible exact quiet_left (HC42.out _)))
                          generalize hW : World.drewN W19 _ = W46
                          have hd : Dr W19 W46 := ⟨_, hW.symm⟩
                          clear hW
                          try clear f36 f37 f38
                          replace HOA := Lib.hid (HOA.out.below (hd.below _))
                          replace HD := Lib.hid (HD.out.trans ((hd.below _).mono HD.out.size))
                          replace HW1 := Lib.hid (HW1.out.trans ((hd.below _).mono HW1.out.size))
                          replace HW2 := Lib.hid (HW2.out.trans ((hd.below _).mono HW2.out.size))
                          clear hd
                          go_wp2_with fail
                          go_roundg g2
                          case measure => omega
                          case rel => exact ⟨false, (wrap64 (x16 + 1)), rfl, rfl, HW2, HL2⟩
                        · replace HB27 := Lib.hid (ifT (by decide) HB27.out)
                          obtain rfl := Option.some.inj HB27.out
                          go_quiet (first | (go_at_call 15; with_reducible exact quiet_left (HC29.out _)) | (go_at_call 15; with_reducible exact quiet_left (HC42.out _)))
                          generalize hW : World.drewN W19 _ = W47
                          have hd : Dr W19 W47 := ⟨_, hW.symm⟩
                          clear hW
                          try clear f36 f37 f38
                          replace HOA := Lib.hid (HOA.out.below (hd.below _))
                          replace HD := Lib.hid (HD.out.trans ((hd.below _).mono HD.out.size))
                          replace HW1 := Lib.hid (HW1.out.trans ((hd.below _).mono HW1.out.size))
                          replace HW2 := Lib.hid (HW2.out.trans ((hd.below _).mono HW2.out.size))
                          clear hd
                          go_wp2_with fail
                          go_roundg g2
                          case measure => omega
                          case rel => exact ⟨true, (wrap64 (x16 + 1)), rfl, rfl, HW2, HL2⟩
                  · replace HB21 := Lib.hid (ifF hc22 HB21.out)
                    have hc22d := decide_eq_false hc22
                    have HK23 := Lib.hid hc22
                    obtain rfl := Option.some.inj HB21.out
                    replace HL2 := Lib.hid (ifF (by first | exact Bool.false_ne_true | exact not_false) HL2.out)
                    obtain rfl := Option.some.inj HL2.out
                    have hm := HL1.out; try dsimp only at hm
                    replace HL1 := Lib.hid hm; clear hm
                    obtain ⟨b48, hb, hm⟩ := obind HL1.out
                    replace HL1 := Lib.hid hm; have HB49 := Lib.hid hb; clear hm hb
                    cases x15
                    · replace HB49 := Lib.hid (ifF Bool.false_ne_true HB49.out)
                      obtain rfl := Option.some.inj HB49.out
                      replace HL1 := Lib.hid (ifF (by first | exact Bool.false_ne_true | exact not_false) HL1.out)
                      go_wp2_with fail
                      try clear hc22 hc22d
                      go_roundg g1
                      case measure => omega
                      case rel => exact ⟨(wrap64 (x4 + 1)), rfl, HW1, HL1⟩
                    · replace HB49 := Lib.hid (ifT rfl HB49.out)
                      obtain ⟨y52, hy50, hm⟩ := obind HB49.out
                      replace HB49 := Lib.hid hm; clear hm
                      have HC51 := R1_Behind_ok W19 cap3 (rdI HD.out HR3.out) hy50
                      clear hy50
                      replace HC51 := Lib.hid HC51
                      go_wp2_with fail
                      refine HC51.out.mono ?_; rintro e W53 ⟨V54, rfl, ho, hd⟩
                      try clear hc22 hc22d
                      replace HOA := Lib.hid (HOA.out.call hd HD.out.size ho); clear ho
                      replace HD := Lib.hid (HD.out.trans (hd.mono HD.out.size))
                      replace HW1 := Lib.hid (HW1.out.trans (hd.mono HW1.out.size))
                      clear hd
                      obtain ⟨y58, hy56, hm⟩ := obind HB49.out
                      replace HB49 := Lib.hid hm; clear hm
                      obtain ⟨A59, cap60, he, _⟩ := HP.open_I HOA.out (List.Mem.head _)
                      subst he
                      have HC57 := ih W53 cap1 (rdL HD.out HR1.out) cap2 (rdL HD.out HR2.out) cap60 (HP.rd_I HOA.out (List.Mem.head _)) hy56
                      clear hy56
                      replace HC57 := Lib.hid HC57
                      go_wp2_with fail
                      refine HC57.out.mono ?_; rintro e W61 ⟨rfl, hd⟩
                      replace HOA := Lib.hid (HOA.out.below hd)
                      replace HD := Lib.hid (HD.out.trans (hd.mono HD.out.size))
                      replace HW1 := Lib.hid (HW1.out.trans (hd.mono HW1.out.size))
                      clear hd
                      cases y58
                      · replace HB49 := Lib.hid (ifF Bool.false_ne_true HB49.out)
                        obtain rfl := Option.some.inj HB49.out
                        replace HL1 := Lib.hid (ifF (by first | exact Bool.false_ne_true | exact not_false) HL1.out)
                        go_wp2_with fail
                        go_roundg g1
                        case measure => omega
                        case rel => exact ⟨(wrap64 (x4 + 1)), rfl, HW1, HL1⟩
                      · replace HB49 := Lib.hid (ifT rfl HB49.out)
                        obtain rfl := Option.some.inj HB49.out
                        replace HL1 := Lib.hid (ifT (by first | rfl | trivial) HL1.out)
                        obtain rfl := Option.some.inj HL1.out
                        have hm := HM.out; try dsimp only at hm
                        replace HM := Lib.hid hm; clear hm
                        obtain rfl := Option.some.inj HM.out
                        go_wp2_with fail
                        go_ret
                        exact ⟨rfl, HD.out⟩
            · replace HB10 := Lib.hid (ifT rfl HB10.out)
              obtain rfl := Option.some.inj HB10.out
              go_wp2_with fail
              refine HC12.out.mono ?_; rintro e w' ⟨rfl, rfl⟩
              go_wp2_with fail
              try clear hc7
              obtain ⟨o62, ho, hm⟩ := obind HL1.out
              replace HL1 := Lib.hid hm; have HL2 := Lib.hid ho; clear hm ho
              go_loopg [11, 12] F (fun gg ux65 ux66 wr => ∃ (x63 : Bool) (x64 : Int), ux65 = .bool x63 ∧ ux66 = .int .i64 x64 ∧ Hid (Below W6.heap.size W6 wr) ∧ Hid (L3_fits_L2 F (L3_fits F d) (v1) (v2) (v3) (((v3).length : Int)) (x4) gg x63 x64 = some o62))
              case atStart => exact ⟨false, 0, rfl, rfl, (Lib.hid (Below.refl _ _)), HL2⟩
              case round =>
                obtain ⟨x63, x64, rfl, rfl, HW2, HL2⟩ := hrel
                rename World => W67
                have hd := HW2.out
                replace HOA := Lib.hid (HOA.out.below hd)
                replace HD := Lib.hid (HD.out.trans (hd.mono HD.out.size))
                replace HW1 := Lib.hid (HW1.out.trans (hd.mono HW1.out.size))
                clear hd
                cases gk with
                | zero => exact absurd ((L3_fits_L2_0 ..).symm.trans HL2.out) (by intro h; cases h)
                | succ g2 =>
                  replace HL2 := Lib.hid ((L3_fits_L2_s ..).symm.trans HL2.out)
                  obtain ⟨b68, hb, hm⟩ := obind HL2.out
                  replace HL2 := Lib.hid hm; have HB69 := Lib.hid hb; clear hm hb
                  by_cases hc70 : x64 < ((v3).length : Int)
                  · replace HB69 := Lib.hid (ifT hc70 HB69.out)
                    have HK71 := Lib.hid hc70
                    cases x63
                    · replace HB69 := Lib.hid (ifF Bool.false_ne_true HB69.out)
                      obtain rfl := Option.some.inj HB69.out
                      replace HL2 := Lib.hid (ifF (by first | exact Bool.false_ne_true | exact not_false) HL2.out)
                      obtain rfl := Option.some.inj HL2.out
                      have hm := HL1.out; try dsimp only at hm
                      replace HL1 := Lib.hid hm; clear hm
                      obtain ⟨b72, hb, hm⟩ := obind HL1.out
                      replace HL1 := Lib.hid hm; have HB73 := Lib.hid hb; clear hm hb
                      replace HB73 := Lib.hid (ifF (by first | exact Bool.false_ne_true | exact not_false) HB73.out)
                      obtain rfl := Option.some.inj HB73.out
                      replace HL1 := Lib.hid (ifF (by first | exact Bool.false_ne_true | exact not_false) HL1.out)
                      go_wp2_with fail
                      try clear hc70
                      go_roundg g1
                      case measure => omega
                      case rel => exact ⟨(wrap64 (x4 + 1)), rfl, HW1, HL1⟩
                    · replace HB69 := Lib.hid (ifT rfl HB69.out)
                      obtain rfl := Option.some.inj HB69.out
                      replace HL2 := Lib.hid (ifT (by first | rfl | trivial) HL2.out)
                      try go_wp2_with fail
                      try clear hc70
                      obtain ⟨b74, hb, hm⟩ := obind HL2.out
                      replace HL2 := Lib.hid hm; have HB75 := Lib.hid hb; clear hm hb
                      obtain ⟨y78, hy76, hm⟩ := obind HB75.out
                      replace HB75 := Lib.hid hm; clear hm
                      have HC77 := Lib.hid (fun m => R1_Beside_ok (W67.drewN m) cap1 (ReadsL.drewN' (rdL HD.out HR1.out) m) hy76)
                      clear hy76
                      obtain ⟨y79, hy80, hm⟩ := obind HB75.out
                      replace HB75 := Lib.hid hm; clear hm
                      obtain ⟨b81, o82, ea83, _, f84, f85, f86⟩ := ReadsI.ix (rdI HD.out HR3.out) hy80
                      cases ea83
                      try simp only [Nat.zero_add, Nat.add_zero, Int.toNat_natCast, Int.toNat_zero, Int.toNat_one] at f86
                      have HY88 := Lib.hid hy80; clear hy80
                      obtain ⟨y91, hy89, hm⟩ := obind HB75.out
                      replace HB75 := Lib.hid hm; clear hm
                      have HC90 := Lib.hid (fun m => R1_Beside_ok (W67.drewN m) cap2 (ReadsL.drewN' (rdL HD.out HR2.out) m) hy89)
                      clear hy89
                      cases y78
                      · cases y91
                        · replace HB75 := Lib.hid (ifT (by decide) HB75.out)
                          obtain rfl := Option.some.inj HB75.out
                          go_quiet (first | (go_at_call 15; with_reducible exact quiet_left (HC77.out _)) | (go_at_call 15; with_reducible exact quiet_left (HC90.out _)))
                          generalize hW : World.drewN W67 _ = W92
                          have hd : Dr W67 W92 := ⟨_, hW.symm⟩
                          clear hW
                          try clear f84 f85 f86
                          replace HOA := Lib.hid (HOA.out.below (hd.below _))
                          replace HD := Lib.hid (HD.out.trans ((hd.below _).mono HD.out.size))
                          replace HW1 := Lib.hid (HW1.out.trans ((hd.below _).mono HW1.out.size))
                          replace HW2 := Lib.hid (HW2.out.trans ((hd.below _).mono HW2.out.size))
                          clear hd
                          go_wp2_with fail
                          go_roundg g2
                          case measure => omega
                          case rel => exact ⟨true, (wrap64 (x64 + 1)), rfl, rfl, HW2, HL2⟩
                        · replace HB75 := Lib.hid (ifF (by decide) HB75.out)
                          obtain rfl := Option.some.inj HB75.out
                          go_quiet (first | (go_at_call 15; with_reducible exact quiet_left (HC77.out _)) | (go_at_call 15; with_reducible exact quiet_left (HC90.out _)))
                          generalize hW : World.drewN W67 _ = W93
                          have hd : Dr W67 W93 := ⟨_, hW.symm⟩
                          clear hW
                          try clear f84 f85 f86
                          replace HOA := Lib.hid (HOA.out.below (hd.below _))
                          replace HD := Lib.hid (HD.out.trans ((hd.below _).mono HD.out.size))
                          replace HW1 := Lib.hid (HW1.out.trans ((hd.below _).mono HW1.out.size))
                          replace HW2 := Lib.hid (HW2.out.trans ((hd.below _).mono HW2.out.size))
                          clear hd
                          go_wp2_with fail
                          go_roundg g2
                          case measure => omega
                          case rel => exact ⟨false, (wrap64 (x64 + 1)), rfl, rfl, HW2, HL2⟩
                      · cases y91
                        · replace HB75 := Lib.hid (ifF (by decide) HB75.out)
                          obtain rfl := Option.some.inj HB75.out
                          go_quiet (first | (go_at_call 15; with_reducible exact quiet_left (HC77.out _)) | (go_at_call 15; with_reducible exact quiet_left (HC90.out _)))
                          generalize hW : World.drewN W67 _ = W94
                          have hd : Dr W67 W94 := ⟨_, hW.symm⟩
                          clear hW
                          try clear f84 f85 f86
                          replace HOA := Lib.hid (HOA.out.below (hd.below _))
                          replace HD := Lib.hid (HD.out.trans ((hd.below _).mono HD.out.size))
                          replace HW1 := Lib.hid (HW1.out.trans ((hd.below _).mono HW1.out.size))
                          replace HW2 := Lib.hid (HW2.out.trans ((hd.below _).mono HW2.out.size))
                          clear hd
                          go_wp2_with fail
                          go_roundg g2
                          case measure => omega
                          case rel => exact ⟨false, (wrap64 (x64 + 1)), rfl, rfl, HW2, HL2⟩
                        · replace HB75 := Lib.hid (ifT (by decide) HB75.out)
                          obtain rfl := Option.some.inj HB75.out
                          go_quiet (first | (go_at_call 15; with_reducible exact quiet_left (HC77.out _)) | (go_at_call 15; with_reducible exact quiet_left (HC90.out _)))
                          generalize hW : World.drewN W67 _ = W95
                          have hd : Dr W67 W95 := ⟨_, hW.symm⟩
                          clear hW
                          try clear f84 f85 f86
                          replace HOA := Lib.hid (HOA.out.below (hd.below _))
                          replace HD := Lib.hid (HD.out.trans ((hd.below _).mono HD.out.size))
                          replace HW1 := Lib.hid (HW1.out.trans ((hd.below _).mono HW1.out.size))
                          replace HW2 := Lib.hid (HW2.out.trans ((hd.below _).mono HW2.out.size))
                          clear hd
                          go_wp2_with fail
                          go_roundg g2
                          case measure => omega
                          case rel => exact ⟨true, (wrap64 (x64 + 1)), rfl, rfl, HW2, HL2⟩
                  · replace HB69 := Lib.hid (ifF hc70 HB69.out)
                    have hc70d := decide_eq_false hc70
                    have HK71 := Lib.hid hc70
                    obtain rfl := Option.some.inj HB69.out
                    replace HL2 := Lib.hid (ifF (by first | exact Bool.false_ne_true | exact not_false) HL2.out)
                    obtain rfl := Option.some.inj HL2.out
                    have hm := HL1.out; try dsimp only at hm
                    replace HL1 := Lib.hid hm; clear hm
                    obtain ⟨b96, hb, hm⟩ := obind HL1.out
                    replace HL1 := Lib.hid hm; have HB97 := Lib.hid hb; clear hm hb
                    cases x63
                    · replace HB97 := Lib.hid (ifF Bool.false_ne_true HB97.out)
                      obtain rfl := Option.some.inj HB97.out
                      replace HL1 := Lib.hid (ifF (by first | exact Bool.false_ne_true | exact not_false) HL1.out)
                      go_wp2_with fail
                      try clear hc70 hc70d
                      go_roundg g1
                      case measure => omega
                      case rel => exact ⟨(wrap64 (x4 + 1)), rfl, HW1, HL1⟩
                    · replace HB97 := Lib.hid (ifT rfl HB97.out)
                      obtain ⟨y100, hy98, hm⟩ := obind HB97.out
                      replace HB97 := Lib.hid hm; clear hm
                      have HC99 := R1_Behind_ok W67 cap3 (rdI HD.out HR3.out) hy98
                      clear hy98
                      replace HC99 := Lib.hid HC99
                      go_wp2_with fail
                      refine HC99.out.mono ?_; rintro e W101 ⟨V102, rfl, ho, hd⟩
                      try clear hc70 hc70d
                      replace HOA := Lib.hid (HOA.out.call hd HD.out.size ho); clear ho
                      replace HD := Lib.hid (HD.out.trans (hd.mono HD.out.size))
                      replace HW1 := Lib.hid (HW1.out.trans (hd.mono HW1.out.size))
                      clear hd
                      obtain ⟨y106, hy104, hm⟩ := obind HB97.out
                      replace HB97 := Lib.hid hm; clear hm
                      obtain ⟨A107, cap108, he, _⟩ := HP.open_I HOA.out (List.Mem.head _)
                      subst he
                      have HC105 := ih W101 cap1 (rdL HD.out HR1.out) cap2 (rdL HD.out HR2.out) cap108 (HP.rd_I HOA.out (List.Mem.head _)) hy104
                      clear hy104
                      replace HC105 := Lib.hid HC105
                      go_wp2_with fail
                      refine HC105.out.mono ?_; rintro e W109 ⟨rfl, hd⟩
                      replace HOA := Lib.hid (HOA.out.below hd)
                      replace HD := Lib.hid (HD.out.trans (hd.mono HD.out.size))
                      replace HW1 := Lib.hid (HW1.out.trans (hd.mono HW1.out.size))
                      clear hd
                      cases y106
                      · replace HB97 := Lib.hid (ifF Bool.false_ne_true HB97.out)
                        obtain rfl := Option.some.inj HB97.out
                        replace HL1 := Lib.hid (ifF (by first | exact Bool.false_ne_true | exact not_false) HL1.out)
                        go_wp2_with fail
                        go_roundg g1
                        case measure => omega
                        case rel => exact ⟨(wrap64 (x4 + 1)), rfl, HW1, HL1⟩
                      · replace HB97 := Lib.hid (ifT rfl HB97.out)
                        obtain rfl := Option.some.inj HB97.out
                        replace HL1 := Lib.hid (ifT (by first | rfl | trivial) HL1.out)
                        obtain rfl := Option.some.inj HL1.out
                        have hm := HM.out; try dsimp only at hm
                        replace HM := Lib.hid hm; clear hm
                        obtain rfl := Option.some.inj HM.out
                        go_wp2_with fail
                        go_ret
                        exact ⟨rfl, HD.out⟩
          · replace HL1 := Lib.hid (ifF hc7 HL1.out)
            have hc7d := decide_eq_false hc7
            have HK8 := Lib.hid hc7
            obtain rfl := Option.some.inj HL1.out
            have hm := HM.out; try dsimp only at hm
            replace HM := Lib.hid hm; clear hm
            obtain rfl := Option.some.inj HM.out
            go_wp2_with fail
            go_ret
            exact ⟨(by first | rfl | (refine congrArg (fun b => Ending.returned (Value.bool b)) ?_; first | (exact decide_eq_true (by omega)) | (exact decide_eq_false (by omega)) | (have q := hc7; rw [bne_iff_ne] at q ⊢; omega) | (have q := hc7; rw [bne_eq_false_iff_eq] at q ⊢; omega) | (have q := hc7; rw [beq_iff_eq] at q ⊢; omega) | (have q := hc7; rw [beq_eq_false_iff_ne] at q ⊢; omega) | (have q := hc7d; rw [bne_iff_ne] at q ⊢; omega) | (have q := hc7d; rw [bne_eq_false_iff_eq] at q ⊢; omega) | (have q := hc7d; rw [beq_iff_eq] at q ⊢; omega) | (have q := hc7d; rw [beq_eq_false_iff_ne] at q ⊢; omega) | exact hc7 | (rw [hc7]; rfl) | exact hc7d | (rw [hc7d]; rfl))), HD.out⟩
def L3_TreeSame (F : Nat) (v0 : Int) (v1 : List (Int × Int)) (v2 : List (Int × Int)) : Option (Bool) := (L3_treeFact F ).bind fun y1 => (if y1 = true then (tree_Name F (v0) (v1)).bind fun y2 => (tree_Name F (v0) (v2)).bind fun y3 => ((if (y2.2 != 0) = true then some true else if (y3.2 != 0) = true then some true else some false).bind fun b4 => if b4 = true then (if (y2.2 == 0) = true then some true else if ((y2.1).toList.isEmpty) = true then some true else some false).bind fun b5 => some (b5) else (((R3_Tree F (v0) (v1)).bind fun y7 => if (y7 != 0) = true then some true else (R3_Tree F (v0) (v2)).bind fun y8 => if (y8 != 0) = true then some true else some false).bind fun b6 => if b6 = true then some (false) else ((if ((y2.1).toList == (y3.1).toList) = true then some true else some false).bind fun b10 => (L3_fits F F (v0) (v1) (v2) ([])).bind fun y11 => if (b10 == y11) = true then some true else some false).bind fun b9 => some (b9))) else some (false))
set_option maxRecDepth 100000 in
set_option maxHeartbeats 4000000 in
theorem L3_TreeSame_ok {F : Nat} {v0 : Int} {v1 : List (Int × Int)} {A1 : Option Addr} {v2 : List (Int × Int)} {A2 : Option Addr} {r : Bool} (w : World) (cap1 : Nat) (hr1 : ReadsL w w.heap.size A1 v1) (cap2 : Nat) (hr2 : ReadsL w w.heap.size A2 v2) (h : L3_TreeSame F v0 v1 v2 = some r) :
    Calls Try.prog 4 #[.int .i64 v0, .slice A1 v1.length cap1, .slice A2 v2.length cap2] w fun e w' => e = .returned (.bool r) ∧ Below w.heap.size w w' := by
  have HR1 := Lib.hid hr1; clear hr1
  have HR2 := Lib.hid hr2; clear hr2
  have HD := Lib.hid (Below.refl w.heap.size w)
  have HOA := Lib.hid (HP.nil (W := w) (B := w.heap.size))
  unfold L3_TreeSame at h
  have HM := Lib.hid h; clear h
  go_enter Try.func4, Try.ntmps4
  obtain ⟨y3, hy1, hm⟩ := obind HM.out
  replace HM := Lib.hid hm; clear hm
  have HC2 := L3_treeFact_ok w  hy1
  clear hy1
  replace HC2 := Lib.hid HC2
  go_wp2_with fail
  refine HC2.out.mono ?_; rintro e W4 ⟨rfl, hd⟩
  replace HOA := Lib.hid (HOA.out.below hd)
  replace HD := Lib.hid (HD.out.trans (hd.mono HD.out.size))
  clear hd
  cases y3
  · replace HM := Lib.hid (ifF Bool.false_ne_true HM.out)
    obtain rfl := Option.some.inj HM.out
    go_wp2_with fail
    go_ret
    exact ⟨rfl, HD.out⟩
  · replace HM := Lib.hid (ifT rfl HM.out)
    obtain ⟨⟨y7, y8⟩, hy5, hm⟩ := obind HM.out
    dsimp only at hm
    replace HM := Lib.hid hm; clear hm
    have HC6 := tree_Name_ok W4 cap1 (rdL HD.out HR1.out) hy5
    clear hy5
    replace HC6 := Lib.hid HC6
    go_wp2_with fail
    refine HC6.out.mono ?_; rintro e W9 ⟨rfl, hd⟩
    replace HOA := Lib.hid (HOA.out.below hd)
    replace HD := Lib.hid (HD.out.trans (hd.mono HD.out.size))
    clear hd
    obtain ⟨⟨y12, y13⟩, hy10, hm⟩ := obind HM.out
    dsimp only at hm
    replace HM := Lib.hid hm; clear hm
    have HC11 := tree_Name_ok W9 cap2 (rdL HD.out HR2.out) hy10
    clear hy10
    replace HC11 := Lib.hid HC11
    go_wp2_with fail
    refine HC11.out.mono ?_; rintro e W14 ⟨rfl, hd⟩
    replace HOA := Lib.hid (HOA.out.below hd)
    replace HD := Lib.hid (HD.out.trans (hd.mono HD.out.size))
    clear hd
    go_upto_region 6 with (fail)
    obtain ⟨b15, hb, hm⟩ := obind HM.out
    replace HM := Lib.hid hm; have HB16 := Lib.hid hb; clear hm hb
    go_cut [32] (fun uq wr => uq = .bool b15 ∧ Hid (Below W14.heap.size W14 wr))
    case first =>
      have HWC17 := Lib.hid (Below.refl W14.heap.size W14)
      by_cases hz18 : y8 = 0
      · subst hz18
        try simp only [errV_zero]
        replace HB16 := Lib.hid (ifF (by decide) HB16.out)
        by_cases hz20 : y13 = 0
        · subst hz20
          try simp only [errV_zero]
          replace HB16 := Lib.hid (ifF (by decide) HB16.out)
          cases Option.some.inj HB16.out
          try go_wp2_with fail
          go_meet
          case rel => exact ⟨rfl, HWC17⟩
        · try rw [errV_pos _ hz20]
          have HZ21 := Lib.hid hz20; clear hz20
          replace HB16 := Lib.hid (ifT (bne_iff_ne.2 HZ21.out) HB16.out)
          cases Option.some.inj HB16.out
          try go_wp2_with fail
          try simp only [← errV_pos _ HZ21.out]
          go_meet
          case rel => exact ⟨rfl, HWC17⟩
      · try rw [errV_pos _ hz18]
        have HZ19 := Lib.hid hz18; clear hz18
        replace HB16 := Lib.hid (ifT (bne_iff_ne.2 HZ19.out) HB16.out)
        cases Option.some.inj HB16.out
        try go_wp2_with fail
        try simp only [← errV_pos _ HZ19.out]
        go_meet
        case rel => exact ⟨rfl, HWC17⟩
    case rest =>
      obtain ⟨rfl, HWC17⟩ := hcut
      rename World => W22
      have hd := HWC17.out
      replace HOA := Lib.hid (HOA.out.below hd)
      replace HD := Lib.hid (HD.out.trans (hd.mono HD.out.size))
      clear hd
      cases b15
      · replace HM := Lib.hid (ifF Bool.false_ne_true HM.out)
        go_upto_region 8 with (fail)
        obtain ⟨b23, hb, hm⟩ := obind HM.out
        replace HM := Lib.hid hm; have HB24 := Lib.hid hb; clear hm hb
        go_cut [48] (fun uq wr => uq = .bool b23 ∧ Hid (Below W22.heap.size W22 wr))
        case first =>
          have HWC25 := Lib.hid (Below.refl W22.heap.size W22)
          obtain ⟨y28, hy26, hm⟩ := obind HB24.out
          replace HB24 := Lib.hid hm; clear hm
          have HC27 := R3_Tree_ok W22 cap1 (rdL HD.out HR1.out) hy26
          clear hy26
          replace HC27 := Lib.hid HC27
          go_wp2_with fail
          refine HC27.out.mono ?_; rintro e W29 ⟨rfl, hd⟩
          replace HOA := Lib.hid (HOA.out.below hd)
          replace HD := Lib.hid (HD.out.trans (hd.mono HD.out.size))
          replace HWC25 := Lib.hid (HWC25.out.trans (hd.mono HWC25.out.size))
          clear hd
          rcases Bool.eq_false_or_eq_true (y28 != 0) with hc30 | hc30
          · replace HB24 := Lib.hid (ifT hc30 HB24.out)
            have HK31 := Lib.hid hc30
            cases Option.some.inj HB24.out
            try go_wp2_with fail
            go_meet
            case rel => exact ⟨rfl, HWC25⟩
          · replace HB24 := Lib.hid (ifF (bF hc30) HB24.out)
            have HK31 := Lib.hid hc30
            obtain ⟨y34, hy32, hm⟩ := obind HB24.out
            replace HB24 := Lib.hid hm; clear hm
            have HC33 := R3_Tree_ok W29 cap2 (rdL HD.out HR2.out) hy32
            clear hy32
            replace HC33 := Lib.hid HC33
            go_wp2_with fail
            refine HC33.out.mono ?_; rintro e W35 ⟨rfl, hd⟩
            try clear hc30
            replace HOA := Lib.hid (HOA.out.below hd)
            replace HD := Lib.hid (HD.out.trans (hd.mono HD.out.size))
            replace HWC25 := Lib.hid (HWC25.out.trans (hd.mono HWC25.out.size))
            clear hd
            rcases Bool.eq_false_or_eq_true (y34 != 0) with hc36 | hc36
            · replace HB24 := Lib.hid (ifT hc36 HB24.out)
              have HK37 := Lib.hid hc36
              cases Option.some.inj HB24.out
              try go_wp2_with fail
              go_meet
              case rel => exact ⟨rfl, HWC25⟩
            · replace HB24 := Lib.hid (ifF (bF hc36) HB24.out)
              have HK37 := Lib.hid hc36
              cases Option.some.inj HB24.out
              try go_wp2_with fail
              go_meet
              case rel => exact ⟨rfl, HWC25⟩
        case rest =>
          obtain ⟨rfl, HWC25⟩ := hcut
          rename World => W38
          have hd := HWC25.out
          replace HOA := Lib.hid (HOA.out.below hd)
          replace HD := Lib.hid (HD.out.trans (hd.mono HD.out.size))
          clear hd
          cases b23
          · replace HM := Lib.hid (ifF Bool.false_ne_true HM.out)
            obtain ⟨b39, hb, hm⟩ := obind HM.out
            replace HM := Lib.hid hm; have HB40 := Lib.hid hb; clear hm hb
            obtain ⟨b41, hb, hm⟩ := obind HB40.out
            replace HB40 := Lib.hid hm; have HB42 := Lib.hid hb; clear hm hb
            rcases Bool.eq_false_or_eq_true (((y7).toList == (y12).toList)) with hc43 | hc43
            · replace HB42 := Lib.hid (ifT hc43 HB42.out)
              have HK44 := Lib.hid hc43
              obtain rfl := Option.some.inj HB42.out
              obtain ⟨y47, hy45, hm⟩ := obind HB40.out
              replace HB40 := Lib.hid hm; clear hm
              have HC46 := L3_fits_ok _ W38 cap1 (rdL HD.out HR1.out) cap2 (rdL HD.out HR2.out) 0 (readsI_nil (A := none)) hy45
              clear hy45
              replace HC46 := Lib.hid HC46
              go_wp2_with fail
              refine HC46.out.mono ?_; rintro e W48 ⟨rfl, hd⟩
              try clear hc43
              replace HOA := Lib.hid (HOA.out.below hd)
              replace HD := Lib.hid (HD.out.trans (hd.mono HD.out.size))
              clear hd
              cases y47
              · replace HB40 := Lib.hid (ifF (by decide) HB40.out)
                obtain rfl := Option.some.inj HB40.out
                obtain rfl := Option.some.inj HM.out
                go_wp2_with fail
                go_ret
                exact ⟨rfl, HD.out⟩
              · replace HB40 := Lib.hid (ifT (by decide) HB40.out)
                obtain rfl := Option.some.inj HB40.out
                obtain rfl := Option.some.inj HM.out
                go_wp2_with fail
                go_ret
                exact ⟨rfl, HD.out⟩
            · replace HB42 := Lib.hid (ifF (bF hc43) HB42.out)
              have HK44 := Lib.hid hc43
              obtain rfl := Option.some.inj HB42.out
              obtain ⟨y51, hy49, hm⟩ := obind HB40.out
              replace HB40 := Lib.hid hm; clear hm
              have HC50 := L3_fits_ok _ W38 cap1 (rdL HD.out HR1.out) cap2 (rdL HD.out HR2.out) 0 (readsI_nil (A := none)) hy49
              clear hy49
              replace HC50 := Lib.hid HC50
              go_wp2_with fail
              refine HC50.out.mono ?_; rintro e W52 ⟨rfl, hd⟩
              try clear hc43
              replace HOA := Lib.hid (HOA.out.below hd)
              replace HD := Lib.hid (HD.out.trans (hd.mono HD.out.size))
              clear hd
              cases y51
              · replace HB40 := Lib.hid (ifT (by decide) HB40.out)
                obtain rfl := Option.some.inj HB40.out
                obtain rfl := Option.some.inj HM.out
                go_wp2_with fail
                go_ret
                exact ⟨rfl, HD.out⟩
              · replace HB40 := Lib.hid (ifF (by decide) HB40.out)
                obtain rfl := Option.some.inj HB40.out
                obtain rfl := Option.some.inj HM.out
                go_wp2_with fail
                go_ret
                exact ⟨rfl, HD.out⟩
          · replace HM := Lib.hid (ifT rfl HM.out)
            obtain rfl := Option.some.inj HM.out
            go_wp2_with fail
            go_ret
            exact ⟨rfl, HD.out⟩
      · replace HM := Lib.hid (ifT rfl HM.out)
        obtain ⟨b53, hb, hm⟩ := obind HM.out
        replace HM := Lib.hid hm; have HB54 := Lib.hid hb; clear hm hb
        by_cases hz55 : y8 = 0
        · subst hz55
          try simp only [errV_zero]
          replace HB54 := Lib.hid (ifT (by decide) HB54.out)
          obtain rfl := Option.some.inj HB54.out
          obtain rfl := Option.some.inj HM.out
          go_wp2_with fail
          go_ret
          exact ⟨rfl, HD.out⟩
        · try rw [errV_pos _ hz55]
          have HZ56 := Lib.hid hz55; clear hz55
          replace HB54 := Lib.hid (ifF (fun h => HZ56.out (eq_of_beq h)) HB54.out)
          rcases Bool.eq_false_or_eq_true (((y7).toList.isEmpty)) with hc57 | hc57
          · replace HB54 := Lib.hid (ifT hc57 HB54.out)
            have HK58 := Lib.hid hc57
            obtain rfl := Option.some.inj HB54.out
            obtain rfl := Option.some.inj HM.out
            go_wp2_with fail
            go_ret
            exact ⟨(by first | rfl | (refine congrArg (fun b => Ending.returned (Value.bool b)) ?_; first | (exact decide_eq_true (by omega)) | (exact decide_eq_false (by omega)) | (have q := hc57; rw [bne_iff_ne] at q ⊢; omega) | (have q := hc57; rw [bne_eq_false_iff_eq] at q ⊢; omega) | (have q := hc57; rw [beq_iff_eq] at q ⊢; omega) | (have q := hc57; rw [beq_eq_false_iff_ne] at q ⊢; omega) | exact hc57 | (rw [hc57]; rfl))), HD.out⟩
          · replace HB54 := Lib.hid (ifF (bF hc57) HB54.out)
            have HK58 := Lib.hid hc57
            obtain rfl := Option.some.inj HB54.out
            obtain rfl := Option.some.inj HM.out
            go_wp2_with fail
            go_ret
            exact ⟨(by first | rfl | (refine congrArg (fun b => Ending.returned (Value.bool b)) ?_; first | (exact decide_eq_true (by omega)) | (exact decide_eq_false (by omega)) | (have q := hc57; rw [bne_iff_ne] at q ⊢; omega) | (have q := hc57; rw [bne_eq_false_iff_eq] at q ⊢; omega) | (have q := hc57; rw [beq_iff_eq] at q ⊢; omega) | (have q := hc57; rw [beq_eq_false_iff_ne] at q ⊢; omega) | exact hc57 | (rw [hc57]; rfl))), HD.out⟩
end Go.Proofs.Ytgnbholhgcbhfaa
