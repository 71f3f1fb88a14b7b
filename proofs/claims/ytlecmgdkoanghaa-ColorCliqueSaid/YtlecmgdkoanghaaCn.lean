import Derived.Test.YtlecmgdkoanghaaGR
import Derived.Test.YtlecmgdkoanghaaSlc
import Derived.Test.YtlecmgdkoanghaaBox
set_option linter.all false
set_option maxRecDepth 100000
namespace Go.Proofs.Ytlecmgdkoanghaa
open Go.RowKit
attribute [local go_sem] Oper.semAt_some
def color_can_L2 (F : Nat) (rec : (List Nat) → (List Int) → (Int) → Option (Bool)) (v0 : List Nat) (v1 : List Int) (v4 : Int) (v5 : Int) : Nat → (Int) → (Bool) → Option (Bool)
  | 0, _, _ => none
  | g+1, j, v6 => if j < ((v1).length : Int) then (ix v1 j).bind fun y => (if v6 = true then if (y != v5) = true then some true else (ix v0 v4).bind fun y2 => (sHas (y2) (j)).bind fun y3 => if y3 = true then some false else some true else some false).bind fun b1 => color_can_L2 F rec v0 v1 v4 v5 g (wrap64 (j + 1)) (b1) else some (v6)
theorem color_can_L2_0 (F : Nat) (rec : (List Nat) → (List Int) → (Int) → Option (Bool)) (v0 : List Nat) (v1 : List Int) (v4 : Int) (v5 : Int) (v6 : Bool) (j : Int) : color_can_L2 F rec v0 v1 v4 v5 0 j v6 = none := by rw [color_can_L2]
theorem color_can_L2_s (F g : Nat) (rec : (List Nat) → (List Int) → (Int) → Option (Bool)) (v0 : List Nat) (v1 : List Int) (v4 : Int) (v5 : Int) (v6 : Bool) (j : Int) : color_can_L2 F rec v0 v1 v4 v5 (g+1) j v6 = (if j < ((v1).length : Int) then (ix v1 j).bind fun y => (if v6 = true then if (y != v5) = true then some true else (ix v0 v4).bind fun y2 => (sHas (y2) (j)).bind fun y3 => if y3 = true then some false else some true else some false).bind fun b1 => color_can_L2 F rec v0 v1 v4 v5 g (wrap64 (j + 1)) (b1) else some (v6)) := by rw [color_can_L2]
def color_can_L1 (F : Nat) (rec : (List Nat) → (List Int) → (Int) → Option (Bool)) (v0 : List Nat) (v1 : List Int) (v2 : Int) (v4 : Int) : Nat → (Int) → Option ((Unit) ⊕ (Bool))
  | 0, _ => none
  | g+1, j => if j < v2 then (color_can_L2 F rec (v0) (v1) (v4) (j) F (0) (true)).bind fun o4 => ((if o4 = true then (apF v1 v4 j).bind fun y6 => (rec (v0) (y6) (v2)).bind fun y7 => if y7 = true then some true else some false else some false).bind fun b5 => if b5 = true then some (.inr (true)) else color_can_L1 F rec v0 v1 v2 v4 g (wrap64 (j + 1))) else some (.inl ())
theorem color_can_L1_0 (F : Nat) (rec : (List Nat) → (List Int) → (Int) → Option (Bool)) (v0 : List Nat) (v1 : List Int) (v2 : Int) (v4 : Int) (j : Int) : color_can_L1 F rec v0 v1 v2 v4 0 j = none := by rw [color_can_L1]
theorem color_can_L1_s (F g : Nat) (rec : (List Nat) → (List Int) → (Int) → Option (Bool)) (v0 : List Nat) (v1 : List Int) (v2 : Int) (v4 : Int) (j : Int) : color_can_L1 F rec v0 v1 v2 v4 (g+1) j = (if j < v2 then (color_can_L2 F rec (v0) (v1) (v4) (j) F (0) (true)).bind fun o4 => ((if o4 = true then (apF v1 v4 j).bind fun y6 => (rec (v0) (y6) (v2)).bind fun y7 => if y7 = true then some true else some false else some false).bind fun b5 => if b5 = true then some (.inr (true)) else color_can_L1 F rec v0 v1 v2 v4 g (wrap64 (j + 1))) else some (.inl ())) := by rw [color_can_L1]
def color_can (F : Nat) : Nat → (List Nat) → (List Int) → (Int) → Option (Bool)
  | 0, _, _, _ => none
  | d+1, v0, v1, v2 => (if (((v1).length : Int) == ((v0).length : Int)) = true then some (true) else (color_can_L1 F (color_can F d) (v0) (v1) (v2) (((v1).length : Int)) F (0)).bind fun o8 => match o8 with | .inr r => some (r) | .inl o8 => some (false))
theorem color_can_s (F d : Nat) (v0 : List Nat) (v1 : List Int) (v2 : Int) : color_can F (d+1) v0 v1 v2 = ((if (((v1).length : Int) == ((v0).length : Int)) = true then some (true) else (color_can_L1 F (color_can F d) (v0) (v1) (v2) (((v1).length : Int)) F (0)).bind fun o8 => match o8 with | .inr r => some (r) | .inl o8 => some (false))) := by rw [color_can]
theorem color_can_0 (F : Nat) (v0 : List Nat) (v1 : List Int) (v2 : Int) : color_can F 0 v0 v1 v2 = none := by rw [color_can]
set_option maxRecDepth 100000 in
set_option maxHeartbeats 4000000 in
theorem color_can_ok {F : Nat} : ∀ (d : Nat) {v0 : List Nat} {A0 : Option Addr} {v1 : List Int} {A1 : Option Addr} {v2 : Int} {r : Bool} (w : World) (cap0 : Nat) (hr0 : ReadsM w w.heap.size A0 v0) (cap1 : Nat) (hr1 : ReadsI w w.heap.size A1 v1) (hcap1 : v1.length ≤ cap1) (h : color_can F d v0 v1 v2 = some r),
    Calls Try.prog 33 #[.slice A0 v0.length cap0, .slice A1 v1.length cap1, .int .i64 v2] w fun e w' => e = .returned (.bool r) ∧ Below w.heap.size w w' := by
  intro d
  induction d with
  | zero =>
    intro v0 A0 v1 A1 v2 r w cap0 hr0 cap1 hr1 hcap1 h
    rw [color_can_0] at h; cases h
  | succ d ih =>
    intro v0 A0 v1 A1 v2 r w cap0 hr0 cap1 hr1 hcap1 h
    have HR0 := Lib.hid hr0; clear hr0
    have HR1 := Lib.hid hr1; clear hr1
    have HCAP1 := Lib.hid hcap1; clear hcap1
    have HD := Lib.hid (Below.refl w.heap.size w)
    have HOA := Lib.hid (HP.nil (W := w) (B := w.heap.size))
    rw [color_can_s] at h
    have HM := Lib.hid h; clear h
    go_enter Try.func33, Try.ntmps33
    rcases Bool.eq_false_or_eq_true (((v1).length : Int) == ((v0).length : Int)) with hc1 | hc1
    · replace HM := Lib.hid (ifT hc1 HM.out)
      have HK2 := Lib.hid hc1
      obtain rfl := Option.some.inj HM.out
      go_wp2_with fail
      go_ret
      exact ⟨(by first | rfl | (refine congrArg (fun b => Ending.returned (Value.bool b)) ?_; first | (exact decide_eq_true (by omega)) | (exact decide_eq_false (by omega)) | (have q := hc1; rw [bne_iff_ne] at q ⊢; omega) | (have q := hc1; rw [bne_eq_false_iff_eq] at q ⊢; omega) | (have q := hc1; rw [beq_iff_eq] at q ⊢; omega) | (have q := hc1; rw [beq_eq_false_iff_ne] at q ⊢; omega))), HD.out⟩
    · replace HM := Lib.hid (ifF (bF hc1) HM.out)
      have HK2 := Lib.hid hc1
      go_wp2_with fail
      try clear hc1
      obtain ⟨o3, ho, hm⟩ := obind HM.out
      replace HM := Lib.hid hm; have HL1 := Lib.hid ho; clear hm ho
      go_loopg [19] F (fun gg uj wr => ∃ (j4 : Int), uj = .int .i64 j4 ∧ Hid (Below w.heap.size w wr) ∧ Hid (HP wr w.heap.size []) ∧ Hid (color_can_L1 F (color_can F d) (v0) (v1) (v2) (((v1).length : Int)) gg j4 = some o3))
      case atStart => exact ⟨0, rfl, HD, HOA, HL1⟩
      case round =>
        obtain ⟨j4, rfl, HD, HOA, HL1⟩ := hrel
        rename World => W5
        cases gk with
        | zero => exact absurd ((color_can_L1_0 ..).symm.trans HL1.out) (by intro h; cases h)
        | succ g1 =>
          replace HL1 := Lib.hid ((color_can_L1_s ..).symm.trans HL1.out)
          by_cases hc6 : j4 < v2
          · replace HL1 := Lib.hid (ifT hc6 HL1.out)
            have HK7 := Lib.hid hc6
            go_wp2_with fail
            try clear hc6
            obtain ⟨o8, ho, hm⟩ := obind HL1.out
            replace HL1 := Lib.hid hm; have HL2 := Lib.hid ho; clear hm ho
            go_loopg [24, 9] F (fun gg uj ux10 wr => ∃ (j11 : Int) (x9 : Bool), uj = .int .i64 j11 ∧ ux10 = .bool x9 ∧ Hid (Below W5.heap.size W5 wr) ∧ Hid (color_can_L2 F (color_can F d) (v0) (v1) (((v1).length : Int)) (j4) gg j11 x9 = some o8))
            case atStart => exact ⟨0, true, rfl, rfl, (Lib.hid (Below.refl _ _)), HL2⟩
            case round =>
              obtain ⟨j11, x9, rfl, rfl, HW2, HL2⟩ := hrel
              rename World => W12
              have hd := HW2.out
              replace HOA := Lib.hid (HOA.out.below hd)
              replace HD := Lib.hid (HD.out.trans (hd.mono HD.out.size))
              clear hd
              cases gk with
              | zero => exact absurd ((color_can_L2_0 ..).symm.trans HL2.out) (by intro h; cases h)
              | succ g2 =>
                replace HL2 := Lib.hid ((color_can_L2_s ..).symm.trans HL2.out)
                by_cases hc13 : j11 < ((v1).length : Int)
                · replace HL2 := Lib.hid (ifT hc13 HL2.out)
                  have HK14 := Lib.hid hc13
                  obtain ⟨y15, hy16, hm⟩ := obind HL2.out
                  replace HL2 := Lib.hid hm; clear hm
                  obtain ⟨b17, o18, ea19, _, f20, f21, f22⟩ := ReadsI.ix (rdI HD.out HR1.out) hy16
                  cases ea19
                  try simp only [Nat.zero_add, Nat.add_zero, Int.toNat_natCast, Int.toNat_zero, Int.toNat_one] at f22
                  have HY24 := Lib.hid hy16; clear hy16
                  obtain ⟨b25, hb, hm⟩ := obind HL2.out
                  replace HL2 := Lib.hid hm; have HB26 := Lib.hid hb; clear hm hb
                  cases x9
                  · replace HB26 := Lib.hid (ifF Bool.false_ne_true HB26.out)
                    obtain rfl := Option.some.inj HB26.out
                    go_wp2_with fail
                    try clear hc13 f20 f21 f22
                    go_roundg g2
                    case measure => omega
                    case rel => exact ⟨(wrap64 (j11 + 1)), false, rfl, rfl, HW2, HL2⟩
                  · replace HB26 := Lib.hid (ifT rfl HB26.out)
                    rcases Bool.eq_false_or_eq_true (y15 != j4) with hc27 | hc27
                    · replace HB26 := Lib.hid (ifT hc27 HB26.out)
                      have HK28 := Lib.hid hc27
                      obtain rfl := Option.some.inj HB26.out
                      go_wp2_with fail
                      try clear hc13 f20 f21 f22 hc27
                      go_roundg g2
                      case measure => omega
                      case rel => exact ⟨(wrap64 (j11 + 1)), true, rfl, rfl, HW2, HL2⟩
                    · replace HB26 := Lib.hid (ifF (bF hc27) HB26.out)
                      have HK28 := Lib.hid hc27
                      obtain ⟨y29, hy30, hm⟩ := obind HB26.out
                      replace HB26 := Lib.hid hm; clear hm
                      obtain ⟨b31, o32, ea33, _, f34, f35, f36⟩ := ReadsM.ix (rdM HD.out HR0.out) hy30
                      cases ea33
                      try simp only [Nat.zero_add, Nat.add_zero, Int.toNat_natCast, Int.toNat_zero, Int.toNat_one] at f36
                      have HY38 := Lib.hid hy30; clear hy30
                      obtain ⟨y41, hy39, hm⟩ := obind HB26.out
                      replace HB26 := Lib.hid hm; clear hm
                      have HC40 := sHas_ok W12  hy39
                      clear hy39
                      replace HC40 := Lib.hid HC40
                      cases y41
                      · replace HB26 := Lib.hid (ifF Bool.false_ne_true HB26.out)
                        obtain rfl := Option.some.inj HB26.out
                        go_wp2_with fail
                        refine HC40.out.mono ?_; rintro e w' ⟨rfl, rfl⟩
                        go_wp2_with fail
                        try clear hc13 f20 f21 f22 hc27 f34 f35 f36
                        go_roundg g2
                        case measure => omega
                        case rel => exact ⟨(wrap64 (j11 + 1)), true, rfl, rfl, HW2, HL2⟩
                      · replace HB26 := Lib.hid (ifT rfl HB26.out)
                        obtain rfl := Option.some.inj HB26.out
                        go_wp2_with fail
                        refine HC40.out.mono ?_; rintro e w' ⟨rfl, rfl⟩
                        go_wp2_with fail
                        try clear hc13 f20 f21 f22 hc27 f34 f35 f36
                        go_roundg g2
                        case measure => omega
                        case rel => exact ⟨(wrap64 (j11 + 1)), false, rfl, rfl, HW2, HL2⟩
                · replace HL2 := Lib.hid (ifF hc13 HL2.out)
                  have hc13d := decide_eq_false hc13
                  have HK14 := Lib.hid hc13
                  obtain rfl := Option.some.inj HL2.out
                  have hm := HL1.out; try dsimp only at hm
                  replace HL1 := Lib.hid hm; clear hm
                  obtain ⟨b42, hb, hm⟩ := obind HL1.out
                  replace HL1 := Lib.hid hm; have HB43 := Lib.hid hb; clear hm hb
                  cases x9
                  · replace HB43 := Lib.hid (ifF Bool.false_ne_true HB43.out)
                    obtain rfl := Option.some.inj HB43.out
                    replace HL1 := Lib.hid (ifF (by first | exact Bool.false_ne_true | exact not_false) HL1.out)
                    go_wp2_with fail
                    try clear hc13 hc13d
                    go_roundg g1
                    case measure => omega
                    case rel => exact ⟨(wrap64 (j4 + 1)), rfl, HD, HOA, HL1⟩
                  · replace HB43 := Lib.hid (ifT rfl HB43.out)
                    obtain ⟨y44, hy45, hm⟩ := obind HB43.out
                    replace HB43 := Lib.hid hm; clear hm
                    obtain ⟨f46, hy45⟩ := apF_some hy45; subst hy45
                    have hsl47 := fun X : World => run_sliceF (W := X) (cap := cap1) (rdI HD.out HR1.out) HCAP1.out
                    skip
                    have hrd := Lib.hid (rdI HD.out HR1.out)
                    have HF := Lib.hid f46.2; clear f46
                    go_wp2_with (at_builtin; refine hp_apF _ (.tmp 51) (.tmp 53) 23 Try.underlying23 (by first | rfl | simp [Region.wanted, yielded]) rfl HOA.out hrd.out rfl rfl HF.out HD.out.size ?_; intro V48 W49 hoa hd)
                    clear hrd HF hsl47
                    try clear hc13 hc13d
                    replace HOA := Lib.hid hoa; clear hoa
                    replace HD := Lib.hid (HD.out.trans (hd.mono HD.out.size))
                    clear hd
                    obtain ⟨y53, hy51, hm⟩ := obind HB43.out
                    replace HB43 := Lib.hid hm; clear hm
                    obtain ⟨A54, cap55, he, _⟩ := HP.open_I HOA.out (List.Mem.head _)
                    subst he
                    have HC52 := ih W49 cap0 (rdM HD.out HR0.out) cap55 (HP.rd_I HOA.out (List.Mem.head _)) (HP.cap_I HOA.out (List.Mem.head _)) hy51
                    clear hy51
                    replace HC52 := Lib.hid HC52
                    go_wp2_with fail
                    refine HC52.out.mono ?_; rintro e W56 ⟨rfl, hd⟩
                    replace HOA := Lib.hid (HOA.out.below hd)
                    replace HD := Lib.hid (HD.out.trans (hd.mono HD.out.size))
                    clear hd
                    cases y53
                    · replace HB43 := Lib.hid (ifF Bool.false_ne_true HB43.out)
                      obtain rfl := Option.some.inj HB43.out
                      replace HL1 := Lib.hid (ifF (by first | exact Bool.false_ne_true | exact not_false) HL1.out)
                      go_wp2_with fail
                      replace HOA := Lib.hid (HOA.out.sub (.cons _ .slnil))
                      go_roundg g1
                      case measure => omega
                      case rel => exact ⟨(wrap64 (j4 + 1)), rfl, HD, HOA, HL1⟩
                    · replace HB43 := Lib.hid (ifT rfl HB43.out)
                      obtain rfl := Option.some.inj HB43.out
                      replace HL1 := Lib.hid (ifT (by first | rfl | trivial) HL1.out)
                      obtain rfl := Option.some.inj HL1.out
                      have hm := HM.out; try dsimp only at hm
                      replace HM := Lib.hid hm; clear hm
                      obtain rfl := Option.some.inj HM.out
                      go_wp2_with fail
                      go_ret
                      exact ⟨rfl, HD.out⟩
          · replace HL1 := Lib.hid (ifF hc6 HL1.out)
            have hc6d := decide_eq_false hc6
            have HK7 := Lib.hid hc6
            obtain rfl := Option.some.inj HL1.out
            have hm := HM.out; try dsimp only at hm
            replace HM := Lib.hid hm; clear hm
            obtain rfl := Option.some.inj HM.out
            go_wp2_with fail
            go_ret
            exact ⟨(by first | rfl | (refine congrArg (fun b => Ending.returned (Value.bool b)) ?_; first | (exact decide_eq_true (by omega)) | (exact decide_eq_false (by omega)) | (have q := hc6; rw [bne_iff_ne] at q ⊢; omega) | (have q := hc6; rw [bne_eq_false_iff_eq] at q ⊢; omega) | (have q := hc6; rw [beq_iff_eq] at q ⊢; omega) | (have q := hc6; rw [beq_eq_false_iff_ne] at q ⊢; omega) | (have q := hc6d; rw [bne_iff_ne] at q ⊢; omega) | (have q := hc6d; rw [bne_eq_false_iff_eq] at q ⊢; omega) | (have q := hc6d; rw [beq_iff_eq] at q ⊢; omega) | (have q := hc6d; rw [beq_eq_false_iff_ne] at q ⊢; omega))), HD.out⟩
def color_Least_L1 (F : Nat) (v5 : List Nat) : Nat → (Int) → Option (Int)
  | 0, _ => none
  | g+1, v6 => (color_can F F (v5) ([]) (v6)).bind fun y3 => if y3 = true then some (v6) else color_Least_L1 F v5 g ((wrap64 (v6 + 1)))
theorem color_Least_L1_0 (F : Nat) (v5 : List Nat) (v6 : Int) : color_Least_L1 F v5 0 v6 = none := by rw [color_Least_L1]
theorem color_Least_L1_s (F g : Nat) (v5 : List Nat) (v6 : Int) : color_Least_L1 F v5 (g+1) v6 = ((color_can F F (v5) ([]) (v6)).bind fun y3 => if y3 = true then some (v6) else color_Least_L1 F v5 g ((wrap64 (v6 + 1)))) := by rw [color_Least_L1]
def color_Least (F : Nat) (v0 : Int) (v1 : List (Int × Int)) : Option (Int × Int) := (mCheck (v0) (v1)).bind fun y1 => (if (y1 != 0) = true then some ((0, y1)) else (mBeside (v0) (v1)).bind fun y2 => (color_Least_L1 F (y2) F (1)).bind fun o4 => some ((o4, 0)))
set_option maxRecDepth 100000 in
set_option maxHeartbeats 4000000 in
theorem color_Least_ok {F : Nat} {v0 : Int} {v1 : List (Int × Int)} {A1 : Option Addr} {r : Int × Int} (w : World) (cap1 : Nat) (hr1 : ReadsL w w.heap.size A1 v1) (h : color_Least F v0 v1 = some r) :
    Calls Try.prog 9 #[.int .i64 v0, .slice A1 v1.length cap1] w fun e w' => e = .returned (.tuple #[(.int .i64 r.1), (errV 53 r.2)]) ∧ Below w.heap.size w w' := by
  have HR1 := Lib.hid hr1; clear hr1
  have HD := Lib.hid (Below.refl w.heap.size w)
  have HOA := Lib.hid (HP.nil (W := w) (B := w.heap.size))
  unfold color_Least at h
  have HM := Lib.hid h; clear h
  go_enter Try.func9, Try.ntmps9
  obtain ⟨y3, hy1, hm⟩ := obind HM.out
  replace HM := Lib.hid hm; clear hm
  have HC2 := mCheck_ok w cap1 (rdL HD.out HR1.out) hy1
  clear hy1
  by_cases hz4 : y3 = 0
  · subst hz4
    rw [errV_zero] at HC2; replace HC2 := Lib.hid HC2
    go_wp2_with fail
    refine HC2.out.mono ?_; rintro e W5 ⟨rfl, hd⟩
    replace HOA := Lib.hid (HOA.out.below hd)
    replace HD := Lib.hid (HD.out.trans (hd.mono HD.out.size))
    clear hd
    replace HM := Lib.hid (ifF (by decide) HM.out)
    obtain ⟨y10, hy8, hm⟩ := obind HM.out
    replace HM := Lib.hid hm; clear hm
    have HC9 := mBeside_ok W5 cap1 (rdL HD.out HR1.out) hy8
    clear hy8
    replace HC9 := Lib.hid HC9
    go_wp2_with fail
    refine HC9.out.mono ?_; rintro e W11 ⟨V12, rfl, ho, hd⟩
    replace HOA := Lib.hid (HOA.out.call hd HD.out.size ho); clear ho
    replace HD := Lib.hid (HD.out.trans (hd.mono HD.out.size))
    clear hd
    go_wp2_with fail
    obtain ⟨o14, ho, hm⟩ := obind HM.out
    replace HM := Lib.hid hm; have HL1 := Lib.hid ho; clear hm ho
    go_loopg [8] F (fun gg ux16 wr => ∃ (x15 : Int), ux16 = .int .i64 x15 ∧ Hid (Below W11.heap.size W11 wr) ∧ Hid (color_Least_L1 F (y10) gg x15 = some o14))
    case atStart => exact ⟨1, rfl, (Lib.hid (Below.refl _ _)), HL1⟩
    case round =>
      obtain ⟨x15, rfl, HW1, HL1⟩ := hrel
      rename World => W17
      have hd := HW1.out
      replace HOA := Lib.hid (HOA.out.below hd)
      replace HD := Lib.hid (HD.out.trans (hd.mono HD.out.size))
      clear hd
      cases gk with
      | zero => exact absurd ((color_Least_L1_0 ..).symm.trans HL1.out) (by intro h; cases h)
      | succ g1 =>
        replace HL1 := Lib.hid ((color_Least_L1_s ..).symm.trans HL1.out)
        obtain ⟨y20, hy18, hm⟩ := obind HL1.out
        replace HL1 := Lib.hid hm; clear hm
        obtain ⟨A21, cap22, he, _⟩ := HP.open_M HOA.out (List.Mem.head _)
        subst he
        have HC19 := color_can_ok _ W17 cap22 (HP.rd_M HOA.out (List.Mem.head _)) 0 (readsI_nil (A := none)) (Nat.le_refl 0) hy18
        clear hy18
        replace HC19 := Lib.hid HC19
        go_wp2_with fail
        refine HC19.out.mono ?_; rintro e W23 ⟨rfl, hd⟩
        replace HOA := Lib.hid (HOA.out.below hd)
        replace HD := Lib.hid (HD.out.trans (hd.mono HD.out.size))
        replace HW1 := Lib.hid (HW1.out.trans (hd.mono HW1.out.size))
        clear hd
        cases y20
        · replace HL1 := Lib.hid (ifF Bool.false_ne_true HL1.out)
          go_wp2_with fail
          go_roundg g1
          case measure => omega
          case rel => exact ⟨(wrap64 (x15 + 1)), rfl, HW1, HL1⟩
        · replace HL1 := Lib.hid (ifT rfl HL1.out)
          obtain rfl := Option.some.inj HL1.out
          have hm := HM.out; try dsimp only at hm
          replace HM := Lib.hid hm; clear hm
          obtain rfl := Option.some.inj HM.out
          go_wp2_with fail
          go_ret2
          exact ⟨rfl, HD.out⟩
  · rw [errV_pos _ hz4] at HC2; replace HC2 := Lib.hid HC2
    go_wp2_with fail
    refine HC2.out.mono ?_; rintro e W6 ⟨rfl, hd⟩
    replace HOA := Lib.hid (HOA.out.below hd)
    replace HD := Lib.hid (HD.out.trans (hd.mono HD.out.size))
    clear hd
    have HZ7 := Lib.hid hz4; clear hz4
    replace HM := Lib.hid (ifT (bne_iff_ne.2 HZ7.out) HM.out)
    obtain rfl := Option.some.inj HM.out
    go_wp2_with fail
    go_ret2
    exact ⟨(by first | (rw [errV_pos _ HZ7.out]; rfl) | rw [errV_pos _ HZ7.out]), HD.out⟩
end Go.Proofs.Ytlecmgdkoanghaa
