import Derived.Test.YtlecmgdkoanghaaDoorGR
import Derived.Test.YtlecmgdkoanghaaDoorSlc
import Derived.Test.YtlecmgdkoanghaaDoorBox
set_option linter.all false
set_option maxRecDepth 100000
namespace Go.Proofs.YtlecmgdkoanghaaDoor
open Go.RowKit
attribute [local go_sem] Oper.semAt_some
def R3_Enough_L2 (F : Nat) (rec : (Int) → (List (Int × Int)) → (List Int) → (Int) → Option (Bool)) (v1 : List (Int × Int)) (v2 : List Int) (v5 : Int) (v6 : Int) : Nat → (Bool) → (Int) → Option (Bool × Int)
  | 0, _, _ => none
  | g+1, v7, v8 => if v8 < v5 then (((ix v2 v8).bind fun y2 => if (y2 == v6) = true then (R1_Beside F (v1) (v5) (v8)).bind fun y3 => if y3 = true then some true else some false else some false).bind fun b1 => if b1 = true then R3_Enough_L2 F rec v1 v2 v5 v6 g (false) ((wrap64 (v8 + 1))) else R3_Enough_L2 F rec v1 v2 v5 v6 g (v7) ((wrap64 (v8 + 1)))) else some (v7, v8)
theorem R3_Enough_L2_0 (F : Nat) (rec : (Int) → (List (Int × Int)) → (List Int) → (Int) → Option (Bool)) (v1 : List (Int × Int)) (v2 : List Int) (v5 : Int) (v6 : Int) (v7 : Bool) (v8 : Int) : R3_Enough_L2 F rec v1 v2 v5 v6 0 v7 v8 = none := by rw [R3_Enough_L2]
theorem R3_Enough_L2_s (F g : Nat) (rec : (Int) → (List (Int × Int)) → (List Int) → (Int) → Option (Bool)) (v1 : List (Int × Int)) (v2 : List Int) (v5 : Int) (v6 : Int) (v7 : Bool) (v8 : Int) : R3_Enough_L2 F rec v1 v2 v5 v6 (g+1) v7 v8 = (if v8 < v5 then (((ix v2 v8).bind fun y2 => if (y2 == v6) = true then (R1_Beside F (v1) (v5) (v8)).bind fun y3 => if y3 = true then some true else some false else some false).bind fun b1 => if b1 = true then R3_Enough_L2 F rec v1 v2 v5 v6 g (false) ((wrap64 (v8 + 1))) else R3_Enough_L2 F rec v1 v2 v5 v6 g (v7) ((wrap64 (v8 + 1)))) else some (v7, v8)) := by rw [R3_Enough_L2]
def R3_Enough_L1 (F : Nat) (rec : (Int) → (List (Int × Int)) → (List Int) → (Int) → Option (Bool)) (v0 : Int) (v1 : List (Int × Int)) (v2 : List Int) (v3 : Int) (v5 : Int) : Nat → (Int) → Option ((Int) ⊕ (Bool))
  | 0, _ => none
  | g+1, v6 => if v6 < v3 then (R3_Enough_L2 F rec (v1) (v2) (v5) (v6) F (true) (0)).bind fun o4 => ((if o4.1 = true then (R1_Behind F (v2) (v6)).bind fun y6 => (rec (v0) (v1) (y6) (v3)).bind fun y7 => if y7 = true then some true else some false else some false).bind fun b5 => if b5 = true then some (.inr (true)) else R3_Enough_L1 F rec v0 v1 v2 v3 v5 g ((wrap64 (v6 + 1)))) else some (.inl (v6))
theorem R3_Enough_L1_0 (F : Nat) (rec : (Int) → (List (Int × Int)) → (List Int) → (Int) → Option (Bool)) (v0 : Int) (v1 : List (Int × Int)) (v2 : List Int) (v3 : Int) (v5 : Int) (v6 : Int) : R3_Enough_L1 F rec v0 v1 v2 v3 v5 0 v6 = none := by rw [R3_Enough_L1]
theorem R3_Enough_L1_s (F g : Nat) (rec : (Int) → (List (Int × Int)) → (List Int) → (Int) → Option (Bool)) (v0 : Int) (v1 : List (Int × Int)) (v2 : List Int) (v3 : Int) (v5 : Int) (v6 : Int) : R3_Enough_L1 F rec v0 v1 v2 v3 v5 (g+1) v6 = (if v6 < v3 then (R3_Enough_L2 F rec (v1) (v2) (v5) (v6) F (true) (0)).bind fun o4 => ((if o4.1 = true then (R1_Behind F (v2) (v6)).bind fun y6 => (rec (v0) (v1) (y6) (v3)).bind fun y7 => if y7 = true then some true else some false else some false).bind fun b5 => if b5 = true then some (.inr (true)) else R3_Enough_L1 F rec v0 v1 v2 v3 v5 g ((wrap64 (v6 + 1)))) else some (.inl (v6))) := by rw [R3_Enough_L1]
def R3_Enough (F : Nat) : Nat → (Int) → (List (Int × Int)) → (List Int) → (Int) → Option (Bool)
  | 0, _, _, _, _ => none
  | d+1, v0, v1, v2, v3 => (if (((v2).length : Int) == v0) = true then some (true) else (R3_Enough_L1 F (R3_Enough F d) (v0) (v1) (v2) (v3) (((v2).length : Int)) F (0)).bind fun o8 => match o8 with | .inr r => some (r) | .inl o8 => some (false))
theorem R3_Enough_s (F d : Nat) (v0 : Int) (v1 : List (Int × Int)) (v2 : List Int) (v3 : Int) : R3_Enough F (d+1) v0 v1 v2 v3 = ((if (((v2).length : Int) == v0) = true then some (true) else (R3_Enough_L1 F (R3_Enough F d) (v0) (v1) (v2) (v3) (((v2).length : Int)) F (0)).bind fun o8 => match o8 with | .inr r => some (r) | .inl o8 => some (false))) := by rw [R3_Enough]
theorem R3_Enough_0 (F : Nat) (v0 : Int) (v1 : List (Int × Int)) (v2 : List Int) (v3 : Int) : R3_Enough F 0 v0 v1 v2 v3 = none := by rw [R3_Enough]
set_option maxRecDepth 100000 in
set_option maxHeartbeats 4000000 in
theorem R3_Enough_ok {F : Nat} : ∀ (d : Nat) {v0 : Int} {v1 : List (Int × Int)} {A1 : Option Addr} {v2 : List Int} {A2 : Option Addr} {v3 : Int} {r : Bool} (w : World) (cap1 : Nat) (hr1 : ReadsL w w.heap.size A1 v1) (cap2 : Nat) (hr2 : ReadsI w w.heap.size A2 v2) (h : R3_Enough F d v0 v1 v2 v3 = some r),
    Calls Tryd.prog 16 #[.int .i64 v0, .slice A1 v1.length cap1, .slice A2 v2.length cap2, .int .i64 v3] w fun e w' => e = .returned (.bool r) ∧ Below w.heap.size w w' := by
  intro d
  induction d with
  | zero =>
    intro v0 v1 A1 v2 A2 v3 r w cap1 hr1 cap2 hr2 h
    rw [R3_Enough_0] at h; cases h
  | succ d ih =>
    intro v0 v1 A1 v2 A2 v3 r w cap1 hr1 cap2 hr2 h
    have HR1 := Lib.hid hr1; clear hr1
    have HR2 := Lib.hid hr2; clear hr2
    have HD := Lib.hid (Below.refl w.heap.size w)
    have HOA := Lib.hid (HP.nil (W := w) (B := w.heap.size))
    rw [R3_Enough_s] at h
    have HM := Lib.hid h; clear h
    go_enter Tryd.func16, Tryd.ntmps16
    rcases Bool.eq_false_or_eq_true (((v2).length : Int) == v0) with hc1 | hc1
    · replace HM := Lib.hid (ifT hc1 HM.out)
      have HK2 := Lib.hid hc1
      obtain rfl := Option.some.inj HM.out
      go_wp2_with fail
      go_ret
      exact ⟨(by first | rfl | (refine congrArg (fun b => Ending.returned (Value.bool b)) ?_; first | (exact decide_eq_true (by omega)) | (exact decide_eq_false (by omega)) | (have q := hc1; rw [bne_iff_ne] at q ⊢; omega) | (have q := hc1; rw [bne_eq_false_iff_eq] at q ⊢; omega) | (have q := hc1; rw [beq_iff_eq] at q ⊢; omega) | (have q := hc1; rw [beq_eq_false_iff_ne] at q ⊢; omega))), HD.out⟩
    · replace HM := Lib.hid (ifF (bF hc1) HM.out)
      have HK2 := Lib.hid hc1
      go_wp2_with fail
      try clear hc1
      obtain ⟨o3, ho, hm⟩ := obind HM.out
      replace HM := Lib.hid hm; have HL1 := Lib.hid ho; clear hm ho
      go_loopg [10] F (fun gg ux5 wr => ∃ (x4 : Int), ux5 = .int .i64 x4 ∧ Hid (Below w.heap.size w wr) ∧ Hid (R3_Enough_L1 F (R3_Enough F d) (v0) (v1) (v2) (v3) (((v2).length : Int)) gg x4 = some o3))
      case atStart => exact ⟨0, rfl, (Lib.hid (Below.refl _ _)), HL1⟩
      case round =>
        obtain ⟨x4, rfl, HW1, HL1⟩ := hrel
        rename World => W6
        have hd := HW1.out
        replace HOA := Lib.hid (HOA.out.below hd)
        replace HD := Lib.hid (HD.out.trans (hd.mono HD.out.size))
        clear hd
        cases gk with
        | zero => exact absurd ((R3_Enough_L1_0 ..).symm.trans HL1.out) (by intro h; cases h)
        | succ g1 =>
          replace HL1 := Lib.hid ((R3_Enough_L1_s ..).symm.trans HL1.out)
          by_cases hc7 : x4 < v3
          · replace HL1 := Lib.hid (ifT hc7 HL1.out)
            have HK8 := Lib.hid hc7
            go_wp2_with fail
            try clear hc7
            obtain ⟨o9, ho, hm⟩ := obind HL1.out
            replace HL1 := Lib.hid hm; have HL2 := Lib.hid ho; clear hm ho
            go_loopg [11, 12] F (fun gg ux12 ux13 wr => ∃ (x10 : Bool) (x11 : Int), ux12 = .bool x10 ∧ ux13 = .int .i64 x11 ∧ Hid (Below W6.heap.size W6 wr) ∧ Hid (R3_Enough_L2 F (R3_Enough F d) (v1) (v2) (((v2).length : Int)) (x4) gg x10 x11 = some o9))
            case atStart => exact ⟨true, 0, rfl, rfl, (Lib.hid (Below.refl _ _)), HL2⟩
            case round =>
              obtain ⟨x10, x11, rfl, rfl, HW2, HL2⟩ := hrel
              rename World => W14
              have hd := HW2.out
              replace HOA := Lib.hid (HOA.out.below hd)
              replace HD := Lib.hid (HD.out.trans (hd.mono HD.out.size))
              replace HW1 := Lib.hid (HW1.out.trans (hd.mono HW1.out.size))
              clear hd
              cases gk with
              | zero => exact absurd ((R3_Enough_L2_0 ..).symm.trans HL2.out) (by intro h; cases h)
              | succ g2 =>
                replace HL2 := Lib.hid ((R3_Enough_L2_s ..).symm.trans HL2.out)
                by_cases hc15 : x11 < ((v2).length : Int)
                · replace HL2 := Lib.hid (ifT hc15 HL2.out)
                  have HK16 := Lib.hid hc15
                  obtain ⟨b17, hb, hm⟩ := obind HL2.out
                  replace HL2 := Lib.hid hm; have HB18 := Lib.hid hb; clear hm hb
                  obtain ⟨y19, hy20, hm⟩ := obind HB18.out
                  replace HB18 := Lib.hid hm; clear hm
                  obtain ⟨b21, o22, ea23, _, f24, f25, f26⟩ := ReadsI.ix (rdI HD.out HR2.out) hy20
                  cases ea23
                  try simp only [Nat.zero_add, Nat.add_zero, Int.toNat_natCast, Int.toNat_zero, Int.toNat_one] at f26
                  have HY28 := Lib.hid hy20; clear hy20
                  rcases Bool.eq_false_or_eq_true (y19 == x4) with hc29 | hc29
                  · replace HB18 := Lib.hid (ifT hc29 HB18.out)
                    have HK30 := Lib.hid hc29
                    obtain ⟨y33, hy31, hm⟩ := obind HB18.out
                    replace HB18 := Lib.hid hm; clear hm
                    have HC32 := R1_Beside_ok W14 cap1 (rdL HD.out HR1.out) hy31
                    clear hy31
                    replace HC32 := Lib.hid HC32
                    cases y33
                    · replace HB18 := Lib.hid (ifF Bool.false_ne_true HB18.out)
                      obtain rfl := Option.some.inj HB18.out
                      replace HL2 := Lib.hid (ifF (by first | exact Bool.false_ne_true | exact not_false) HL2.out)
                      go_wp2_with fail
                      refine HC32.out.mono ?_; rintro e w' ⟨rfl, rfl⟩
                      go_wp2_with fail
                      try clear hc15 f24 f25 f26 hc29
                      go_roundg g2
                      case measure => omega
                      case rel => exact ⟨x10, (wrap64 (x11 + 1)), rfl, rfl, HW2, HL2⟩
                    · replace HB18 := Lib.hid (ifT rfl HB18.out)
                      obtain rfl := Option.some.inj HB18.out
                      replace HL2 := Lib.hid (ifT (by first | rfl | trivial) HL2.out)
                      go_wp2_with fail
                      refine HC32.out.mono ?_; rintro e w' ⟨rfl, rfl⟩
                      go_wp2_with fail
                      try clear hc15 f24 f25 f26 hc29
                      go_roundg g2
                      case measure => omega
                      case rel => exact ⟨false, (wrap64 (x11 + 1)), rfl, rfl, HW2, HL2⟩
                  · replace HB18 := Lib.hid (ifF (bF hc29) HB18.out)
                    have HK30 := Lib.hid hc29
                    obtain rfl := Option.some.inj HB18.out
                    replace HL2 := Lib.hid (ifF (by first | exact Bool.false_ne_true | exact not_false) HL2.out)
                    go_wp2_with fail
                    try clear hc15 f24 f25 f26 hc29
                    go_roundg g2
                    case measure => omega
                    case rel => exact ⟨x10, (wrap64 (x11 + 1)), rfl, rfl, HW2, HL2⟩
                · replace HL2 := Lib.hid (ifF hc15 HL2.out)
                  have hc15d := decide_eq_false hc15
                  have HK16 := Lib.hid hc15
                  obtain rfl := Option.some.inj HL2.out
                  have hm := HL1.out; try dsimp only at hm
                  replace HL1 := Lib.hid hm; clear hm
                  obtain ⟨b34, hb, hm⟩ := obind HL1.out
                  replace HL1 := Lib.hid hm; have HB35 := Lib.hid hb; clear hm hb
                  cases x10
                  · replace HB35 := Lib.hid (ifF Bool.false_ne_true HB35.out)
                    obtain rfl := Option.some.inj HB35.out
                    replace HL1 := Lib.hid (ifF (by first | exact Bool.false_ne_true | exact not_false) HL1.out)
                    go_wp2_with fail
                    try clear hc15 hc15d
                    go_roundg g1
                    case measure => omega
                    case rel => exact ⟨(wrap64 (x4 + 1)), rfl, HW1, HL1⟩
                  · replace HB35 := Lib.hid (ifT rfl HB35.out)
                    obtain ⟨y38, hy36, hm⟩ := obind HB35.out
                    replace HB35 := Lib.hid hm; clear hm
                    have HC37 := R1_Behind_ok W14 cap2 (rdI HD.out HR2.out) hy36
                    clear hy36
                    replace HC37 := Lib.hid HC37
                    go_wp2_with fail
                    refine HC37.out.mono ?_; rintro e W39 ⟨V40, rfl, ho, hd⟩
                    try clear hc15 hc15d
                    replace HOA := Lib.hid (HOA.out.call hd HD.out.size ho); clear ho
                    replace HD := Lib.hid (HD.out.trans (hd.mono HD.out.size))
                    replace HW1 := Lib.hid (HW1.out.trans (hd.mono HW1.out.size))
                    clear hd
                    obtain ⟨y44, hy42, hm⟩ := obind HB35.out
                    replace HB35 := Lib.hid hm; clear hm
                    obtain ⟨A45, cap46, he, _⟩ := HP.open_I HOA.out (List.Mem.head _)
                    subst he
                    have HC43 := ih W39 cap1 (rdL HD.out HR1.out) cap46 (HP.rd_I HOA.out (List.Mem.head _)) hy42
                    clear hy42
                    replace HC43 := Lib.hid HC43
                    go_wp2_with fail
                    refine HC43.out.mono ?_; rintro e W47 ⟨rfl, hd⟩
                    replace HOA := Lib.hid (HOA.out.below hd)
                    replace HD := Lib.hid (HD.out.trans (hd.mono HD.out.size))
                    replace HW1 := Lib.hid (HW1.out.trans (hd.mono HW1.out.size))
                    clear hd
                    cases y44
                    · replace HB35 := Lib.hid (ifF Bool.false_ne_true HB35.out)
                      obtain rfl := Option.some.inj HB35.out
                      replace HL1 := Lib.hid (ifF (by first | exact Bool.false_ne_true | exact not_false) HL1.out)
                      go_wp2_with fail
                      go_roundg g1
                      case measure => omega
                      case rel => exact ⟨(wrap64 (x4 + 1)), rfl, HW1, HL1⟩
                    · replace HB35 := Lib.hid (ifT rfl HB35.out)
                      obtain rfl := Option.some.inj HB35.out
                      replace HL1 := Lib.hid (ifT (by first | rfl | trivial) HL1.out)
                      obtain rfl := Option.some.inj HL1.out
                      have hm := HM.out; try dsimp only at hm
                      replace HM := Lib.hid hm; clear hm
                      obtain rfl := Option.some.inj HM.out
                      go_wp2_with fail
                      go_ret
                      exact ⟨rfl, HD.out⟩
          · replace HL1 := Lib.hid (ifF hc7 HL1.out)
            have hc7d := decide_eq_false hc7
            have HK8 := Lib.hid hc7
            obtain rfl := Option.some.inj HL1.out
            have hm := HM.out; try dsimp only at hm
            replace HM := Lib.hid hm; clear hm
            obtain rfl := Option.some.inj HM.out
            go_wp2_with fail
            go_ret
            exact ⟨(by first | rfl | (refine congrArg (fun b => Ending.returned (Value.bool b)) ?_; first | (exact decide_eq_true (by omega)) | (exact decide_eq_false (by omega)) | (have q := hc7; rw [bne_iff_ne] at q ⊢; omega) | (have q := hc7; rw [bne_eq_false_iff_eq] at q ⊢; omega) | (have q := hc7; rw [beq_iff_eq] at q ⊢; omega) | (have q := hc7; rw [beq_eq_false_iff_ne] at q ⊢; omega) | (have q := hc7d; rw [bne_iff_ne] at q ⊢; omega) | (have q := hc7d; rw [bne_eq_false_iff_eq] at q ⊢; omega) | (have q := hc7d; rw [beq_iff_eq] at q ⊢; omega) | (have q := hc7d; rw [beq_eq_false_iff_ne] at q ⊢; omega))), HD.out⟩
def R3_Least_L1 (F : Nat) (v0 : Int) (v1 : List (Int × Int)) : Nat → (Int) → Option (Int)
  | 0, _ => none
  | g+1, v3 => (R3_Enough F F (v0) (v1) ([]) (v3)).bind fun y1 => if y1 = true then some (v3) else R3_Least_L1 F v0 v1 g ((wrap64 (v3 + 1)))
theorem R3_Least_L1_0 (F : Nat) (v0 : Int) (v1 : List (Int × Int)) (v3 : Int) : R3_Least_L1 F v0 v1 0 v3 = none := by rw [R3_Least_L1]
theorem R3_Least_L1_s (F g : Nat) (v0 : Int) (v1 : List (Int × Int)) (v3 : Int) : R3_Least_L1 F v0 v1 (g+1) v3 = ((R3_Enough F F (v0) (v1) ([]) (v3)).bind fun y1 => if y1 = true then some (v3) else R3_Least_L1 F v0 v1 g ((wrap64 (v3 + 1)))) := by rw [R3_Least_L1]
def R3_Least (F : Nat) (v0 : Int) (v1 : List (Int × Int)) : Option (Int) := (R3_Least_L1 F (v0) (v1) F (0)).bind fun o2 => some (o2)
set_option maxRecDepth 100000 in
set_option maxHeartbeats 4000000 in
theorem R3_Least_ok {F : Nat} {v0 : Int} {v1 : List (Int × Int)} {A1 : Option Addr} {r : Int} (w : World) (cap1 : Nat) (hr1 : ReadsL w w.heap.size A1 v1) (h : R3_Least F v0 v1 = some r) :
    Calls Tryd.prog 5 #[.int .i64 v0, .slice A1 v1.length cap1] w fun e w' => e = .returned (.int .i64 r) ∧ Below w.heap.size w w' := by
  have HR1 := Lib.hid hr1; clear hr1
  have HD := Lib.hid (Below.refl w.heap.size w)
  have HOA := Lib.hid (HP.nil (W := w) (B := w.heap.size))
  unfold R3_Least at h
  have HM := Lib.hid h; clear h
  go_enter Tryd.func5, Tryd.ntmps5
  go_wp2_with fail
  obtain ⟨o1, ho, hm⟩ := obind HM.out
  replace HM := Lib.hid hm; have HL1 := Lib.hid ho; clear hm ho
  go_loopg [5] F (fun gg ux3 wr => ∃ (x2 : Int), ux3 = .int .i64 x2 ∧ Hid (Below w.heap.size w wr) ∧ Hid (R3_Least_L1 F (v0) (v1) gg x2 = some o1))
  case atStart => exact ⟨0, rfl, (Lib.hid (Below.refl _ _)), HL1⟩
  case round =>
    obtain ⟨x2, rfl, HW1, HL1⟩ := hrel
    rename World => W4
    have hd := HW1.out
    replace HOA := Lib.hid (HOA.out.below hd)
    replace HD := Lib.hid (HD.out.trans (hd.mono HD.out.size))
    clear hd
    cases gk with
    | zero => exact absurd ((R3_Least_L1_0 ..).symm.trans HL1.out) (by intro h; cases h)
    | succ g1 =>
      replace HL1 := Lib.hid ((R3_Least_L1_s ..).symm.trans HL1.out)
      obtain ⟨y7, hy5, hm⟩ := obind HL1.out
      replace HL1 := Lib.hid hm; clear hm
      have HC6 := R3_Enough_ok _ W4 cap1 (rdL HD.out HR1.out) 0 (readsI_nil (A := none)) hy5
      clear hy5
      replace HC6 := Lib.hid HC6
      go_wp2_with fail
      refine HC6.out.mono ?_; rintro e W8 ⟨rfl, hd⟩
      replace HOA := Lib.hid (HOA.out.below hd)
      replace HD := Lib.hid (HD.out.trans (hd.mono HD.out.size))
      replace HW1 := Lib.hid (HW1.out.trans (hd.mono HW1.out.size))
      clear hd
      cases y7
      · replace HL1 := Lib.hid (ifF Bool.false_ne_true HL1.out)
        go_wp2_with fail
        go_roundg g1
        case measure => omega
        case rel => exact ⟨(wrap64 (x2 + 1)), rfl, HW1, HL1⟩
      · replace HL1 := Lib.hid (ifT rfl HL1.out)
        obtain rfl := Option.some.inj HL1.out
        have hm := HM.out; try dsimp only at hm
        replace HM := Lib.hid hm; clear hm
        obtain rfl := Option.some.inj HM.out
        go_wp2_with fail
        go_ret
        exact ⟨rfl, HD.out⟩
def R3_Last_L3 (F : Nat) (v0 : Int) (v1 : List (Int × Int)) (v4 : List Int) (v8 : Int) : Nat → (Int) → (Int) → Option (Int × Int)
  | 0, _, _ => none
  | g+1, v9, v10 => if v10 < v0 then (((R1_Has F (v4) (v10)).bind fun y3 => if y3 = true then some false else (R1_Beside F (v1) (v8) (v10)).bind fun y4 => if y4 = true then some true else some false).bind fun b2 => if b2 = true then R3_Last_L3 F v0 v1 v4 v8 g ((wrap64 (v9 + 1))) ((wrap64 (v10 + 1))) else R3_Last_L3 F v0 v1 v4 v8 g (v9) ((wrap64 (v10 + 1)))) else some (v9, v10)
theorem R3_Last_L3_0 (F : Nat) (v0 : Int) (v1 : List (Int × Int)) (v4 : List Int) (v8 : Int) (v9 : Int) (v10 : Int) : R3_Last_L3 F v0 v1 v4 v8 0 v9 v10 = none := by rw [R3_Last_L3]
theorem R3_Last_L3_s (F g : Nat) (v0 : Int) (v1 : List (Int × Int)) (v4 : List Int) (v8 : Int) (v9 : Int) (v10 : Int) : R3_Last_L3 F v0 v1 v4 v8 (g+1) v9 v10 = (if v10 < v0 then (((R1_Has F (v4) (v10)).bind fun y3 => if y3 = true then some false else (R1_Beside F (v1) (v8) (v10)).bind fun y4 => if y4 = true then some true else some false).bind fun b2 => if b2 = true then R3_Last_L3 F v0 v1 v4 v8 g ((wrap64 (v9 + 1))) ((wrap64 (v10 + 1))) else R3_Last_L3 F v0 v1 v4 v8 g (v9) ((wrap64 (v10 + 1)))) else some (v9, v10)) := by rw [R3_Last_L3]
def R3_Last_L2 (F : Nat) (v0 : Int) (v1 : List (Int × Int)) (v4 : List Int) : Nat → (Int) → (Int) → (Int) → Option (Int × Int × Int)
  | 0, _, _, _ => none
  | g+1, v6, v7, v8 => if v8 < v0 then ((R1_Has F (v4) (v8)).bind fun y1 => if y1 = true then R3_Last_L2 F v0 v1 v4 g (v6) (v7) ((wrap64 (v8 + 1))) else (R3_Last_L3 F (v0) (v1) (v4) (v8) F (0) (0)).bind fun o5 => (if o5.1 < v7 then R3_Last_L2 F v0 v1 v4 g (v8) (o5.1) ((wrap64 (v8 + 1))) else R3_Last_L2 F v0 v1 v4 g (v6) (v7) ((wrap64 (v8 + 1))))) else some (v6, v7, v8)
theorem R3_Last_L2_0 (F : Nat) (v0 : Int) (v1 : List (Int × Int)) (v4 : List Int) (v6 : Int) (v7 : Int) (v8 : Int) : R3_Last_L2 F v0 v1 v4 0 v6 v7 v8 = none := by rw [R3_Last_L2]
theorem R3_Last_L2_s (F g : Nat) (v0 : Int) (v1 : List (Int × Int)) (v4 : List Int) (v6 : Int) (v7 : Int) (v8 : Int) : R3_Last_L2 F v0 v1 v4 (g+1) v6 v7 v8 = (if v8 < v0 then ((R1_Has F (v4) (v8)).bind fun y1 => if y1 = true then R3_Last_L2 F v0 v1 v4 g (v6) (v7) ((wrap64 (v8 + 1))) else (R3_Last_L3 F (v0) (v1) (v4) (v8) F (0) (0)).bind fun o5 => (if o5.1 < v7 then R3_Last_L2 F v0 v1 v4 g (v8) (o5.1) ((wrap64 (v8 + 1))) else R3_Last_L2 F v0 v1 v4 g (v6) (v7) ((wrap64 (v8 + 1))))) else some (v6, v7, v8)) := by rw [R3_Last_L2]
def R3_Last_L1 (F : Nat) (v0 : Int) (v1 : List (Int × Int)) : Nat → (List Int) → (Int) → Option (List Int × Int)
  | 0, _, _ => none
  | g+1, v4, v5 => if ((v4).length : Int) < v0 then (R3_Last_L2 F (v0) (v1) (v4) F ((-1)) (v0) (0)).bind fun o6 => (if v5 < o6.2.1 then (app v4 o6.1).bind fun y7 => R3_Last_L1 F v0 v1 g (y7) (o6.2.1) else (app v4 o6.1).bind fun y8 => R3_Last_L1 F v0 v1 g (y8) (v5)) else some (v4, v5)
theorem R3_Last_L1_0 (F : Nat) (v0 : Int) (v1 : List (Int × Int)) (v4 : List Int) (v5 : Int) : R3_Last_L1 F v0 v1 0 v4 v5 = none := by rw [R3_Last_L1]
theorem R3_Last_L1_s (F g : Nat) (v0 : Int) (v1 : List (Int × Int)) (v4 : List Int) (v5 : Int) : R3_Last_L1 F v0 v1 (g+1) v4 v5 = (if ((v4).length : Int) < v0 then (R3_Last_L2 F (v0) (v1) (v4) F ((-1)) (v0) (0)).bind fun o6 => (if v5 < o6.2.1 then (app v4 o6.1).bind fun y7 => R3_Last_L1 F v0 v1 g (y7) (o6.2.1) else (app v4 o6.1).bind fun y8 => R3_Last_L1 F v0 v1 g (y8) (v5)) else some (v4, v5)) := by rw [R3_Last_L1]
def R3_Last_L4 (F : Nat) (v4 : List Int) : Nat → (List Int) → (Int) → Option (List Int × Int)
  | 0, _, _ => none
  | g+1, v11, v12 => if 0 ≤ v12 then (ix v4 v12).bind fun y11 => (app v11 y11).bind fun y10 => R3_Last_L4 F v4 g (y10) ((wrap64 (v12 - 1))) else some (v11, v12)
theorem R3_Last_L4_0 (F : Nat) (v4 : List Int) (v11 : List Int) (v12 : Int) : R3_Last_L4 F v4 0 v11 v12 = none := by rw [R3_Last_L4]
theorem R3_Last_L4_s (F g : Nat) (v4 : List Int) (v11 : List Int) (v12 : Int) : R3_Last_L4 F v4 (g+1) v11 v12 = (if 0 ≤ v12 then (ix v4 v12).bind fun y11 => (app v11 y11).bind fun y10 => R3_Last_L4 F v4 g (y10) ((wrap64 (v12 - 1))) else some (v11, v12)) := by rw [R3_Last_L4]
def R3_Last (F : Nat) (v0 : Int) (v1 : List (Int × Int)) : Option (List Int × Int) := (R3_Last_L1 F (v0) (v1) F ([]) (0)).bind fun o9 => (R3_Last_L4 F (o9.1) F ([]) ((wrap64 (v0 - 1)))).bind fun o12 => some ((o12.1, o9.2))
set_option maxRecDepth 100000 in
set_option maxHeartbeats 4000000 in
theorem R3_Last_ok {F : Nat} {v0 : Int} {v1 : List (Int × Int)} {A1 : Option Addr} {r : List Int × Int} (w : World) (cap1 : Nat) (hr1 : ReadsL w w.heap.size A1 v1) (h : R3_Last F v0 v1 = some r) :
    Calls Tryd.prog 6 #[.int .i64 v0, .slice A1 v1.length cap1] w (PostG (fun v => (.tuple #[v, (.int .i64 r.2)])) (fun v => owI v r.1) w.heap.size w) := by
  have HR1 := Lib.hid hr1; clear hr1
  have HD := Lib.hid (Below.refl w.heap.size w)
  have HOA := Lib.hid (HP.nil (W := w) (B := w.heap.size))
  unfold R3_Last at h
  have HM := Lib.hid h; clear h
  go_enter Tryd.func6, Tryd.ntmps6
  replace HOA := Lib.hid (show HP _ _ (.fl (owI (.slice none 0 0) ([])) :: _) from HOA.out.pushNil _ _)
  go_wp2_with fail
  obtain ⟨o2, ho, hm⟩ := obind HM.out
  replace HM := Lib.hid hm; have HL1 := Lib.hid ho; clear hm ho
  go_loopg [6, 7] F (fun gg ux5 ux6 wr => ∃ (x3 : List Int) (x4 : Int) (V7 : Value), V7 = ux5 ∧ ux6 = .int .i64 x4 ∧ Hid (Below w.heap.size w wr) ∧ Hid (HP wr w.heap.size [.fl (owI V7 (x3))]) ∧ Hid (R3_Last_L1 F (v0) (v1) gg x3 x4 = some o2))
  case atStart => exact ⟨[], 0, (.slice none 0 0), rfl, rfl, HD, HOA, HL1⟩
  case round =>
    obtain ⟨x3, x4, V7, rfl, rfl, HD, HOA, HL1⟩ := hrel
    rename World => W8
    cases gk with
    | zero => exact absurd ((R3_Last_L1_0 ..).symm.trans HL1.out) (by intro h; cases h)
    | succ g1 =>
      replace HL1 := Lib.hid ((R3_Last_L1_s ..).symm.trans HL1.out)
      obtain ⟨A9, cap10, he, _⟩ := HP.open_I HOA.out (List.Mem.head _)
      subst he
      by_cases hc11 : ((x3).length : Int) < v0
      · replace HL1 := Lib.hid (ifT hc11 HL1.out)
        have HK12 := Lib.hid hc11
        go_wp2_with fail
        try clear hc11
        obtain ⟨o13, ho, hm⟩ := obind HL1.out
        replace HL1 := Lib.hid hm; have HL2 := Lib.hid ho; clear hm ho
        go_loopg [8, 9, 10] F (fun gg ux17 ux18 ux19 wr => ∃ (x14 : Int) (x15 : Int) (x16 : Int), ux17 = .int .i64 x14 ∧ ux18 = .int .i64 x15 ∧ ux19 = .int .i64 x16 ∧ Hid (Below W8.heap.size W8 wr) ∧ Hid (R3_Last_L2 F (v0) (v1) (x3) gg x14 x15 x16 = some o13))
        case atStart => exact ⟨(-1), v0, 0, rfl, rfl, rfl, (Lib.hid (Below.refl _ _)), HL2⟩
        case round =>
          obtain ⟨x14, x15, x16, rfl, rfl, rfl, HW2, HL2⟩ := hrel
          rename World => W20
          have hd := HW2.out
          replace HOA := Lib.hid (HOA.out.below hd)
          replace HD := Lib.hid (HD.out.trans (hd.mono HD.out.size))
          clear hd
          cases gk with
          | zero => exact absurd ((R3_Last_L2_0 ..).symm.trans HL2.out) (by intro h; cases h)
          | succ g2 =>
            replace HL2 := Lib.hid ((R3_Last_L2_s ..).symm.trans HL2.out)
            by_cases hc21 : x16 < v0
            · replace HL2 := Lib.hid (ifT hc21 HL2.out)
              have HK22 := Lib.hid hc21
              obtain ⟨y25, hy23, hm⟩ := obind HL2.out
              replace HL2 := Lib.hid hm; clear hm
              have HC24 := R1_Has_ok W20 cap10 (HP.rd_I HOA.out (List.Mem.head _)) hy23
              clear hy23
              replace HC24 := Lib.hid HC24
              cases y25
              · replace HL2 := Lib.hid (ifF Bool.false_ne_true HL2.out)
                go_wp2_with fail
                refine HC24.out.mono ?_; rintro e w' ⟨rfl, rfl⟩
                go_wp2_with fail
                try clear hc21
                obtain ⟨o26, ho, hm⟩ := obind HL2.out
                replace HL2 := Lib.hid hm; have HL3 := Lib.hid ho; clear hm ho
                go_loopg [11, 12] F (fun gg ux29 ux30 wr => ∃ (x27 : Int) (x28 : Int), ux29 = .int .i64 x27 ∧ ux30 = .int .i64 x28 ∧ Hid (Below W20.heap.size W20 wr) ∧ Hid (R3_Last_L3 F (v0) (v1) (x3) (x16) gg x27 x28 = some o26))
                case atStart => exact ⟨0, 0, rfl, rfl, (Lib.hid (Below.refl _ _)), HL3⟩
                case round =>
                  obtain ⟨x27, x28, rfl, rfl, HW3, HL3⟩ := hrel
                  rename World => W31
                  have hd := HW3.out
                  replace HOA := Lib.hid (HOA.out.below hd)
                  replace HD := Lib.hid (HD.out.trans (hd.mono HD.out.size))
                  replace HW2 := Lib.hid (HW2.out.trans (hd.mono HW2.out.size))
                  clear hd
                  cases gk with
                  | zero => exact absurd ((R3_Last_L3_0 ..).symm.trans HL3.out) (by intro h; cases h)
                  | succ g3 =>
                    replace HL3 := Lib.hid ((R3_Last_L3_s ..).symm.trans HL3.out)
                    by_cases hc32 : x28 < v0
                    · replace HL3 := Lib.hid (ifT hc32 HL3.out)
                      have HK33 := Lib.hid hc32
                      obtain ⟨b34, hb, hm⟩ := obind HL3.out
                      replace HL3 := Lib.hid hm; have HB35 := Lib.hid hb; clear hm hb
                      obtain ⟨y38, hy36, hm⟩ := obind HB35.out
                      replace HB35 := Lib.hid hm; clear hm
                      have HC37 := R1_Has_ok W31 cap10 (HP.rd_I HOA.out (List.Mem.head _)) hy36
                      clear hy36
                      replace HC37 := Lib.hid HC37
                      cases y38
                      · replace HB35 := Lib.hid (ifF Bool.false_ne_true HB35.out)
                        obtain ⟨y41, hy39, hm⟩ := obind HB35.out
                        replace HB35 := Lib.hid hm; clear hm
                        have HC40 := R1_Beside_ok W31 cap1 (rdL HD.out HR1.out) hy39
                        clear hy39
                        replace HC40 := Lib.hid HC40
                        cases y41
                        · replace HB35 := Lib.hid (ifF Bool.false_ne_true HB35.out)
                          obtain rfl := Option.some.inj HB35.out
                          replace HL3 := Lib.hid (ifF (by first | exact Bool.false_ne_true | exact not_false) HL3.out)
                          go_wp2_with fail
                          refine HC37.out.mono ?_; rintro e w' ⟨rfl, rfl⟩
                          go_wp2_with fail
                          refine HC40.out.mono ?_; rintro e w' ⟨rfl, rfl⟩
                          go_wp2_with fail
                          try clear hc32
                          go_roundg g3
                          case measure => omega
                          case rel => exact ⟨x27, (wrap64 (x28 + 1)), rfl, rfl, HW3, HL3⟩
                        · replace HB35 := Lib.hid (ifT rfl HB35.out)
                          obtain rfl := Option.some.inj HB35.out
                          replace HL3 := Lib.hid (ifT (by first | rfl | trivial) HL3.out)
                          go_wp2_with fail
                          refine HC37.out.mono ?_; rintro e w' ⟨rfl, rfl⟩
                          go_wp2_with fail
                          refine HC40.out.mono ?_; rintro e w' ⟨rfl, rfl⟩
                          go_wp2_with fail
                          try clear hc32
                          go_roundg g3
                          case measure => omega
                          case rel => exact ⟨(wrap64 (x27 + 1)), (wrap64 (x28 + 1)), rfl, rfl, HW3, HL3⟩
                      · replace HB35 := Lib.hid (ifT rfl HB35.out)
                        obtain rfl := Option.some.inj HB35.out
                        replace HL3 := Lib.hid (ifF (by first | exact Bool.false_ne_true | exact not_false) HL3.out)
                        go_wp2_with fail
                        refine HC37.out.mono ?_; rintro e w' ⟨rfl, rfl⟩
                        go_wp2_with fail
                        try clear hc32
                        go_roundg g3
                        case measure => omega
                        case rel => exact ⟨x27, (wrap64 (x28 + 1)), rfl, rfl, HW3, HL3⟩
                    · replace HL3 := Lib.hid (ifF hc32 HL3.out)
                      have hc32d := decide_eq_false hc32
                      have HK33 := Lib.hid hc32
                      obtain rfl := Option.some.inj HL3.out
                      have hm := HL2.out; try dsimp only at hm
                      replace HL2 := Lib.hid hm; clear hm
                      by_cases hc42 : x27 < x15
                      · replace HL2 := Lib.hid (ifT hc42 HL2.out)
                        have HK43 := Lib.hid hc42
                        go_wp2_with fail
                        try clear hc32 hc32d hc42
                        go_roundg g2
                        case measure => omega
                        case rel => exact ⟨x16, x27, (wrap64 (x16 + 1)), rfl, rfl, rfl, HW2, HL2⟩
                      · replace HL2 := Lib.hid (ifF hc42 HL2.out)
                        have hc42d := decide_eq_false hc42
                        have HK43 := Lib.hid hc42
                        go_wp2_with fail
                        try clear hc32 hc32d hc42 hc42d
                        go_roundg g2
                        case measure => omega
                        case rel => exact ⟨x14, x15, (wrap64 (x16 + 1)), rfl, rfl, rfl, HW2, HL2⟩
              · replace HL2 := Lib.hid (ifT rfl HL2.out)
                go_wp2_with fail
                refine HC24.out.mono ?_; rintro e w' ⟨rfl, rfl⟩
                go_wp2_with fail
                try clear hc21
                go_roundg g2
                case measure => omega
                case rel => exact ⟨x14, x15, (wrap64 (x16 + 1)), rfl, rfl, rfl, HW2, HL2⟩
            · replace HL2 := Lib.hid (ifF hc21 HL2.out)
              have hc21d := decide_eq_false hc21
              have HK22 := Lib.hid hc21
              obtain rfl := Option.some.inj HL2.out
              have hm := HL1.out; try dsimp only at hm
              replace HL1 := Lib.hid hm; clear hm
              by_cases hc44 : x4 < x15
              · replace HL1 := Lib.hid (ifT hc44 HL1.out)
                have HK45 := Lib.hid hc44
                obtain ⟨y46, hy47, hm⟩ := obind HL1.out
                replace HL1 := Lib.hid hm; clear hm
                obtain ⟨f48, hy47⟩ := app_some hy47; subst hy47
                have HF51 := Lib.hid f48; clear f48
                go_wp2_with (at_builtin; refine hp_appI _ (.tmp 54) (.tmp 56) 23 Tryd.underlying23 rfl rfl (L1 := []) HOA.out rfl rfl HF51.out HD.out.size ?_; intro V49 W50 hoa hd)
                try clear hc21 hc21d hc44
                replace HOA := Lib.hid (show HP W50 w.heap.size [.fl (owI V49 ((x3 ++ [x14])))] from hoa); clear hoa
                replace HD := Lib.hid (HD.out.trans hd); clear hd
                go_wp2_with fail
                go_roundg g1
                case measure => omega
                case rel => exact ⟨(x3 ++ [x14]), x15, V49, rfl, rfl, HD, HOA, HL1⟩
              · replace HL1 := Lib.hid (ifF hc44 HL1.out)
                have hc44d := decide_eq_false hc44
                have HK45 := Lib.hid hc44
                obtain ⟨y52, hy53, hm⟩ := obind HL1.out
                replace HL1 := Lib.hid hm; clear hm
                obtain ⟨f54, hy53⟩ := app_some hy53; subst hy53
                have HF57 := Lib.hid f54; clear f54
                go_wp2_with (at_builtin; refine hp_appI _ (.tmp 54) (.tmp 56) 23 Tryd.underlying23 rfl rfl (L1 := []) HOA.out rfl rfl HF57.out HD.out.size ?_; intro V55 W56 hoa hd)
                try clear hc21 hc21d hc44 hc44d
                replace HOA := Lib.hid (show HP W56 w.heap.size [.fl (owI V55 ((x3 ++ [x14])))] from hoa); clear hoa
                replace HD := Lib.hid (HD.out.trans hd); clear hd
                go_wp2_with fail
                go_roundg g1
                case measure => omega
                case rel => exact ⟨(x3 ++ [x14]), x4, V55, rfl, rfl, HD, HOA, HL1⟩
      · replace HL1 := Lib.hid (ifF hc11 HL1.out)
        have hc11d := decide_eq_false hc11
        have HK12 := Lib.hid hc11
        obtain rfl := Option.some.inj HL1.out
        have hm := HM.out; try dsimp only at hm
        replace HM := Lib.hid hm; clear hm
        replace HOA := Lib.hid (show HP _ _ (.fl (owI (.slice none 0 0) ([])) :: _) from HOA.out.pushNil _ _)
        go_wp2_with fail
        try clear hc11 hc11d
        obtain ⟨o59, ho, hm⟩ := obind HM.out
        replace HM := Lib.hid hm; have HL4 := Lib.hid ho; clear hm ho
        go_loopg [13, 14] F (fun gg ux62 ux63 wr => ∃ (x60 : List Int) (x61 : Int) (V64 : Value), V64 = ux62 ∧ ux63 = .int .i64 x61 ∧ Hid (Below w.heap.size w wr) ∧ Hid (HP wr w.heap.size [.fl (owI V64 (x60)), .fl (owI (.slice A9 (x3).length cap10) (x3))]) ∧ Hid (R3_Last_L4 F (x3) gg x60 x61 = some o59))
        case atStart => exact ⟨[], (wrap64 (v0 - 1)), (.slice none 0 0), rfl, rfl, HD, HOA, HL4⟩
        case round =>
          obtain ⟨x60, x61, V64, rfl, rfl, HD, HOA, HL4⟩ := hrel
          rename World => W65
          cases gk with
          | zero => exact absurd ((R3_Last_L4_0 ..).symm.trans HL4.out) (by intro h; cases h)
          | succ g4 =>
            replace HL4 := Lib.hid ((R3_Last_L4_s ..).symm.trans HL4.out)
            by_cases hc66 : 0 ≤ x61
            · replace HL4 := Lib.hid (ifT hc66 HL4.out)
              have HK67 := Lib.hid hc66
              obtain ⟨y68, hy69, hm⟩ := obind HL4.out
              replace HL4 := Lib.hid hm; clear hm
              obtain ⟨b70, o71, ea72, _, f73, f74, f75⟩ := ReadsI.ix (HP.rd_I HOA.out (List.Mem.tail _ (List.Mem.head _))) hy69
              cases ea72
              try simp only [Nat.zero_add, Nat.add_zero, Int.toNat_natCast, Int.toNat_zero, Int.toNat_one] at f75
              try rw [← HP.len_I HOA.out (List.Mem.tail _ (List.Mem.head _))] at f74
              have HY77 := Lib.hid hy69; clear hy69
              obtain ⟨y78, hy79, hm⟩ := obind HL4.out
              replace HL4 := Lib.hid hm; clear hm
              obtain ⟨f80, hy79⟩ := app_some hy79; subst hy79
              have HF83 := Lib.hid f80; clear f80
              go_upto_region 25 with (at_builtin; refine hp_appI _ (.tmp 64) (.tmp 69) 23 Tryd.underlying23 rfl rfl (L1 := []) HOA.out rfl rfl HF83.out HD.out.size ?_; intro V81 W82 hoa hd)
              try clear hc66 f73 f74 f75
              replace HOA := Lib.hid (show HP W82 w.heap.size [.fl (owI V81 ((x60 ++ [y68]))), .fl (owI (.slice (some ⟨b70, o71, none⟩) (x3).length cap10) (x3))] from hoa); clear hoa
              replace HD := Lib.hid (HD.out.trans hd); clear hd
              go_wp2_with fail
              go_roundg g4
              case measure => omega
              case rel => exact ⟨(x60 ++ [y68]), (wrap64 (x61 - 1)), V81, rfl, rfl, HD, HOA, HL4⟩
            · replace HL4 := Lib.hid (ifF hc66 HL4.out)
              have hc66d := decide_eq_false hc66
              have HK67 := Lib.hid hc66
              obtain rfl := Option.some.inj HL4.out
              have hm := HM.out; try dsimp only at hm
              replace HM := Lib.hid hm; clear hm
              obtain rfl := Option.some.inj HM.out
              go_wp2_with fail
              try clear hc66 hc66d
              go_ret2
              exact ⟨_, rfl, HOA.out.get (List.Mem.head _), HD.out⟩
def R3_Colours_L3 (F : Nat) (v1 : List (Int × Int)) (v2 : List Int) (v4 : List Int) (v5 : Int) (v6 : Int) (v7 : Int) : Nat → (Bool) → (Int) → Option (Bool × Int)
  | 0, _, _ => none
  | g+1, v8, v9 => if v9 < v5 then (((ix v2 v9).bind fun y4 => (R1_Beside F (v1) (v6) (y4)).bind fun y5 => if y5 = true then (ix v2 v9).bind fun y6 => (ix v4 y6).bind fun y7 => if (y7 == v7) = true then some true else some false else some false).bind fun b3 => if b3 = true then R3_Colours_L3 F v1 v2 v4 v5 v6 v7 g (false) ((wrap64 (v9 + 1))) else R3_Colours_L3 F v1 v2 v4 v5 v6 v7 g (v8) ((wrap64 (v9 + 1)))) else some (v8, v9)
theorem R3_Colours_L3_0 (F : Nat) (v1 : List (Int × Int)) (v2 : List Int) (v4 : List Int) (v5 : Int) (v6 : Int) (v7 : Int) (v8 : Bool) (v9 : Int) : R3_Colours_L3 F v1 v2 v4 v5 v6 v7 0 v8 v9 = none := by rw [R3_Colours_L3]
theorem R3_Colours_L3_s (F g : Nat) (v1 : List (Int × Int)) (v2 : List Int) (v4 : List Int) (v5 : Int) (v6 : Int) (v7 : Int) (v8 : Bool) (v9 : Int) : R3_Colours_L3 F v1 v2 v4 v5 v6 v7 (g+1) v8 v9 = (if v9 < v5 then (((ix v2 v9).bind fun y4 => (R1_Beside F (v1) (v6) (y4)).bind fun y5 => if y5 = true then (ix v2 v9).bind fun y6 => (ix v4 y6).bind fun y7 => if (y7 == v7) = true then some true else some false else some false).bind fun b3 => if b3 = true then R3_Colours_L3 F v1 v2 v4 v5 v6 v7 g (false) ((wrap64 (v9 + 1))) else R3_Colours_L3 F v1 v2 v4 v5 v6 v7 g (v8) ((wrap64 (v9 + 1)))) else some (v8, v9)) := by rw [R3_Colours_L3]
def R3_Colours_L2 (F : Nat) (v1 : List (Int × Int)) (v2 : List Int) (v4 : List Int) (v5 : Int) (v6 : Int) : Nat → (Int) → Option (Int)
  | 0, _ => none
  | g+1, v7 => (R3_Colours_L3 F (v1) (v2) (v4) (v5) (v6) (v7) F (true) (0)).bind fun o8 => (if o8.1 = true then some (v7) else R3_Colours_L2 F v1 v2 v4 v5 v6 g ((wrap64 (v7 + 1))))
theorem R3_Colours_L2_0 (F : Nat) (v1 : List (Int × Int)) (v2 : List Int) (v4 : List Int) (v5 : Int) (v6 : Int) (v7 : Int) : R3_Colours_L2 F v1 v2 v4 v5 v6 0 v7 = none := by rw [R3_Colours_L2]
theorem R3_Colours_L2_s (F g : Nat) (v1 : List (Int × Int)) (v2 : List Int) (v4 : List Int) (v5 : Int) (v6 : Int) (v7 : Int) : R3_Colours_L2 F v1 v2 v4 v5 v6 (g+1) v7 = ((R3_Colours_L3 F (v1) (v2) (v4) (v5) (v6) (v7) F (true) (0)).bind fun o8 => (if o8.1 = true then some (v7) else R3_Colours_L2 F v1 v2 v4 v5 v6 g ((wrap64 (v7 + 1))))) := by rw [R3_Colours_L2]
def R3_Colours_L1 (F : Nat) (v0 : Int) (v1 : List (Int × Int)) (v2 : List Int) : Nat → (List Int) → (Int) → Option (List Int × Int)
  | 0, _, _ => none
  | g+1, v4, v5 => if v5 < v0 then (ix v2 v5).bind fun y2 => (R3_Colours_L2 F (v1) (v2) (v4) (v5) (y2) F (0)).bind fun o9 => (st v4 y2 o9).bind fun y10 => R3_Colours_L1 F v0 v1 v2 g (y10) ((wrap64 (v5 + 1))) else some (v4, v5)
theorem R3_Colours_L1_0 (F : Nat) (v0 : Int) (v1 : List (Int × Int)) (v2 : List Int) (v4 : List Int) (v5 : Int) : R3_Colours_L1 F v0 v1 v2 0 v4 v5 = none := by rw [R3_Colours_L1]
theorem R3_Colours_L1_s (F g : Nat) (v0 : Int) (v1 : List (Int × Int)) (v2 : List Int) (v4 : List Int) (v5 : Int) : R3_Colours_L1 F v0 v1 v2 (g+1) v4 v5 = (if v5 < v0 then (ix v2 v5).bind fun y2 => (R3_Colours_L2 F (v1) (v2) (v4) (v5) (y2) F (0)).bind fun o9 => (st v4 y2 o9).bind fun y10 => R3_Colours_L1 F v0 v1 v2 g (y10) ((wrap64 (v5 + 1))) else some (v4, v5)) := by rw [R3_Colours_L1]
def R3_Colours (F : Nat) (v0 : Int) (v1 : List (Int × Int)) (v2 : List Int) : Option (List Int) := (mkI v0).bind fun y1 => (R3_Colours_L1 F (v0) (v1) (v2) F (y1) (0)).bind fun o11 => some (o11.1)
set_option maxRecDepth 100000 in
set_option maxHeartbeats 4000000 in
theorem R3_Colours_ok {F : Nat} {v0 : Int} {v1 : List (Int × Int)} {A1 : Option Addr} {v2 : List Int} {A2 : Option Addr} {r : List Int} (w : World) (cap1 : Nat) (hr1 : ReadsL w w.heap.size A1 v1) (cap2 : Nat) (hr2 : ReadsI w w.heap.size A2 v2) (h : R3_Colours F v0 v1 v2 = some r) :
    Calls Tryd.prog 13 #[.int .i64 v0, .slice A1 v1.length cap1, .slice A2 v2.length cap2] w (PostG (fun v => v) (fun v => owI v r) w.heap.size w) := by
  have HR1 := Lib.hid hr1; clear hr1
  have HR2 := Lib.hid hr2; clear hr2
  have HD := Lib.hid (Below.refl w.heap.size w)
  have HOA := Lib.hid (HP.nil (W := w) (B := w.heap.size))
  unfold R3_Colours at h
  have HM := Lib.hid h; clear h
  go_enter Tryd.func13, Tryd.ntmps13
  obtain ⟨y1, hy2, hm⟩ := obind HM.out
  replace HM := Lib.hid hm; clear hm
  obtain ⟨f3, hy2⟩ := mkI_some hy2
  obtain ⟨N7, hN8⟩ : ∃ N, Int.toNat v0 = N := ⟨_, rfl⟩
  rw [hN8] at hy2; subst hy2
  have hmk4 := run_makeI f3; simp only [hN8] at hmk4
  have hd : Below w.heap.size w (w.alloc (.cells (Array.replicate N7 (Value.int .i64 0)) 3)) := (Below.refl _ _).alloc (Nat.le_refl _) _
  have ho := mkI_ok w f3; rw [hN8] at ho; clear hN8
  go_upto_region 2 with (fail)
  generalize hW : World.alloc w _ = W5 at *
  clear hW hmk4 f3
  replace HOA := Lib.hid (HOA.out.call hd HD.out.size ho); clear ho
  replace HD := Lib.hid (HD.out.trans (hd.mono HD.out.size))
  clear hd
  go_wp2_with fail
  obtain ⟨o9, ho, hm⟩ := obind HM.out
  replace HM := Lib.hid hm; have HL1 := Lib.hid ho; clear hm ho
  go_loopg [8] F (fun gg ux12 wr => ∃ (x10 : List Int) (x11 : Int), ux12 = .int .i64 x11 ∧ Hid (Below w.heap.size w wr) ∧ Hid (HP wr w.heap.size [.fl (owI (.slice (some ⟨w.heap.size, 0, none⟩) N7 N7) (x10))]) ∧ Hid (R3_Colours_L1 F (v0) (v1) (v2) gg x10 x11 = some o9))
  case atStart => exact ⟨(List.replicate N7 0), 0, rfl, HD, HOA, HL1⟩
  case round =>
    obtain ⟨x10, x11, rfl, HD, HOA, HL1⟩ := hrel
    rename World => W13
    cases gk with
    | zero => exact absurd ((R3_Colours_L1_0 ..).symm.trans HL1.out) (by intro h; cases h)
    | succ g1 =>
      replace HL1 := Lib.hid ((R3_Colours_L1_s ..).symm.trans HL1.out)
      by_cases hc14 : x11 < v0
      · replace HL1 := Lib.hid (ifT hc14 HL1.out)
        have HK15 := Lib.hid hc14
        obtain ⟨y16, hy17, hm⟩ := obind HL1.out
        replace HL1 := Lib.hid hm; clear hm
        obtain ⟨b18, o19, ea20, _, f21, f22, f23⟩ := ReadsI.ix (rdI HD.out HR2.out) hy17
        cases ea20
        try simp only [Nat.zero_add, Nat.add_zero, Int.toNat_natCast, Int.toNat_zero, Int.toNat_one] at f23
        have HY25 := Lib.hid hy17; clear hy17
        go_wp2_with fail
        try clear hc14 f21 f22 f23
        obtain ⟨o26, ho, hm⟩ := obind HL1.out
        replace HL1 := Lib.hid hm; have HL2 := Lib.hid ho; clear hm ho
        go_loopg [10] F (fun gg ux28 wr => ∃ (x27 : Int), ux28 = .int .i64 x27 ∧ Hid (Below W13.heap.size W13 wr) ∧ Hid (R3_Colours_L2 F (v1) (v2) (x10) (x11) (y16) gg x27 = some o26))
        case atStart => exact ⟨0, rfl, (Lib.hid (Below.refl _ _)), HL2⟩
        case round =>
          obtain ⟨x27, rfl, HW2, HL2⟩ := hrel
          rename World => W29
          have hd := HW2.out
          replace HOA := Lib.hid (HOA.out.below hd)
          replace HD := Lib.hid (HD.out.trans (hd.mono HD.out.size))
          clear hd
          cases gk with
          | zero => exact absurd ((R3_Colours_L2_0 ..).symm.trans HL2.out) (by intro h; cases h)
          | succ g2 =>
            replace HL2 := Lib.hid ((R3_Colours_L2_s ..).symm.trans HL2.out)
            go_wp2_with fail
            obtain ⟨o30, ho, hm⟩ := obind HL2.out
            replace HL2 := Lib.hid hm; have HL3 := Lib.hid ho; clear hm ho
            go_loopg [11, 12] F (fun gg ux33 ux34 wr => ∃ (x31 : Bool) (x32 : Int), ux33 = .bool x31 ∧ ux34 = .int .i64 x32 ∧ Hid (Below W29.heap.size W29 wr) ∧ Hid (R3_Colours_L3 F (v1) (v2) (x10) (x11) (y16) (x27) gg x31 x32 = some o30))
            case atStart => exact ⟨true, 0, rfl, rfl, (Lib.hid (Below.refl _ _)), HL3⟩
            case round =>
              obtain ⟨x31, x32, rfl, rfl, HW3, HL3⟩ := hrel
              rename World => W35
              have hd := HW3.out
              replace HOA := Lib.hid (HOA.out.below hd)
              replace HD := Lib.hid (HD.out.trans (hd.mono HD.out.size))
              replace HW2 := Lib.hid (HW2.out.trans (hd.mono HW2.out.size))
              clear hd
              cases gk with
              | zero => exact absurd ((R3_Colours_L3_0 ..).symm.trans HL3.out) (by intro h; cases h)
              | succ g3 =>
                replace HL3 := Lib.hid ((R3_Colours_L3_s ..).symm.trans HL3.out)
                by_cases hc36 : x32 < x11
                · replace HL3 := Lib.hid (ifT hc36 HL3.out)
                  have HK37 := Lib.hid hc36
                  obtain ⟨b38, hb, hm⟩ := obind HL3.out
                  replace HL3 := Lib.hid hm; have HB39 := Lib.hid hb; clear hm hb
                  obtain ⟨y40, hy41, hm⟩ := obind HB39.out
                  replace HB39 := Lib.hid hm; clear hm
                  obtain ⟨b42, o43, ea44, _, f45, f46, f47⟩ := ReadsI.ix (rdI HD.out HR2.out) hy41
                  cases ea44
                  try simp only [Nat.zero_add, Nat.add_zero, Int.toNat_natCast, Int.toNat_zero, Int.toNat_one] at f47
                  have HY49 := Lib.hid hy41; clear hy41
                  obtain ⟨y52, hy50, hm⟩ := obind HB39.out
                  replace HB39 := Lib.hid hm; clear hm
                  have HC51 := R1_Beside_ok W35 cap1 (rdL HD.out HR1.out) hy50
                  clear hy50
                  replace HC51 := Lib.hid HC51
                  cases y52
                  · replace HB39 := Lib.hid (ifF Bool.false_ne_true HB39.out)
                    obtain rfl := Option.some.inj HB39.out
                    replace HL3 := Lib.hid (ifF (by first | exact Bool.false_ne_true | exact not_false) HL3.out)
                    go_wp2_with fail
                    refine HC51.out.mono ?_; rintro e w' ⟨rfl, rfl⟩
                    go_wp2_with fail
                    try clear hc36 f45 f46 f47
                    go_roundg g3
                    case measure => omega
                    case rel => exact ⟨x31, (wrap64 (x32 + 1)), rfl, rfl, HW3, HL3⟩
                  · replace HB39 := Lib.hid (ifT rfl HB39.out)
                    obtain ⟨y53, hy54, hm⟩ := obind HB39.out
                    replace HB39 := Lib.hid hm; clear hm
                    obtain rfl := Option.some.inj (HY49.out.symm.trans hy54)
                    clear hy54
                    obtain ⟨y55, hy56, hm⟩ := obind HB39.out
                    replace HB39 := Lib.hid hm; clear hm
                    obtain ⟨b57, o58, ea59, _, f60, f61, f62⟩ := ReadsI.ix (HP.rd_I HOA.out (List.Mem.head _)) hy56
                    cases ea59
                    try simp only [Nat.zero_add, Nat.add_zero, Int.toNat_natCast, Int.toNat_zero, Int.toNat_one] at f62
                    try rw [← HP.len_I HOA.out (List.Mem.head _)] at f61
                    have HY64 := Lib.hid hy56; clear hy56
                    rcases Bool.eq_false_or_eq_true (y55 == x27) with hc65 | hc65
                    · replace HB39 := Lib.hid (ifT hc65 HB39.out)
                      have HK66 := Lib.hid hc65
                      obtain rfl := Option.some.inj HB39.out
                      replace HL3 := Lib.hid (ifT (by first | rfl | trivial) HL3.out)
                      go_wp2_with fail
                      refine HC51.out.mono ?_; rintro e w' ⟨rfl, rfl⟩
                      go_wp2_with fail
                      try clear hc36 f45 f46 f47 f60 f61 f62 hc65
                      go_roundg g3
                      case measure => omega
                      case rel => exact ⟨false, (wrap64 (x32 + 1)), rfl, rfl, HW3, HL3⟩
                    · replace HB39 := Lib.hid (ifF (bF hc65) HB39.out)
                      have HK66 := Lib.hid hc65
                      obtain rfl := Option.some.inj HB39.out
                      replace HL3 := Lib.hid (ifF (by first | exact Bool.false_ne_true | exact not_false) HL3.out)
                      go_wp2_with fail
                      refine HC51.out.mono ?_; rintro e w' ⟨rfl, rfl⟩
                      go_wp2_with fail
                      try clear hc36 f45 f46 f47 f60 f61 f62 hc65
                      go_roundg g3
                      case measure => omega
                      case rel => exact ⟨x31, (wrap64 (x32 + 1)), rfl, rfl, HW3, HL3⟩
                · replace HL3 := Lib.hid (ifF hc36 HL3.out)
                  have hc36d := decide_eq_false hc36
                  have HK37 := Lib.hid hc36
                  obtain rfl := Option.some.inj HL3.out
                  have hm := HL2.out; try dsimp only at hm
                  replace HL2 := Lib.hid hm; clear hm
                  cases x31
                  · replace HL2 := Lib.hid (ifF Bool.false_ne_true HL2.out)
                    go_wp2_with fail
                    try clear hc36 hc36d
                    go_roundg g2
                    case measure => omega
                    case rel => exact ⟨(wrap64 (x27 + 1)), rfl, HW2, HL2⟩
                  · replace HL2 := Lib.hid (ifT rfl HL2.out)
                    obtain rfl := Option.some.inj HL2.out
                    have hm := HL1.out; try dsimp only at hm
                    replace HL1 := Lib.hid hm; clear hm
                    obtain ⟨y69, hy68, hm⟩ := obind HL1.out
                    replace HL1 := Lib.hid hm; clear hm
                    obtain ⟨f70, hy68⟩ := st_some hy68; subst hy68
                    obtain ⟨g76, ea, f73, ⟨ux75, f74⟩, hp, hb⟩ := HP.setI (x := x27) (its1 := []) HOA.out f70
                    cases ea
                    obtain ⟨q0, q1⟩ := f70
                    try rw [← HP.len_I HOA.out (List.Mem.head _)] at q1
                    have HP_ := Lib.hid hp; have HB_ := Lib.hid hb; clear hp hb
                    go_upto_region 4 with (fail)
                    have hp := HP_.out; have hb := HB_.out; clear HP_ HB_
                    generalize hW : World.setCell W35 _ _ = W67 at *
                    clear hW
                    try clear f73 f74 q0 q1 hc36 hc36d
                    replace HOA := Lib.hid (show HP W67 w.heap.size [.fl (owI (.slice (some ⟨w.heap.size, 0, none⟩) N7 N7) ((List.set x10 (Int.toNat y16) x27)))] from hp); clear hp
                    replace HD := Lib.hid (HD.out.trans hb); clear hb
                    go_wp2_with fail
                    go_roundg g1
                    case measure => omega
                    case rel => exact ⟨(List.set x10 (Int.toNat y16) x27), (wrap64 (x11 + 1)), rfl, HD, HOA, HL1⟩
      · replace HL1 := Lib.hid (ifF hc14 HL1.out)
        have hc14d := decide_eq_false hc14
        have HK15 := Lib.hid hc14
        obtain rfl := Option.some.inj HL1.out
        have hm := HM.out; try dsimp only at hm
        replace HM := Lib.hid hm; clear hm
        obtain rfl := Option.some.inj HM.out
        go_wp2_with fail
        try clear hc14 hc14d
        go_ret
        exact ⟨_, rfl, HOA.out.get (List.Mem.head _), HD.out⟩
end Go.Proofs.YtlecmgdkoanghaaDoor
