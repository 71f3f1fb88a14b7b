import Derived.Test.YtlecmgdkoanghaaGR
import Derived.Test.YtlecmgdkoanghaaSlc
import Derived.Test.YtlecmgdkoanghaaBox
set_option linter.all false
set_option maxRecDepth 100000
namespace Go.Proofs.Ytlecmgdkoanghaa
open Go.RowKit
attribute [local go_sem] Oper.semAt_some
def R3_Biggest_L1 (F : Nat) (v0 : Int) (v1 : List (Int × Int)) (v2 : Bool) : Nat → (Int) → (Int) → Option (Int × Int)
  | 0, _, _ => none
  | g+1, v4, v5 => (R3_Power F (v0)).bind fun y1 => if v5 < y1 then (R3_Members F (v5)).bind fun y2 => ((if v4 < ((y2).length : Int) then (R3_Together F (v1) (y2) (v2)).bind fun y4 => if y4 = true then some true else some false else some false).bind fun b3 => if b3 = true then R3_Biggest_L1 F v0 v1 v2 g (((y2).length : Int)) ((wrap64 (v5 + 1))) else R3_Biggest_L1 F v0 v1 v2 g (v4) ((wrap64 (v5 + 1)))) else some (v4, v5)
theorem R3_Biggest_L1_0 (F : Nat) (v0 : Int) (v1 : List (Int × Int)) (v2 : Bool) (v4 : Int) (v5 : Int) : R3_Biggest_L1 F v0 v1 v2 0 v4 v5 = none := by rw [R3_Biggest_L1]
theorem R3_Biggest_L1_s (F g : Nat) (v0 : Int) (v1 : List (Int × Int)) (v2 : Bool) (v4 : Int) (v5 : Int) : R3_Biggest_L1 F v0 v1 v2 (g+1) v4 v5 = ((R3_Power F (v0)).bind fun y1 => if v5 < y1 then (R3_Members F (v5)).bind fun y2 => ((if v4 < ((y2).length : Int) then (R3_Together F (v1) (y2) (v2)).bind fun y4 => if y4 = true then some true else some false else some false).bind fun b3 => if b3 = true then R3_Biggest_L1 F v0 v1 v2 g (((y2).length : Int)) ((wrap64 (v5 + 1))) else R3_Biggest_L1 F v0 v1 v2 g (v4) ((wrap64 (v5 + 1)))) else some (v4, v5)) := by rw [R3_Biggest_L1]
def R3_Biggest (F : Nat) (v0 : Int) (v1 : List (Int × Int)) (v2 : Bool) : Option (Int) := (R3_Biggest_L1 F (v0) (v1) (v2) F (0) (0)).bind fun o5 => some (o5.1)
set_option maxRecDepth 100000 in
set_option maxHeartbeats 4000000 in
theorem R3_Biggest_ok {F : Nat} {v0 : Int} {v1 : List (Int × Int)} {A1 : Option Addr} {v2 : Bool} {r : Int} (w : World) (cap1 : Nat) (hr1 : ReadsL w w.heap.size A1 v1) (h : R3_Biggest F v0 v1 v2 = some r) :
    Calls Try.prog 21 #[.int .i64 v0, .slice A1 v1.length cap1, .bool v2] w fun e w' => e = .returned (.int .i64 r) ∧ Below w.heap.size w w' := by
  have HR1 := Lib.hid hr1; clear hr1
  have HD := Lib.hid (Below.refl w.heap.size w)
  have HOA := Lib.hid (HP.nil (W := w) (B := w.heap.size))
  unfold R3_Biggest at h
  have HM := Lib.hid h; clear h
  go_enter Try.func21, Try.ntmps21
  go_wp2_with fail
  obtain ⟨o1, ho, hm⟩ := obind HM.out
  replace HM := Lib.hid hm; have HL1 := Lib.hid ho; clear hm ho
  go_loopg [7, 8] F (fun gg ux4 ux5 wr => ∃ (x2 : Int) (x3 : Int), ux4 = .int .i64 x2 ∧ ux5 = .int .i64 x3 ∧ Hid (Below w.heap.size w wr) ∧ Hid (R3_Biggest_L1 F (v0) (v1) (v2) gg x2 x3 = some o1))
  case atStart => exact ⟨0, 0, rfl, rfl, (Lib.hid (Below.refl _ _)), HL1⟩
  case round =>
    obtain ⟨x2, x3, rfl, rfl, HW1, HL1⟩ := hrel
    rename World => W6
    have hd := HW1.out
    replace HOA := Lib.hid (HOA.out.below hd)
    replace HD := Lib.hid (HD.out.trans (hd.mono HD.out.size))
    clear hd
    cases gk with
    | zero => exact absurd ((R3_Biggest_L1_0 ..).symm.trans HL1.out) (by intro h; cases h)
    | succ g1 =>
      replace HL1 := Lib.hid ((R3_Biggest_L1_s ..).symm.trans HL1.out)
      obtain ⟨y9, hy7, hm⟩ := obind HL1.out
      replace HL1 := Lib.hid hm; clear hm
      have HC8 := R3_Power_ok W6  hy7
      clear hy7
      replace HC8 := Lib.hid HC8
      by_cases hc10 : x3 < y9
      · replace HL1 := Lib.hid (ifT hc10 HL1.out)
        have HK11 := Lib.hid hc10
        obtain ⟨y14, hy12, hm⟩ := obind HL1.out
        replace HL1 := Lib.hid hm; clear hm
        have HC13 := R3_Members_ok W6  hy12
        clear hy12
        replace HC13 := Lib.hid HC13
        go_wp2_with fail
        refine HC8.out.mono ?_; rintro e w' ⟨rfl, rfl⟩
        go_wp2_with fail
        refine HC13.out.mono ?_; rintro e W15 ⟨V16, rfl, ho, hd⟩
        try clear hc10
        replace HOA := Lib.hid (HOA.out.call hd HD.out.size ho); clear ho
        replace HD := Lib.hid (HD.out.trans (hd.mono HD.out.size))
        replace HW1 := Lib.hid (HW1.out.trans (hd.mono HW1.out.size))
        clear hd
        obtain ⟨b18, hb, hm⟩ := obind HL1.out
        replace HL1 := Lib.hid hm; have HB19 := Lib.hid hb; clear hm hb
        obtain ⟨A20, cap21, he, _⟩ := HP.open_I HOA.out (List.Mem.head _)
        subst he
        by_cases hc22 : x2 < ((y14).length : Int)
        · replace HB19 := Lib.hid (ifT hc22 HB19.out)
          have HK23 := Lib.hid hc22
          obtain ⟨y26, hy24, hm⟩ := obind HB19.out
          replace HB19 := Lib.hid hm; clear hm
          have HC25 := R3_Together_ok W15 cap1 (rdL HD.out HR1.out) cap21 (HP.rd_I HOA.out (List.Mem.head _)) hy24
          clear hy24
          replace HC25 := Lib.hid HC25
          go_wp2_with fail
          refine HC25.out.mono ?_; rintro e W27 ⟨rfl, hd⟩
          try clear hc22
          replace HOA := Lib.hid (HOA.out.below (hd.below _))
          replace HD := Lib.hid (HD.out.trans ((hd.below _).mono HD.out.size))
          replace HW1 := Lib.hid (HW1.out.trans ((hd.below _).mono HW1.out.size))
          clear hd
          cases y26
          · replace HB19 := Lib.hid (ifF Bool.false_ne_true HB19.out)
            obtain rfl := Option.some.inj HB19.out
            replace HL1 := Lib.hid (ifF (by first | exact Bool.false_ne_true | exact not_false) HL1.out)
            go_wp2_with fail
            go_roundg g1
            case measure => omega
            case rel => exact ⟨x2, (wrap64 (x3 + 1)), rfl, rfl, HW1, HL1⟩
          · replace HB19 := Lib.hid (ifT rfl HB19.out)
            obtain rfl := Option.some.inj HB19.out
            replace HL1 := Lib.hid (ifT (by first | rfl | trivial) HL1.out)
            go_wp2_with fail
            go_roundg g1
            case measure => omega
            case rel => exact ⟨((y14).length : Int), (wrap64 (x3 + 1)), rfl, rfl, HW1, HL1⟩
        · replace HB19 := Lib.hid (ifF hc22 HB19.out)
          have hc22d := decide_eq_false hc22
          have HK23 := Lib.hid hc22
          obtain rfl := Option.some.inj HB19.out
          replace HL1 := Lib.hid (ifF (by first | exact Bool.false_ne_true | exact not_false) HL1.out)
          go_wp2_with fail
          try clear hc22 hc22d
          go_roundg g1
          case measure => omega
          case rel => exact ⟨x2, (wrap64 (x3 + 1)), rfl, rfl, HW1, HL1⟩
      · replace HL1 := Lib.hid (ifF hc10 HL1.out)
        have hc10d := decide_eq_false hc10
        have HK11 := Lib.hid hc10
        obtain rfl := Option.some.inj HL1.out
        have hm := HM.out; try dsimp only at hm
        replace HM := Lib.hid hm; clear hm
        obtain rfl := Option.some.inj HM.out
        go_wp2_with fail
        refine HC8.out.mono ?_; rintro e w' ⟨rfl, rfl⟩
        go_wp2_with fail
        try clear hc10 hc10d
        go_ret
        exact ⟨rfl, HD.out⟩
def R1_ring_L1 (F : Nat) (rec : (Int) → (List (Int × Int)) → (List Int) → (Int) → Option (Bool)) (v0 : Int) (v1 : List (Int × Int)) (v2 : List Int) (v3 : Int) (v5 : Int) : Nat → (Int) → Option ((Int) ⊕ (Bool))
  | 0, _ => none
  | g+1, v6 => if v6 < v0 then ((((R1_Beside F (v1) (v5) (v6)).bind fun y6 => if y6 = true then (R1_Has F (v2) (v6)).bind fun y7 => if y7 = true then some false else some true else some false).bind fun b5 => if b5 = true then (R1_Behind F (v2) (v6)).bind fun y8 => (rec (v0) (v1) (y8) (v3)).bind fun y9 => if y9 = true then some true else some false else some false).bind fun b4 => if b4 = true then some (.inr (true)) else R1_ring_L1 F rec v0 v1 v2 v3 v5 g ((wrap64 (v6 + 1)))) else some (.inl (v6))
theorem R1_ring_L1_0 (F : Nat) (rec : (Int) → (List (Int × Int)) → (List Int) → (Int) → Option (Bool)) (v0 : Int) (v1 : List (Int × Int)) (v2 : List Int) (v3 : Int) (v5 : Int) (v6 : Int) : R1_ring_L1 F rec v0 v1 v2 v3 v5 0 v6 = none := by rw [R1_ring_L1]
theorem R1_ring_L1_s (F g : Nat) (rec : (Int) → (List (Int × Int)) → (List Int) → (Int) → Option (Bool)) (v0 : Int) (v1 : List (Int × Int)) (v2 : List Int) (v3 : Int) (v5 : Int) (v6 : Int) : R1_ring_L1 F rec v0 v1 v2 v3 v5 (g+1) v6 = (if v6 < v0 then ((((R1_Beside F (v1) (v5) (v6)).bind fun y6 => if y6 = true then (R1_Has F (v2) (v6)).bind fun y7 => if y7 = true then some false else some true else some false).bind fun b5 => if b5 = true then (R1_Behind F (v2) (v6)).bind fun y8 => (rec (v0) (v1) (y8) (v3)).bind fun y9 => if y9 = true then some true else some false else some false).bind fun b4 => if b4 = true then some (.inr (true)) else R1_ring_L1 F rec v0 v1 v2 v3 v5 g ((wrap64 (v6 + 1)))) else some (.inl (v6))) := by rw [R1_ring_L1]
def R1_ring (F : Nat) : Nat → (Int) → (List (Int × Int)) → (List Int) → (Int) → Option (Bool)
  | 0, _, _, _, _ => none
  | d+1, v0, v1, v2, v3 => (ix v2 (wrap64 (((v2).length : Int) - 1))).bind fun y1 => (if (((v2).length : Int) == v3) = true then (ix v2 0).bind fun y2 => (R1_Beside F (v1) (y1) (y2)).bind fun y3 => some (y3) else (R1_ring_L1 F (R1_ring F d) (v0) (v1) (v2) (v3) (y1) F (0)).bind fun o10 => match o10 with | .inr r => some (r) | .inl o10 => some (false))
theorem R1_ring_s (F d : Nat) (v0 : Int) (v1 : List (Int × Int)) (v2 : List Int) (v3 : Int) : R1_ring F (d+1) v0 v1 v2 v3 = ((ix v2 (wrap64 (((v2).length : Int) - 1))).bind fun y1 => (if (((v2).length : Int) == v3) = true then (ix v2 0).bind fun y2 => (R1_Beside F (v1) (y1) (y2)).bind fun y3 => some (y3) else (R1_ring_L1 F (R1_ring F d) (v0) (v1) (v2) (v3) (y1) F (0)).bind fun o10 => match o10 with | .inr r => some (r) | .inl o10 => some (false))) := by rw [R1_ring]
theorem R1_ring_0 (F : Nat) (v0 : Int) (v1 : List (Int × Int)) (v2 : List Int) (v3 : Int) : R1_ring F 0 v0 v1 v2 v3 = none := by rw [R1_ring]
set_option maxRecDepth 100000 in
set_option maxHeartbeats 4000000 in
theorem R1_ring_ok {F : Nat} : ∀ (d : Nat) {v0 : Int} {v1 : List (Int × Int)} {A1 : Option Addr} {v2 : List Int} {A2 : Option Addr} {v3 : Int} {r : Bool} (w : World) (cap1 : Nat) (hr1 : ReadsL w w.heap.size A1 v1) (cap2 : Nat) (hr2 : ReadsI w w.heap.size A2 v2) (h : R1_ring F d v0 v1 v2 v3 = some r),
    Calls Try.prog 47 #[.int .i64 v0, .slice A1 v1.length cap1, .slice A2 v2.length cap2, .int .i64 v3] w fun e w' => e = .returned (.bool r) ∧ Below w.heap.size w w' := by
  intro d
  induction d with
  | zero =>
    intro v0 v1 A1 v2 A2 v3 r w cap1 hr1 cap2 hr2 h
    rw [R1_ring_0] at h; cases h
  | succ d ih =>
    intro v0 v1 A1 v2 A2 v3 r w cap1 hr1 cap2 hr2 h
    have HR1 := Lib.hid hr1; clear hr1
    have HR2 := Lib.hid hr2; clear hr2
    have HD := Lib.hid (Below.refl w.heap.size w)
    have HOA := Lib.hid (HP.nil (W := w) (B := w.heap.size))
    rw [R1_ring_s] at h
    have HM := Lib.hid h; clear h
    go_enter Try.func47, Try.ntmps47
    obtain ⟨y1, hy2, hm⟩ := obind HM.out
    replace HM := Lib.hid hm; clear hm
    obtain ⟨b3, o4, ea5, _, f6, f7, f8⟩ := ReadsI.ix (rdI HD.out HR2.out) hy2
    cases ea5
    try simp only [Nat.zero_add, Nat.add_zero, Int.toNat_natCast, Int.toNat_zero, Int.toNat_one] at f8
    have HY10 := Lib.hid hy2; clear hy2
    rcases Bool.eq_false_or_eq_true (((v2).length : Int) == v3) with hc11 | hc11
    · replace HM := Lib.hid (ifT hc11 HM.out)
      have HK12 := Lib.hid hc11
      obtain ⟨y13, hy14, hm⟩ := obind HM.out
      replace HM := Lib.hid hm; clear hm
      obtain ⟨b15, o16, ea17, _, f18, f19, f20⟩ := ReadsI.ix (rdI HD.out HR2.out) hy14
      cases ea17
      try simp only [Nat.zero_add, Nat.add_zero, Int.toNat_natCast, Int.toNat_zero, Int.toNat_one] at f20
      have f19n := f19; try norm_cast at f19n
      have HY22 := Lib.hid hy14; clear hy14
      obtain ⟨y25, hy23, hm⟩ := obind HM.out
      replace HM := Lib.hid hm; clear hm
      have HC24 := R1_Beside_ok w cap1 (rdL HD.out HR1.out) hy23
      clear hy23
      replace HC24 := Lib.hid HC24
      obtain rfl := Option.some.inj HM.out
      go_wp2_with fail
      refine HC24.out.mono ?_; rintro e w' ⟨rfl, rfl⟩
      go_wp2_with fail
      try clear f6 f7 f8 f18 f19 f20 f19n
      go_ret
      exact ⟨(by first | rfl | (refine congrArg (fun b => Ending.returned (Value.bool b)) ?_; first | (exact decide_eq_true (by omega)) | (exact decide_eq_false (by omega)) | (have q := hc11; rw [bne_iff_ne] at q ⊢; omega) | (have q := hc11; rw [bne_eq_false_iff_eq] at q ⊢; omega) | (have q := hc11; rw [beq_iff_eq] at q ⊢; omega) | (have q := hc11; rw [beq_eq_false_iff_ne] at q ⊢; omega))), HD.out⟩
    · replace HM := Lib.hid (ifF (bF hc11) HM.out)
      have HK12 := Lib.hid hc11
      go_wp2_with fail
      try clear f6 f7 f8 hc11
      obtain ⟨o26, ho, hm⟩ := obind HM.out
      replace HM := Lib.hid hm; have HL1 := Lib.hid ho; clear hm ho
      go_loopg [10] F (fun gg ux28 wr => ∃ (x27 : Int), ux28 = .int .i64 x27 ∧ Hid (Below w.heap.size w wr) ∧ Hid (R1_ring_L1 F (R1_ring F d) (v0) (v1) (v2) (v3) (y1) gg x27 = some o26))
      case atStart => exact ⟨0, rfl, (Lib.hid (Below.refl _ _)), HL1⟩
      case round =>
        obtain ⟨x27, rfl, HW1, HL1⟩ := hrel
        rename World => W29
        have hd := HW1.out
        replace HOA := Lib.hid (HOA.out.below hd)
        replace HD := Lib.hid (HD.out.trans (hd.mono HD.out.size))
        clear hd
        cases gk with
        | zero => exact absurd ((R1_ring_L1_0 ..).symm.trans HL1.out) (by intro h; cases h)
        | succ g1 =>
          replace HL1 := Lib.hid ((R1_ring_L1_s ..).symm.trans HL1.out)
          by_cases hc30 : x27 < v0
          · replace HL1 := Lib.hid (ifT hc30 HL1.out)
            have HK31 := Lib.hid hc30
            obtain ⟨b32, hb, hm⟩ := obind HL1.out
            replace HL1 := Lib.hid hm; have HB33 := Lib.hid hb; clear hm hb
            obtain ⟨b34, hb, hm⟩ := obind HB33.out
            replace HB33 := Lib.hid hm; have HB35 := Lib.hid hb; clear hm hb
            obtain ⟨y38, hy36, hm⟩ := obind HB35.out
            replace HB35 := Lib.hid hm; clear hm
            have HC37 := R1_Beside_ok W29 cap1 (rdL HD.out HR1.out) hy36
            clear hy36
            replace HC37 := Lib.hid HC37
            cases y38
            · replace HB35 := Lib.hid (ifF Bool.false_ne_true HB35.out)
              obtain rfl := Option.some.inj HB35.out
              replace HB33 := Lib.hid (ifF (by first | exact Bool.false_ne_true | exact not_false) HB33.out)
              obtain rfl := Option.some.inj HB33.out
              replace HL1 := Lib.hid (ifF (by first | exact Bool.false_ne_true | exact not_false) HL1.out)
              go_wp2_with fail
              refine HC37.out.mono ?_; rintro e w' ⟨rfl, rfl⟩
              go_wp2_with fail
              try clear hc30
              go_roundg g1
              case measure => omega
              case rel => exact ⟨(wrap64 (x27 + 1)), rfl, HW1, HL1⟩
            · replace HB35 := Lib.hid (ifT rfl HB35.out)
              obtain ⟨y41, hy39, hm⟩ := obind HB35.out
              replace HB35 := Lib.hid hm; clear hm
              have HC40 := R1_Has_ok W29 cap2 (rdI HD.out HR2.out) hy39
              clear hy39
              replace HC40 := Lib.hid HC40
              cases y41
              · replace HB35 := Lib.hid (ifF Bool.false_ne_true HB35.out)
                obtain rfl := Option.some.inj HB35.out
                replace HB33 := Lib.hid (ifT (by first | rfl | trivial) HB33.out)
                obtain ⟨y44, hy42, hm⟩ := obind HB33.out
                replace HB33 := Lib.hid hm; clear hm
                have HC43 := R1_Behind_ok W29 cap2 (rdI HD.out HR2.out) hy42
                clear hy42
                replace HC43 := Lib.hid HC43
                go_wp2_with fail
                refine HC37.out.mono ?_; rintro e w' ⟨rfl, rfl⟩
                go_wp2_with fail
                refine HC40.out.mono ?_; rintro e w' ⟨rfl, rfl⟩
                go_wp2_with fail
                refine HC43.out.mono ?_; rintro e W45 ⟨V46, rfl, ho, hd⟩
                try clear hc30
                replace HOA := Lib.hid (HOA.out.call hd HD.out.size ho); clear ho
                replace HD := Lib.hid (HD.out.trans (hd.mono HD.out.size))
                replace HW1 := Lib.hid (HW1.out.trans (hd.mono HW1.out.size))
                clear hd
                obtain ⟨y50, hy48, hm⟩ := obind HB33.out
                replace HB33 := Lib.hid hm; clear hm
                obtain ⟨A51, cap52, he, _⟩ := HP.open_I HOA.out (List.Mem.head _)
                subst he
                have HC49 := ih W45 cap1 (rdL HD.out HR1.out) cap52 (HP.rd_I HOA.out (List.Mem.head _)) hy48
                clear hy48
                replace HC49 := Lib.hid HC49
                go_wp2_with fail
                refine HC49.out.mono ?_; rintro e W53 ⟨rfl, hd⟩
                replace HOA := Lib.hid (HOA.out.below hd)
                replace HD := Lib.hid (HD.out.trans (hd.mono HD.out.size))
                replace HW1 := Lib.hid (HW1.out.trans (hd.mono HW1.out.size))
                clear hd
                cases y50
                · replace HB33 := Lib.hid (ifF Bool.false_ne_true HB33.out)
                  obtain rfl := Option.some.inj HB33.out
                  replace HL1 := Lib.hid (ifF (by first | exact Bool.false_ne_true | exact not_false) HL1.out)
                  go_wp2_with fail
                  go_roundg g1
                  case measure => omega
                  case rel => exact ⟨(wrap64 (x27 + 1)), rfl, HW1, HL1⟩
                · replace HB33 := Lib.hid (ifT rfl HB33.out)
                  obtain rfl := Option.some.inj HB33.out
                  replace HL1 := Lib.hid (ifT (by first | rfl | trivial) HL1.out)
                  obtain rfl := Option.some.inj HL1.out
                  have hm := HM.out; try dsimp only at hm
                  replace HM := Lib.hid hm; clear hm
                  obtain rfl := Option.some.inj HM.out
                  go_wp2_with fail
                  go_ret
                  exact ⟨rfl, HD.out⟩
              · replace HB35 := Lib.hid (ifT rfl HB35.out)
                obtain rfl := Option.some.inj HB35.out
                replace HB33 := Lib.hid (ifF (by first | exact Bool.false_ne_true | exact not_false) HB33.out)
                obtain rfl := Option.some.inj HB33.out
                replace HL1 := Lib.hid (ifF (by first | exact Bool.false_ne_true | exact not_false) HL1.out)
                go_wp2_with fail
                refine HC37.out.mono ?_; rintro e w' ⟨rfl, rfl⟩
                go_wp2_with fail
                refine HC40.out.mono ?_; rintro e w' ⟨rfl, rfl⟩
                go_wp2_with fail
                try clear hc30
                go_roundg g1
                case measure => omega
                case rel => exact ⟨(wrap64 (x27 + 1)), rfl, HW1, HL1⟩
          · replace HL1 := Lib.hid (ifF hc30 HL1.out)
            have hc30d := decide_eq_false hc30
            have HK31 := Lib.hid hc30
            obtain rfl := Option.some.inj HL1.out
            have hm := HM.out; try dsimp only at hm
            replace HM := Lib.hid hm; clear hm
            obtain rfl := Option.some.inj HM.out
            go_wp2_with fail
            go_ret
            exact ⟨(by first | rfl | (refine congrArg (fun b => Ending.returned (Value.bool b)) ?_; first | (exact decide_eq_true (by omega)) | (exact decide_eq_false (by omega)) | (have q := hc30; rw [bne_iff_ne] at q ⊢; omega) | (have q := hc30; rw [bne_eq_false_iff_eq] at q ⊢; omega) | (have q := hc30; rw [beq_iff_eq] at q ⊢; omega) | (have q := hc30; rw [beq_eq_false_iff_ne] at q ⊢; omega) | (have q := hc30d; rw [bne_iff_ne] at q ⊢; omega) | (have q := hc30d; rw [bne_eq_false_iff_eq] at q ⊢; omega) | (have q := hc30d; rw [beq_iff_eq] at q ⊢; omega) | (have q := hc30d; rw [beq_eq_false_iff_ne] at q ⊢; omega))), HD.out⟩
def R1_Ring_L1 (F : Nat) (v0 : Int) (v1 : List (Int × Int)) (v2 : Int) : Nat → (Int) → Option ((Int) ⊕ (Bool))
  | 0, _ => none
  | g+1, v4 => if v4 < v0 then ((R1_ring F F (v0) (v1) ([v4]) (v2)).bind fun y1 => if y1 = true then some (.inr (true)) else R1_Ring_L1 F v0 v1 v2 g ((wrap64 (v4 + 1)))) else some (.inl (v4))
theorem R1_Ring_L1_0 (F : Nat) (v0 : Int) (v1 : List (Int × Int)) (v2 : Int) (v4 : Int) : R1_Ring_L1 F v0 v1 v2 0 v4 = none := by rw [R1_Ring_L1]
theorem R1_Ring_L1_s (F g : Nat) (v0 : Int) (v1 : List (Int × Int)) (v2 : Int) (v4 : Int) : R1_Ring_L1 F v0 v1 v2 (g+1) v4 = (if v4 < v0 then ((R1_ring F F (v0) (v1) ([v4]) (v2)).bind fun y1 => if y1 = true then some (.inr (true)) else R1_Ring_L1 F v0 v1 v2 g ((wrap64 (v4 + 1)))) else some (.inl (v4))) := by rw [R1_Ring_L1]
def R1_Ring (F : Nat) (v0 : Int) (v1 : List (Int × Int)) (v2 : Int) : Option (Bool) := (R1_Ring_L1 F (v0) (v1) (v2) F (0)).bind fun o2 => match o2 with | .inr r => some (r) | .inl o2 => some (false)
set_option maxRecDepth 100000 in
set_option maxHeartbeats 4000000 in
theorem R1_Ring_ok {F : Nat} {v0 : Int} {v1 : List (Int × Int)} {A1 : Option Addr} {v2 : Int} {r : Bool} (w : World) (cap1 : Nat) (hr1 : ReadsL w w.heap.size A1 v1) (h : R1_Ring F v0 v1 v2 = some r) :
    Calls Try.prog 23 #[.int .i64 v0, .slice A1 v1.length cap1, .int .i64 v2] w fun e w' => e = .returned (.bool r) ∧ Below w.heap.size w w' := by
  have HR1 := Lib.hid hr1; clear hr1
  have HD := Lib.hid (Below.refl w.heap.size w)
  have HOA := Lib.hid (HP.nil (W := w) (B := w.heap.size))
  unfold R1_Ring at h
  have HM := Lib.hid h; clear h
  go_enter Try.func23, Try.ntmps23
  go_wp2_with fail
  obtain ⟨o1, ho, hm⟩ := obind HM.out
  replace HM := Lib.hid hm; have HL1 := Lib.hid ho; clear hm ho
  go_loopg [7] F (fun gg ux3 wr => ∃ (x2 : Int), ux3 = .int .i64 x2 ∧ Hid (Below w.heap.size w wr) ∧ Hid (R1_Ring_L1 F (v0) (v1) (v2) gg x2 = some o1))
  case atStart => exact ⟨0, rfl, (Lib.hid (Below.refl _ _)), HL1⟩
  case round =>
    obtain ⟨x2, rfl, HW1, HL1⟩ := hrel
    rename World => W4
    have hd := HW1.out
    replace HOA := Lib.hid (HOA.out.below hd)
    replace HD := Lib.hid (HD.out.trans (hd.mono HD.out.size))
    clear hd
    cases gk with
    | zero => exact absurd ((R1_Ring_L1_0 ..).symm.trans HL1.out) (by intro h; cases h)
    | succ g1 =>
      replace HL1 := Lib.hid ((R1_Ring_L1_s ..).symm.trans HL1.out)
      by_cases hc5 : x2 < v0
      · replace HL1 := Lib.hid (ifT hc5 HL1.out)
        have HK6 := Lib.hid hc5
        have hd : Below W4.heap.size W4 (World.alloc W4 (.cells #[Value.int .i64 (x2)] 3)) := (Below.refl _ _).alloc (Nat.le_refl _) _
        have ho : (owI (.slice (some ⟨W4.heap.size, 0, none⟩) 1 1) [x2]).ok (World.alloc W4 (.cells #[Value.int .i64 (x2)] 3)) W4.heap.size := litI_ok W4 [x2] (by unfold maxLen; simp)
        replace HOA := Lib.hid (HOA.out.call hd HD.out.size ho); clear ho
        replace HD := Lib.hid (HD.out.trans (hd.mono HD.out.size))
        replace HW1 := Lib.hid (HW1.out.trans (hd.mono HW1.out.size))
        clear hd
        obtain ⟨y11, hy9, hm⟩ := obind HL1.out
        replace HL1 := Lib.hid hm; clear hm
        have HC10 := R1_ring_ok _ (World.alloc W4 (.cells #[Value.int .i64 (x2)] 3)) cap1 (rdL HD.out HR1.out) 1 (HP.rd_I HOA.out (List.Mem.head _)) hy9
        clear hy9
        try rw [← HP.len_I HOA.out (List.Mem.head _)] at HC10
        replace HC10 := Lib.hid HC10
        go_wp2_with fail
        refine HC10.out.mono ?_; rintro e W12 ⟨rfl, hd⟩
        try clear hc5
        replace HOA := Lib.hid (HOA.out.below hd)
        replace HD := Lib.hid (HD.out.trans (hd.mono HD.out.size))
        replace HW1 := Lib.hid (HW1.out.trans (hd.mono HW1.out.size))
        clear hd
        cases y11
        · replace HL1 := Lib.hid (ifF Bool.false_ne_true HL1.out)
          go_wp2_with fail
          go_roundg g1
          case measure => omega
          case rel => exact ⟨(wrap64 (x2 + 1)), rfl, HW1, HL1⟩
        · replace HL1 := Lib.hid (ifT rfl HL1.out)
          obtain rfl := Option.some.inj HL1.out
          have hm := HM.out; try dsimp only at hm
          replace HM := Lib.hid hm; clear hm
          obtain rfl := Option.some.inj HM.out
          go_wp2_with fail
          go_ret
          exact ⟨rfl, HD.out⟩
      · replace HL1 := Lib.hid (ifF hc5 HL1.out)
        have hc5d := decide_eq_false hc5
        have HK6 := Lib.hid hc5
        obtain rfl := Option.some.inj HL1.out
        have hm := HM.out; try dsimp only at hm
        replace HM := Lib.hid hm; clear hm
        obtain rfl := Option.some.inj HM.out
        go_wp2_with fail
        go_ret
        exact ⟨(by first | rfl | (refine congrArg (fun b => Ending.returned (Value.bool b)) ?_; first | (exact decide_eq_true (by omega)) | (exact decide_eq_false (by omega)) | (have q := hc5; rw [bne_iff_ne] at q ⊢; omega) | (have q := hc5; rw [bne_eq_false_iff_eq] at q ⊢; omega) | (have q := hc5; rw [beq_iff_eq] at q ⊢; omega) | (have q := hc5; rw [beq_eq_false_iff_ne] at q ⊢; omega) | (have q := hc5d; rw [bne_iff_ne] at q ⊢; omega) | (have q := hc5d; rw [bne_eq_false_iff_eq] at q ⊢; omega) | (have q := hc5d; rw [beq_iff_eq] at q ⊢; omega) | (have q := hc5d; rw [beq_eq_false_iff_ne] at q ⊢; omega))), HD.out⟩
end Go.Proofs.Ytlecmgdkoanghaa
