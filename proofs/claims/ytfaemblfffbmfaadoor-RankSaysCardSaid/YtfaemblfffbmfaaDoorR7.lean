import Derived.Test.YtfaemblfffbmfaaDoorGR
import Derived.Test.YtfaemblfffbmfaaDoorR1
set_option linter.all false
set_option maxRecDepth 100000
namespace Go.Proofs.YtfaemblfffbmfaaDoor
open Go.RowKit
def R3_Lists_L1 (F : Nat) (v0 : Int) (v1 : List (List Int)) : Nat → (Int) → Option ((Int) ⊕ (Int))
  | 0, _ => none
  | g+1, v3 => if v3 < ((v1).length : Int) then ((ix v1 v3).bind fun y2 => (R1_All F (y2) (0) ((wrap64 (v0 - 1)))).bind fun y3 => if y3 = true then ((ix v1 v3).bind fun y4 => (R1_Twice F (y4)).bind fun y5 => if y5 = true then some (.inr (6)) else R3_Lists_L1 F v0 v1 g ((wrap64 (v3 + 1)))) else some (.inr (1))) else some (.inl (v3))
theorem R3_Lists_L1_0 (F : Nat) (v0 : Int) (v1 : List (List Int)) (v3 : Int) : R3_Lists_L1 F v0 v1 0 v3 = none := by rw [R3_Lists_L1]
theorem R3_Lists_L1_s (F g : Nat) (v0 : Int) (v1 : List (List Int)) (v3 : Int) : R3_Lists_L1 F v0 v1 (g+1) v3 = (if v3 < ((v1).length : Int) then ((ix v1 v3).bind fun y2 => (R1_All F (y2) (0) ((wrap64 (v0 - 1)))).bind fun y3 => if y3 = true then ((ix v1 v3).bind fun y4 => (R1_Twice F (y4)).bind fun y5 => if y5 = true then some (.inr (6)) else R3_Lists_L1 F v0 v1 g ((wrap64 (v3 + 1)))) else some (.inr (1))) else some (.inl (v3))) := by rw [R3_Lists_L1]
def R3_Lists (F : Nat) (v0 : Int) (v1 : List (List Int)) : Option (Int) := ((R3_in F (v0) (1) (6)).bind fun y1 => if y1 = true then (if 24 < ((v1).length : Int) then some (4) else (R3_Lists_L1 F (v0) (v1) F (0)).bind fun o6 => match o6 with | .inr r => some (r) | .inl o6 => some (0)) else some (1))
set_option maxRecDepth 100000 in
set_option maxHeartbeats 4000000 in
theorem R3_Lists_ok {F : Nat} {v0 : Int} {v1 : List (List Int)} {A1 : Option Addr} {r : Int} (w : World) (cap1 : Nat) (hr1 : ReadsR w w.heap.size A1 v1) (h : R3_Lists F v0 v1 = some r) :
    Calls Tryd.prog 4 #[.int .i64 v0, .slice A1 v1.length cap1] w fun e w' => e = .returned (.int .i64 r) ∧ Dr w w' := by
  have HR1 := Lib.hid hr1; clear hr1
  have HD := Lib.hid (Dr.refl w)
  unfold R3_Lists at h
  have HM := Lib.hid h; clear h
  go_enter Tryd.func4, Tryd.ntmps4
  obtain ⟨y3, hy1, hm⟩ := obind HM.out
  replace HM := Lib.hid hm; clear hm
  have HC2 := R3_in_ok w  hy1
  clear hy1
  replace HC2 := Lib.hid HC2
  cases y3
  · replace HM := Lib.hid (ifF Bool.false_ne_true HM.out)
    obtain rfl := Option.some.inj HM.out
    go_wp2_with fail
    refine HC2.out.mono ?_; rintro e w' ⟨rfl, rfl⟩
    go_wp2_with fail
    go_ret
    exact ⟨rfl, HD.out⟩
  · replace HM := Lib.hid (ifT rfl HM.out)
    by_cases hc4 : 24 < ((v1).length : Int)
    · replace HM := Lib.hid (ifT hc4 HM.out)
      have HK5 := Lib.hid hc4
      have hc4n := hc4; try norm_cast at hc4n
      obtain rfl := Option.some.inj HM.out
      go_wp2_with fail
      refine HC2.out.mono ?_; rintro e w' ⟨rfl, rfl⟩
      go_wp2_with fail
      try clear hc4 hc4n
      go_ret
      exact ⟨rfl, HD.out⟩
    · replace HM := Lib.hid (ifF hc4 HM.out)
      have hc4d := decide_eq_false hc4
      have HK5 := Lib.hid hc4
      have hc4n := hc4; try norm_cast at hc4n
      go_wp2_with fail
      refine HC2.out.mono ?_; rintro e w' ⟨rfl, rfl⟩
      go_wp2_with fail
      try clear hc4 hc4n hc4d
      obtain ⟨o6, ho, hm⟩ := obind HM.out
      replace HM := Lib.hid hm; have HL1 := Lib.hid ho; clear hm ho
      go_loopg [5] F (fun gg ux8 wr => ∃ (x7 : Int), ux8 = .int .i64 x7 ∧ Hid (Dr w wr) ∧ Hid (R3_Lists_L1 F (v0) (v1) gg x7 = some o6))
      case atStart => exact ⟨0, rfl, HD, HL1⟩
      case round =>
        obtain ⟨x7, rfl, HD, HL1⟩ := hrel
        rename World => W9
        cases gk with
        | zero => exact absurd ((R3_Lists_L1_0 ..).symm.trans HL1.out) (by intro h; cases h)
        | succ g1 =>
          replace HL1 := Lib.hid ((R3_Lists_L1_s ..).symm.trans HL1.out)
          by_cases hc10 : x7 < ((v1).length : Int)
          · replace HL1 := Lib.hid (ifT hc10 HL1.out)
            have HK11 := Lib.hid hc10
            obtain ⟨y12, hy13, hm⟩ := obind HL1.out
            replace HL1 := Lib.hid hm; clear hm
            obtain ⟨b14, o15, A21, cap22, ea16, _, f17, f18, f19, hrr, hrc⟩ := ReadsR.ixc (rdR (HD.out.below _) HR1.out) hy13
            cases ea16
            have HR23c := Lib.hid hrc; clear hrc
            try simp only [Nat.zero_add, Nat.add_zero, Int.toNat_natCast, Int.toNat_zero, Int.toNat_one] at f19
            have HR23 := Lib.hid hrr; clear hrr
            have HY24 := Lib.hid hy13; clear hy13
            obtain ⟨y27, hy25, hm⟩ := obind HL1.out
            replace HL1 := Lib.hid hm; clear hm
            have HC26 := R1_All_ok W9 cap22 HR23.out hy25
            clear hy25
            replace HC26 := Lib.hid HC26
            cases y27
            · replace HL1 := Lib.hid (ifF Bool.false_ne_true HL1.out)
              obtain rfl := Option.some.inj HL1.out
              have hm := HM.out; try dsimp only at hm
              replace HM := Lib.hid hm; clear hm
              obtain rfl := Option.some.inj HM.out
              go_wp2_with fail
              refine HC26.out.mono ?_; rintro e w' ⟨rfl, rfl⟩
              go_wp2_with fail
              try clear hc10 f17 f18 f19
              go_ret
              exact ⟨rfl, HD.out⟩
            · replace HL1 := Lib.hid (ifT rfl HL1.out)
              obtain ⟨y28, hy29, hm⟩ := obind HL1.out
              replace HL1 := Lib.hid hm; clear hm
              obtain rfl := Option.some.inj (HY24.out.symm.trans hy29)
              clear hy29
              obtain ⟨y32, hy30, hm⟩ := obind HL1.out
              replace HL1 := Lib.hid hm; clear hm
              have HC31 := R1_Twice_ok W9 cap22 HR23.out HR23c.out hy30
              clear hy30
              replace HC31 := Lib.hid HC31
              go_wp2_with fail
              refine HC26.out.mono ?_; rintro e w' ⟨rfl, rfl⟩
              go_wp2_with fail
              refine HC31.out.mono ?_; rintro e W33 ⟨rfl, hd⟩
              try clear hc10 f17 f18 f19
              replace HD := Lib.hid (HD.out.trans hd); clear hd
              cases y32
              · replace HL1 := Lib.hid (ifF Bool.false_ne_true HL1.out)
                go_wp2_with fail
                go_roundg g1
                case measure => omega
                case rel => exact ⟨(wrap64 (x7 + 1)), rfl, HD, HL1⟩
              · replace HL1 := Lib.hid (ifT rfl HL1.out)
                obtain rfl := Option.some.inj HL1.out
                have hm := HM.out; try dsimp only at hm
                replace HM := Lib.hid hm; clear hm
                obtain rfl := Option.some.inj HM.out
                go_wp2_with fail
                go_ret
                exact ⟨rfl, HD.out⟩
          · replace HL1 := Lib.hid (ifF hc10 HL1.out)
            have hc10d := decide_eq_false hc10
            have HK11 := Lib.hid hc10
            obtain rfl := Option.some.inj HL1.out
            have hm := HM.out; try dsimp only at hm
            replace HM := Lib.hid hm; clear hm
            obtain rfl := Option.some.inj HM.out
            go_wp2_with fail
            try clear hc10 hc10d
            go_ret
            exact ⟨rfl, HD.out⟩
def R3_May_L2 (F : Nat) (v0 : List (List Int)) (v1 : List Int) (v3 : Int) : Nat → (Bool) → (Int) → Option (Bool × Int)
  | 0, _, _ => none
  | g+1, v4, v5 => if v5 < ((v1).length : Int) then (if v4 = true then (ix v0 v3).bind fun y2 => (ix v1 v5).bind fun y3 => (R1_Has F (y2) (y3)).bind fun y4 => if y4 = true then some true else some false else some false).bind fun b1 => R3_May_L2 F v0 v1 v3 g (b1) ((wrap64 (v5 + 1))) else some (v4, v5)
theorem R3_May_L2_0 (F : Nat) (v0 : List (List Int)) (v1 : List Int) (v3 : Int) (v4 : Bool) (v5 : Int) : R3_May_L2 F v0 v1 v3 0 v4 v5 = none := by rw [R3_May_L2]
theorem R3_May_L2_s (F g : Nat) (v0 : List (List Int)) (v1 : List Int) (v3 : Int) (v4 : Bool) (v5 : Int) : R3_May_L2 F v0 v1 v3 (g+1) v4 v5 = (if v5 < ((v1).length : Int) then (if v4 = true then (ix v0 v3).bind fun y2 => (ix v1 v5).bind fun y3 => (R1_Has F (y2) (y3)).bind fun y4 => if y4 = true then some true else some false else some false).bind fun b1 => R3_May_L2 F v0 v1 v3 g (b1) ((wrap64 (v5 + 1))) else some (v4, v5)) := by rw [R3_May_L2]
def R3_May_L1 (F : Nat) (v0 : List (List Int)) (v1 : List Int) : Nat → (Int) → Option ((Int) ⊕ (Bool))
  | 0, _ => none
  | g+1, v3 => if v3 < ((v0).length : Int) then (R3_May_L2 F (v0) (v1) (v3) F (true) (0)).bind fun o5 => (if o5.1 = true then some (.inr (true)) else R3_May_L1 F v0 v1 g ((wrap64 (v3 + 1)))) else some (.inl (v3))
theorem R3_May_L1_0 (F : Nat) (v0 : List (List Int)) (v1 : List Int) (v3 : Int) : R3_May_L1 F v0 v1 0 v3 = none := by rw [R3_May_L1]
theorem R3_May_L1_s (F g : Nat) (v0 : List (List Int)) (v1 : List Int) (v3 : Int) : R3_May_L1 F v0 v1 (g+1) v3 = (if v3 < ((v0).length : Int) then (R3_May_L2 F (v0) (v1) (v3) F (true) (0)).bind fun o5 => (if o5.1 = true then some (.inr (true)) else R3_May_L1 F v0 v1 g ((wrap64 (v3 + 1)))) else some (.inl (v3))) := by rw [R3_May_L1]
def R3_May (F : Nat) (v0 : List (List Int)) (v1 : List Int) : Option (Bool) := (if (((v1).length : Int) == 0) = true then some (true) else (R3_May_L1 F (v0) (v1) F (0)).bind fun o6 => match o6 with | .inr r => some (r) | .inl o6 => some (false))
set_option maxRecDepth 100000 in
set_option maxHeartbeats 4000000 in
theorem R3_May_ok {F : Nat} {v0 : List (List Int)} {A0 : Option Addr} {v1 : List Int} {A1 : Option Addr} {r : Bool} (w : World) (cap0 : Nat) (hr0 : ReadsR w w.heap.size A0 v0) (cap1 : Nat) (hr1 : ReadsI w w.heap.size A1 v1) (h : R3_May F v0 v1 = some r) :
    Calls Tryd.prog 30 #[.slice A0 v0.length cap0, .slice A1 v1.length cap1] w fun e w' => e = .returned (.bool r) ∧ Dr w w' := by
  have HR0 := Lib.hid hr0; clear hr0
  have HR1 := Lib.hid hr1; clear hr1
  have HD := Lib.hid (Dr.refl w)
  unfold R3_May at h
  have HM := Lib.hid h; clear h
  go_enter Tryd.func30, Tryd.ntmps30
  rcases Bool.eq_false_or_eq_true (((v1).length : Int) == 0) with hc1 | hc1
  · replace HM := Lib.hid (ifT hc1 HM.out)
    have HK2 := Lib.hid hc1
    obtain rfl := Option.some.inj HM.out
    go_wp2_with fail
    go_ret
    exact ⟨(by first | rfl | (refine congrArg (fun b => Ending.returned (Value.bool b)) ?_; first | (exact decide_eq_true (by omega)) | (exact decide_eq_false (by omega)) | (have q := hc1; rw [bne_iff_ne] at q ⊢; omega) | (have q := hc1; rw [bne_eq_false_iff_eq] at q ⊢; omega) | (have q := hc1; rw [beq_iff_eq] at q ⊢; omega) | (have q := hc1; rw [beq_eq_false_iff_ne] at q ⊢; omega))), HD.out⟩
  · replace HM := Lib.hid (ifF (bF hc1) HM.out)
    have HK2 := Lib.hid hc1
    go_wp2_with fail
    try clear hc1
    obtain ⟨o3, ho, hm⟩ := obind HM.out
    replace HM := Lib.hid hm; have HL1 := Lib.hid ho; clear hm ho
    go_loopg [5] F (fun gg ux5 wr => ∃ (x4 : Int), ux5 = .int .i64 x4 ∧ Hid (Dr w wr) ∧ Hid (R3_May_L1 F (v0) (v1) gg x4 = some o3))
    case atStart => exact ⟨0, rfl, HD, HL1⟩
    case round =>
      obtain ⟨x4, rfl, HD, HL1⟩ := hrel
      rename World => W6
      cases gk with
      | zero => exact absurd ((R3_May_L1_0 ..).symm.trans HL1.out) (by intro h; cases h)
      | succ g1 =>
        replace HL1 := Lib.hid ((R3_May_L1_s ..).symm.trans HL1.out)
        by_cases hc7 : x4 < ((v0).length : Int)
        · replace HL1 := Lib.hid (ifT hc7 HL1.out)
          have HK8 := Lib.hid hc7
          go_wp2_with fail
          try clear hc7
          obtain ⟨o9, ho, hm⟩ := obind HL1.out
          replace HL1 := Lib.hid hm; have HL2 := Lib.hid ho; clear hm ho
          go_loopg [6, 7] F (fun gg ux12 ux13 wr => ∃ (x10 : Bool) (x11 : Int), ux12 = .bool x10 ∧ ux13 = .int .i64 x11 ∧ Hid (Dr w wr) ∧ Hid (R3_May_L2 F (v0) (v1) (x4) gg x10 x11 = some o9))
          case atStart => exact ⟨true, 0, rfl, rfl, HD, HL2⟩
          case round =>
            obtain ⟨x10, x11, rfl, rfl, HD, HL2⟩ := hrel
            rename World => W14
            cases gk with
            | zero => exact absurd ((R3_May_L2_0 ..).symm.trans HL2.out) (by intro h; cases h)
            | succ g2 =>
              replace HL2 := Lib.hid ((R3_May_L2_s ..).symm.trans HL2.out)
              by_cases hc15 : x11 < ((v1).length : Int)
              · replace HL2 := Lib.hid (ifT hc15 HL2.out)
                have HK16 := Lib.hid hc15
                try go_wp2_with fail
                try clear hc15
                obtain ⟨b17, hb, hm⟩ := obind HL2.out
                replace HL2 := Lib.hid hm; have HB18 := Lib.hid hb; clear hm hb
                cases x10
                · replace HB18 := Lib.hid (ifF Bool.false_ne_true HB18.out)
                  obtain rfl := Option.some.inj HB18.out
                  go_quiet (fail)
                  generalize hW : World.drewN W14 _ = W19
                  have hd : Dr W14 W19 := ⟨_, hW.symm⟩
                  clear hW
                  replace HD := Lib.hid (HD.out.trans hd); clear hd
                  go_wp2_with fail
                  go_roundg g2
                  case measure => omega
                  case rel => exact ⟨false, (wrap64 (x11 + 1)), rfl, rfl, HD, HL2⟩
                · replace HB18 := Lib.hid (ifT rfl HB18.out)
                  obtain ⟨y20, hy21, hm⟩ := obind HB18.out
                  replace HB18 := Lib.hid hm; clear hm
                  obtain ⟨b22, o23, A29, cap30, ea24, _, f25, f26, f27, hrr, hrc⟩ := ReadsR.ixc (rdR (HD.out.below _) HR0.out) hy21
                  cases ea24
                  have HR31c := Lib.hid hrc; clear hrc
                  try simp only [Nat.zero_add, Nat.add_zero, Int.toNat_natCast, Int.toNat_zero, Int.toNat_one] at f27
                  have HR31 := Lib.hid hrr; clear hrr
                  have HY32 := Lib.hid hy21; clear hy21
                  obtain ⟨y33, hy34, hm⟩ := obind HB18.out
                  replace HB18 := Lib.hid hm; clear hm
                  obtain ⟨b35, o36, ea37, _, f38, f39, f40⟩ := ReadsI.ix (rdI (HD.out.below _) HR1.out) hy34
                  cases ea37
                  try simp only [Nat.zero_add, Nat.add_zero, Int.toNat_natCast, Int.toNat_zero, Int.toNat_one] at f40
                  have HY42 := Lib.hid hy34; clear hy34
                  obtain ⟨y45, hy43, hm⟩ := obind HB18.out
                  replace HB18 := Lib.hid hm; clear hm
                  have HC44 := Lib.hid (fun m => R1_Has_ok (W14.drewN m) cap30 (ReadsI.drewN' HR31.out m) hy43)
                  clear hy43
                  cases y45
                  · replace HB18 := Lib.hid (ifF Bool.false_ne_true HB18.out)
                    obtain rfl := Option.some.inj HB18.out
                    go_quiet (first | (go_at_call 31; exact quiet_left (HC44.out _)))
                    generalize hW : World.drewN W14 _ = W46
                    have hd : Dr W14 W46 := ⟨_, hW.symm⟩
                    clear hW
                    try clear f25 f26 f27 f38 f39 f40
                    replace HD := Lib.hid (HD.out.trans hd); clear hd
                    go_wp2_with fail
                    go_roundg g2
                    case measure => omega
                    case rel => exact ⟨false, (wrap64 (x11 + 1)), rfl, rfl, HD, HL2⟩
                  · replace HB18 := Lib.hid (ifT rfl HB18.out)
                    obtain rfl := Option.some.inj HB18.out
                    go_quiet (first | (go_at_call 31; exact quiet_left (HC44.out _)))
                    generalize hW : World.drewN W14 _ = W47
                    have hd : Dr W14 W47 := ⟨_, hW.symm⟩
                    clear hW
                    try clear f25 f26 f27 f38 f39 f40
                    replace HD := Lib.hid (HD.out.trans hd); clear hd
                    go_wp2_with fail
                    go_roundg g2
                    case measure => omega
                    case rel => exact ⟨true, (wrap64 (x11 + 1)), rfl, rfl, HD, HL2⟩
              · replace HL2 := Lib.hid (ifF hc15 HL2.out)
                have hc15d := decide_eq_false hc15
                have HK16 := Lib.hid hc15
                obtain rfl := Option.some.inj HL2.out
                have hm := HL1.out; try dsimp only at hm
                replace HL1 := Lib.hid hm; clear hm
                cases x10
                · replace HL1 := Lib.hid (ifF Bool.false_ne_true HL1.out)
                  go_wp2_with fail
                  try clear hc15 hc15d
                  go_roundg g1
                  case measure => omega
                  case rel => exact ⟨(wrap64 (x4 + 1)), rfl, HD, HL1⟩
                · replace HL1 := Lib.hid (ifT rfl HL1.out)
                  obtain rfl := Option.some.inj HL1.out
                  have hm := HM.out; try dsimp only at hm
                  replace HM := Lib.hid hm; clear hm
                  obtain rfl := Option.some.inj HM.out
                  go_wp2_with fail
                  go_ret
                  exact ⟨(by first | rfl | (refine congrArg (fun b => Ending.returned (Value.bool b)) ?_; first | (exact decide_eq_true (by omega)) | (exact decide_eq_false (by omega)) | (have q := hc15; rw [bne_iff_ne] at q ⊢; omega) | (have q := hc15; rw [bne_eq_false_iff_eq] at q ⊢; omega) | (have q := hc15; rw [beq_iff_eq] at q ⊢; omega) | (have q := hc15; rw [beq_eq_false_iff_ne] at q ⊢; omega) | (have q := hc15d; rw [bne_iff_ne] at q ⊢; omega) | (have q := hc15d; rw [bne_eq_false_iff_eq] at q ⊢; omega) | (have q := hc15d; rw [beq_iff_eq] at q ⊢; omega) | (have q := hc15d; rw [beq_eq_false_iff_ne] at q ⊢; omega))), HD.out⟩
        · replace HL1 := Lib.hid (ifF hc7 HL1.out)
          have hc7d := decide_eq_false hc7
          have HK8 := Lib.hid hc7
          obtain rfl := Option.some.inj HL1.out
          have hm := HM.out; try dsimp only at hm
          replace HM := Lib.hid hm; clear hm
          obtain rfl := Option.some.inj HM.out
          go_wp2_with fail
          go_ret
          exact ⟨(by first | rfl | (refine congrArg (fun b => Ending.returned (Value.bool b)) ?_; first | (exact decide_eq_true (by omega)) | (exact decide_eq_false (by omega)) | (have q := hc7; rw [bne_iff_ne] at q ⊢; omega) | (have q := hc7; rw [bne_eq_false_iff_eq] at q ⊢; omega) | (have q := hc7; rw [beq_iff_eq] at q ⊢; omega) | (have q := hc7; rw [beq_eq_false_iff_ne] at q ⊢; omega) | (have q := hc7d; rw [bne_iff_ne] at q ⊢; omega) | (have q := hc7d; rw [bne_eq_false_iff_eq] at q ⊢; omega) | (have q := hc7d; rw [beq_iff_eq] at q ⊢; omega) | (have q := hc7d; rw [beq_eq_false_iff_ne] at q ⊢; omega))), HD.out⟩
end Go.Proofs.YtfaemblfffbmfaaDoor
