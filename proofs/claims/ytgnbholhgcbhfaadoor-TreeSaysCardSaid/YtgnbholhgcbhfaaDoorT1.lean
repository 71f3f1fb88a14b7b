import Derived.Test.YtgnbholhgcbhfaaDoorSrtS
import Derived.Test.YtgnbholhgcbhfaaDoorTCk
import Derived.Test.YtgnbholhgcbhfaaDoorGR
set_option linter.all false
set_option maxRecDepth 100000
namespace Go.Proofs.YtgnbholhgcbhfaaDoor
open Go.RowKit
def slices_Min_int_int_L1 (F : Nat) (v0 : List Int) : Nat → (Int) → (Int) → Option (Int × Int)
  | 0, _, _ => none
  | g+1, v2, v3 => if v3 < ((v0).length : Int) then (ix v0 v3).bind fun y2 => slices_Min_int_int_L1 F v0 g ((gmin v2 y2)) ((wrap64 (v3 + 1))) else some (v2, v3)
theorem slices_Min_int_int_L1_0 (F : Nat) (v0 : List Int) (v2 : Int) (v3 : Int) : slices_Min_int_int_L1 F v0 0 v2 v3 = none := by rw [slices_Min_int_int_L1]
theorem slices_Min_int_int_L1_s (F g : Nat) (v0 : List Int) (v2 : Int) (v3 : Int) : slices_Min_int_int_L1 F v0 (g+1) v2 v3 = (if v3 < ((v0).length : Int) then (ix v0 v3).bind fun y2 => slices_Min_int_int_L1 F v0 g ((gmin v2 y2)) ((wrap64 (v3 + 1))) else some (v2, v3)) := by rw [slices_Min_int_int_L1]
def slices_Min_int_int (F : Nat) (v0 : List Int) : Option (Int) := (if ((v0).length : Int) < 1 then none else (ix v0 0).bind fun y1 => (slices_Min_int_int_L1 F (v0) F (y1) (1)).bind fun o3 => some (o3.1))
set_option maxRecDepth 100000 in
set_option maxHeartbeats 4000000 in
theorem slices_Min_int_int_ok {F : Nat} {v0 : List Int} {A0 : Option Addr} {r : Int} (w : World) (cap0 : Nat) (hr0 : ReadsI w w.heap.size A0 v0) (h : slices_Min_int_int F v0 = some r) :
    Calls Tryd.prog 25 #[.slice A0 v0.length cap0] w fun e w' => e = .returned (.int .i64 r) ∧ w = w' := by
  have HR0 := Lib.hid hr0; clear hr0
  unfold slices_Min_int_int at h
  have HM := Lib.hid h; clear h
  go_enter Tryd.func25, Tryd.ntmps25
  by_cases hc1 : ((v0).length : Int) < 1
  · replace HM := Lib.hid (ifT hc1 HM.out)
    have HK2 := Lib.hid hc1
    have hc1n := hc1; try norm_cast at hc1n
    all_goals exact absurd HM.out (by intro h; cases h)
  · replace HM := Lib.hid (ifF hc1 HM.out)
    have hc1d := decide_eq_false hc1
    have HK2 := Lib.hid hc1
    have hc1n := hc1; try norm_cast at hc1n
    obtain ⟨y3, hy4, hm⟩ := obind HM.out
    replace HM := Lib.hid hm; clear hm
    obtain ⟨b5, o6, ea7, _, f8, f9, f10⟩ := ReadsI.ix HR0.out hy4
    cases ea7
    try simp only [Nat.zero_add, Nat.add_zero, Int.toNat_natCast, Int.toNat_zero, Int.toNat_one] at f10
    have f9n := f9; try norm_cast at f9n
    have HY12 := Lib.hid hy4; clear hy4
    go_wp2_with fail
    try clear hc1 hc1n hc1d f8 f9 f10 f9n
    obtain ⟨o13, ho, hm⟩ := obind HM.out
    replace HM := Lib.hid hm; have HL1 := Lib.hid ho; clear hm ho
    go_loopg [3, 4] F (fun gg ux16 ux17 wr => ∃ (x14 : Int) (x15 : Int), ux16 = .int .i64 x14 ∧ ux17 = .int .i64 x15 ∧ w = wr ∧ Hid (slices_Min_int_int_L1 F (v0) gg x14 x15 = some o13))
    case atStart => exact ⟨y3, 1, rfl, rfl, rfl, HL1⟩
    case round =>
      obtain ⟨x14, x15, rfl, rfl, rfl, HL1⟩ := hrel
      cases gk with
      | zero => exact absurd ((slices_Min_int_int_L1_0 ..).symm.trans HL1.out) (by intro h; cases h)
      | succ g1 =>
        replace HL1 := Lib.hid ((slices_Min_int_int_L1_s ..).symm.trans HL1.out)
        by_cases hc18 : x15 < ((v0).length : Int)
        · replace HL1 := Lib.hid (ifT hc18 HL1.out)
          have HK19 := Lib.hid hc18
          obtain ⟨y20, hy21, hm⟩ := obind HL1.out
          replace HL1 := Lib.hid hm; clear hm
          obtain ⟨b22, o23, ea24, _, f25, f26, f27⟩ := ReadsI.ix HR0.out hy21
          cases ea24
          try simp only [Nat.zero_add, Nat.add_zero, Int.toNat_natCast, Int.toNat_zero, Int.toNat_one] at f27
          have HY29 := Lib.hid hy21; clear hy21
          by_cases hc30 : y20 < x14
          · replace HL1 := Lib.hid (by have q := HL1.out; (try simp only [show gmin x14 y20 = y20 from if_pos hc30] at q); exact q)
            have HK31 := Lib.hid hc30
            have hc30x : y20 < x14 := by first | exact hc30 | (simp only [i64w]; exact hc30)
            have hc30y : ¬ (x14 ≤ y20) := by first | exact Int.not_le.2 hc30 | (simp only [i64w]; exact Int.not_le.2 hc30)
            have hc30m : min (x14) (y20) = y20 := by omega
            go_wp2_with fail
            try clear hc18 f25 f26 f27 hc30 hc30x hc30y hc30m
            go_roundg g1
            case measure => omega
            case rel => exact ⟨y20, (wrap64 (x15 + 1)), rfl, rfl, rfl, HL1⟩
          · replace HL1 := Lib.hid (by have q := HL1.out; (try simp only [show gmin x14 y20 = x14 from if_neg hc30] at q); exact q)
            have HK31 := Lib.hid hc30
            have hc30x : ¬ (y20 < x14) := by first | exact hc30 | (simp only [i64w]; exact hc30)
            have hc30y : x14 ≤ y20 := by first | exact Int.not_lt.1 hc30 | (simp only [i64w]; exact Int.not_lt.1 hc30)
            have hc30m : min (x14) (y20) = x14 := by omega
            go_wp2_with fail
            try clear hc18 f25 f26 f27 hc30 hc30x hc30y hc30m
            go_roundg g1
            case measure => omega
            case rel => exact ⟨x14, (wrap64 (x15 + 1)), rfl, rfl, rfl, HL1⟩
        · replace HL1 := Lib.hid (ifF hc18 HL1.out)
          have hc18d := decide_eq_false hc18
          have HK19 := Lib.hid hc18
          obtain rfl := Option.some.inj HL1.out
          have hm := HM.out; try dsimp only at hm
          replace HM := Lib.hid hm; clear hm
          obtain rfl := Option.some.inj HM.out
          go_wp2_with fail
          try clear hc18 hc18d
          go_ret
          exact ⟨rfl, rfl⟩
def slices_Max_int_int_L1 (F : Nat) (v0 : List Int) : Nat → (Int) → (Int) → Option (Int × Int)
  | 0, _, _ => none
  | g+1, v2, v3 => if v3 < ((v0).length : Int) then (ix v0 v3).bind fun y2 => slices_Max_int_int_L1 F v0 g ((gmax v2 y2)) ((wrap64 (v3 + 1))) else some (v2, v3)
theorem slices_Max_int_int_L1_0 (F : Nat) (v0 : List Int) (v2 : Int) (v3 : Int) : slices_Max_int_int_L1 F v0 0 v2 v3 = none := by rw [slices_Max_int_int_L1]
theorem slices_Max_int_int_L1_s (F g : Nat) (v0 : List Int) (v2 : Int) (v3 : Int) : slices_Max_int_int_L1 F v0 (g+1) v2 v3 = (if v3 < ((v0).length : Int) then (ix v0 v3).bind fun y2 => slices_Max_int_int_L1 F v0 g ((gmax v2 y2)) ((wrap64 (v3 + 1))) else some (v2, v3)) := by rw [slices_Max_int_int_L1]
def slices_Max_int_int (F : Nat) (v0 : List Int) : Option (Int) := (if ((v0).length : Int) < 1 then none else (ix v0 0).bind fun y1 => (slices_Max_int_int_L1 F (v0) F (y1) (1)).bind fun o3 => some (o3.1))
set_option maxRecDepth 100000 in
set_option maxHeartbeats 4000000 in
theorem slices_Max_int_int_ok {F : Nat} {v0 : List Int} {A0 : Option Addr} {r : Int} (w : World) (cap0 : Nat) (hr0 : ReadsI w w.heap.size A0 v0) (h : slices_Max_int_int F v0 = some r) :
    Calls Tryd.prog 26 #[.slice A0 v0.length cap0] w fun e w' => e = .returned (.int .i64 r) ∧ w = w' := by
  have HR0 := Lib.hid hr0; clear hr0
  unfold slices_Max_int_int at h
  have HM := Lib.hid h; clear h
  go_enter Tryd.func26, Tryd.ntmps26
  by_cases hc1 : ((v0).length : Int) < 1
  · replace HM := Lib.hid (ifT hc1 HM.out)
    have HK2 := Lib.hid hc1
    have hc1n := hc1; try norm_cast at hc1n
    all_goals exact absurd HM.out (by intro h; cases h)
  · replace HM := Lib.hid (ifF hc1 HM.out)
    have hc1d := decide_eq_false hc1
    have HK2 := Lib.hid hc1
    have hc1n := hc1; try norm_cast at hc1n
    obtain ⟨y3, hy4, hm⟩ := obind HM.out
    replace HM := Lib.hid hm; clear hm
    obtain ⟨b5, o6, ea7, _, f8, f9, f10⟩ := ReadsI.ix HR0.out hy4
    cases ea7
    try simp only [Nat.zero_add, Nat.add_zero, Int.toNat_natCast, Int.toNat_zero, Int.toNat_one] at f10
    have f9n := f9; try norm_cast at f9n
    have HY12 := Lib.hid hy4; clear hy4
    go_wp2_with fail
    try clear hc1 hc1n hc1d f8 f9 f10 f9n
    obtain ⟨o13, ho, hm⟩ := obind HM.out
    replace HM := Lib.hid hm; have HL1 := Lib.hid ho; clear hm ho
    go_loopg [3, 4] F (fun gg ux16 ux17 wr => ∃ (x14 : Int) (x15 : Int), ux16 = .int .i64 x14 ∧ ux17 = .int .i64 x15 ∧ w = wr ∧ Hid (slices_Max_int_int_L1 F (v0) gg x14 x15 = some o13))
    case atStart => exact ⟨y3, 1, rfl, rfl, rfl, HL1⟩
    case round =>
      obtain ⟨x14, x15, rfl, rfl, rfl, HL1⟩ := hrel
      cases gk with
      | zero => exact absurd ((slices_Max_int_int_L1_0 ..).symm.trans HL1.out) (by intro h; cases h)
      | succ g1 =>
        replace HL1 := Lib.hid ((slices_Max_int_int_L1_s ..).symm.trans HL1.out)
        by_cases hc18 : x15 < ((v0).length : Int)
        · replace HL1 := Lib.hid (ifT hc18 HL1.out)
          have HK19 := Lib.hid hc18
          obtain ⟨y20, hy21, hm⟩ := obind HL1.out
          replace HL1 := Lib.hid hm; clear hm
          obtain ⟨b22, o23, ea24, _, f25, f26, f27⟩ := ReadsI.ix HR0.out hy21
          cases ea24
          try simp only [Nat.zero_add, Nat.add_zero, Int.toNat_natCast, Int.toNat_zero, Int.toNat_one] at f27
          have HY29 := Lib.hid hy21; clear hy21
          by_cases hc30 : x14 < y20
          · replace HL1 := Lib.hid (by have q := HL1.out; (try simp only [show gmax x14 y20 = y20 from if_pos hc30] at q); exact q)
            have HK31 := Lib.hid hc30
            have hc30x : x14 < y20 := by first | exact hc30 | (simp only [i64w]; exact hc30)
            have hc30y : ¬ (y20 ≤ x14) := by first | exact Int.not_le.2 hc30 | (simp only [i64w]; exact Int.not_le.2 hc30)
            have hc30m : max (x14) (y20) = y20 := by omega
            go_wp2_with fail
            try clear hc18 f25 f26 f27 hc30 hc30x hc30y hc30m
            go_roundg g1
            case measure => omega
            case rel => exact ⟨y20, (wrap64 (x15 + 1)), rfl, rfl, rfl, HL1⟩
          · replace HL1 := Lib.hid (by have q := HL1.out; (try simp only [show gmax x14 y20 = x14 from if_neg hc30] at q); exact q)
            have HK31 := Lib.hid hc30
            have hc30x : ¬ (x14 < y20) := by first | exact hc30 | (simp only [i64w]; exact hc30)
            have hc30y : y20 ≤ x14 := by first | exact Int.not_lt.1 hc30 | (simp only [i64w]; exact Int.not_lt.1 hc30)
            have hc30m : max (x14) (y20) = x14 := by omega
            go_wp2_with fail
            try clear hc18 f25 f26 f27 hc30 hc30x hc30y hc30m
            go_roundg g1
            case measure => omega
            case rel => exact ⟨x14, (wrap64 (x15 + 1)), rfl, rfl, rfl, HL1⟩
        · replace HL1 := Lib.hid (ifF hc18 HL1.out)
          have hc18d := decide_eq_false hc18
          have HK19 := Lib.hid hc18
          obtain rfl := Option.some.inj HL1.out
          have hm := HM.out; try dsimp only at hm
          replace HM := Lib.hid hm; clear hm
          obtain rfl := Option.some.inj HM.out
          go_wp2_with fail
          try clear hc18 hc18d
          go_ret
          exact ⟨rfl, rfl⟩
def cmp_isNaN_string (F : Nat) (v0 : ByteArray) : Option (Bool) := (if ((v0).toList == (v0).toList) = true then some false else some true).bind fun b1 => some (b1)
set_option maxRecDepth 100000 in
set_option maxHeartbeats 4000000 in
theorem cmp_isNaN_string_ok {F : Nat} {v0 : ByteArray} {r : Bool} (w : World)  (h : cmp_isNaN_string F v0 = some r) :
    Calls Tryd.prog 40 #[.string v0] w fun e w' => e = .returned (.bool r) ∧ w = w' := by
  unfold cmp_isNaN_string at h
  have HM := Lib.hid h; clear h
  go_enter Tryd.func40, Tryd.ntmps40
  obtain ⟨b1, hb, hm⟩ := obind HM.out
  replace HM := Lib.hid hm; have HB2 := Lib.hid hb; clear hm hb
  have hc3 : ((v0).toList == (v0).toList) = true := beq_self_eq_true _
  replace HB2 := Lib.hid (ifT hc3 HB2.out)
  obtain rfl := Option.some.inj HB2.out
  obtain rfl := Option.some.inj HM.out
  go_wp2_with fail
  go_ret
  exact ⟨(by first | rfl | (refine congrArg (fun b => Ending.returned (Value.bool b)) ?_; first | (exact decide_eq_true (by omega)) | (exact decide_eq_false (by omega)) | (have q := hc3; rw [bne_iff_ne] at q ⊢; omega) | (have q := hc3; rw [bne_eq_false_iff_eq] at q ⊢; omega) | (have q := hc3; rw [beq_iff_eq] at q ⊢; omega) | (have q := hc3; rw [beq_eq_false_iff_ne] at q ⊢; omega) | exact hc3 | (rw [hc3]; rfl))), rfl⟩
def cmp_Compare_string (F : Nat) (v0 : ByteArray) (v1 : ByteArray) : Option (Int) := (cmp_isNaN_string F (v0)).bind fun y1 => (cmp_isNaN_string F (v1)).bind fun y2 => (if y1 = true then (if y2 = true then some (0) else some ((-1))) else (if y2 = true then some (1) else (if Go.Op.bytesLess (v0).toList (v1).toList = true then some ((-1)) else (if Go.Op.bytesLess (v0).toList (v1).toList = true then some (0) else if ((v0).toList == (v1).toList) = true then some (0) else some (1)))))
set_option maxRecDepth 100000 in
set_option maxHeartbeats 4000000 in
theorem cmp_Compare_string_ok {F : Nat} {v0 : ByteArray} {v1 : ByteArray} {r : Int} (w : World)  (h : cmp_Compare_string F v0 v1 = some r) :
    Calls Tryd.prog 30 #[.string v0, .string v1] w fun e w' => e = .returned (.int .i64 r) ∧ w = w' := by
  unfold cmp_Compare_string at h
  have HM := Lib.hid h; clear h
  go_enter Tryd.func30, Tryd.ntmps30
  obtain ⟨y3, hy1, hm⟩ := obind HM.out
  replace HM := Lib.hid hm; clear hm
  have HC2 := cmp_isNaN_string_ok w  hy1
  clear hy1
  replace HC2 := Lib.hid HC2
  obtain ⟨y6, hy4, hm⟩ := obind HM.out
  replace HM := Lib.hid hm; clear hm
  have HC5 := cmp_isNaN_string_ok w  hy4
  clear hy4
  replace HC5 := Lib.hid HC5
  cases y3
  · replace HM := Lib.hid (ifF Bool.false_ne_true HM.out)
    cases y6
    · replace HM := Lib.hid (ifF Bool.false_ne_true HM.out)
      rcases Bool.eq_false_or_eq_true (Go.Op.bytesLess (v0).toList (v1).toList) with hc7 | hc7
      · replace HM := Lib.hid (ifT hc7 HM.out)
        have HK8 := Lib.hid hc7
        obtain rfl := Option.some.inj HM.out
        go_wp2_with fail
        refine HC2.out.mono ?_; rintro e w' ⟨rfl, rfl⟩
        go_wp2_with fail
        refine HC5.out.mono ?_; rintro e w' ⟨rfl, rfl⟩
        go_wp2_with fail
        try clear hc7
        go_ret
        exact ⟨rfl, rfl⟩
      · replace HM := Lib.hid (ifF (bF hc7) HM.out)
        have HK8 := Lib.hid hc7
        have hc9 := HK8.out
        replace HM := Lib.hid (ifF (bF hc9) HM.out)
        rcases Bool.eq_false_or_eq_true (((v0).toList == (v1).toList)) with hc10 | hc10
        · replace HM := Lib.hid (ifT hc10 HM.out)
          have HK11 := Lib.hid hc10
          obtain rfl := Option.some.inj HM.out
          go_wp2_with fail
          refine HC2.out.mono ?_; rintro e w' ⟨rfl, rfl⟩
          go_wp2_with fail
          refine HC5.out.mono ?_; rintro e w' ⟨rfl, rfl⟩
          go_wp2_with fail
          try clear hc7 hc9 hc10
          go_ret
          exact ⟨rfl, rfl⟩
        · replace HM := Lib.hid (ifF (bF hc10) HM.out)
          have HK11 := Lib.hid hc10
          obtain rfl := Option.some.inj HM.out
          go_wp2_with fail
          refine HC2.out.mono ?_; rintro e w' ⟨rfl, rfl⟩
          go_wp2_with fail
          refine HC5.out.mono ?_; rintro e w' ⟨rfl, rfl⟩
          go_wp2_with fail
          try clear hc7 hc9 hc10
          go_ret
          exact ⟨rfl, rfl⟩
    · replace HM := Lib.hid (ifT rfl HM.out)
      obtain rfl := Option.some.inj HM.out
      go_wp2_with fail
      refine HC2.out.mono ?_; rintro e w' ⟨rfl, rfl⟩
      go_wp2_with fail
      refine HC5.out.mono ?_; rintro e w' ⟨rfl, rfl⟩
      go_wp2_with fail
      go_ret
      exact ⟨rfl, rfl⟩
  · replace HM := Lib.hid (ifT rfl HM.out)
    cases y6
    · replace HM := Lib.hid (ifF Bool.false_ne_true HM.out)
      obtain rfl := Option.some.inj HM.out
      go_wp2_with fail
      refine HC2.out.mono ?_; rintro e w' ⟨rfl, rfl⟩
      go_wp2_with fail
      refine HC5.out.mono ?_; rintro e w' ⟨rfl, rfl⟩
      go_wp2_with fail
      go_ret
      exact ⟨rfl, rfl⟩
    · replace HM := Lib.hid (ifT rfl HM.out)
      obtain rfl := Option.some.inj HM.out
      go_wp2_with fail
      refine HC2.out.mono ?_; rintro e w' ⟨rfl, rfl⟩
      go_wp2_with fail
      refine HC5.out.mono ?_; rintro e w' ⟨rfl, rfl⟩
      go_wp2_with fail
      go_ret
      exact ⟨rfl, rfl⟩
def brambleweir_tree_Name_1 (F : Nat) (v0 : ByteArray) (v1 : ByteArray) : Option (Int) := (cmp_Compare_string F (v0) (v1)).bind fun y1 => some (y1)
set_option maxRecDepth 100000 in
set_option maxHeartbeats 4000000 in
theorem brambleweir_tree_Name_1_ok {F : Nat} {v0 : ByteArray} {v1 : ByteArray} {r : Int} (w : World)  (h : brambleweir_tree_Name_1 F v0 v1 = some r) :
    Calls Tryd.prog 29 #[.string v0, .string v1] w fun e w' => e = .returned (.int .i64 r) ∧ w = w' := by
  unfold brambleweir_tree_Name_1 at h
  have HM := Lib.hid h; clear h
  go_enter Tryd.func29, Tryd.ntmps29
  obtain ⟨y3, hy1, hm⟩ := obind HM.out
  replace HM := Lib.hid hm; clear hm
  have HC2 := cmp_Compare_string_ok w  hy1
  clear hy1
  replace HC2 := Lib.hid HC2
  obtain rfl := Option.some.inj HM.out
  go_wp2_with fail
  refine HC2.out.mono ?_; rintro e w' ⟨rfl, rfl⟩
  go_wp2_with fail
  go_ret
  exact ⟨rfl, rfl⟩
def slices_MinFunc_string_string_L1 (F : Nat) (v0 : List ByteArray) (v1 : ByteArray → ByteArray → Option Int) : Nat → (ByteArray) → (Int) → Option (ByteArray × Int)
  | 0, _, _ => none
  | g+1, v3, v4 => if v4 < ((v0).length : Int) then ((ix v0 v4).bind fun y2 => (v1 (y2) (v3)).bind fun y3 => if y3 < 0 then (ix v0 v4).bind fun y4 => slices_MinFunc_string_string_L1 F v0 v1 g (y4) ((wrap64 (v4 + 1))) else slices_MinFunc_string_string_L1 F v0 v1 g (v3) ((wrap64 (v4 + 1)))) else some (v3, v4)
theorem slices_MinFunc_string_string_L1_0 (F : Nat) (v0 : List ByteArray) (v1 : ByteArray → ByteArray → Option Int) (v3 : ByteArray) (v4 : Int) : slices_MinFunc_string_string_L1 F v0 v1 0 v3 v4 = none := by rw [slices_MinFunc_string_string_L1]
theorem slices_MinFunc_string_string_L1_s (F g : Nat) (v0 : List ByteArray) (v1 : ByteArray → ByteArray → Option Int) (v3 : ByteArray) (v4 : Int) : slices_MinFunc_string_string_L1 F v0 v1 (g+1) v3 v4 = (if v4 < ((v0).length : Int) then ((ix v0 v4).bind fun y2 => (v1 (y2) (v3)).bind fun y3 => if y3 < 0 then (ix v0 v4).bind fun y4 => slices_MinFunc_string_string_L1 F v0 v1 g (y4) ((wrap64 (v4 + 1))) else slices_MinFunc_string_string_L1 F v0 v1 g (v3) ((wrap64 (v4 + 1)))) else some (v3, v4)) := by rw [slices_MinFunc_string_string_L1]
def slices_MinFunc_string_string (F : Nat) (v0 : List ByteArray) (v1 : ByteArray → ByteArray → Option Int) : Option (ByteArray) := (if ((v0).length : Int) < 1 then none else (ix v0 0).bind fun y1 => (slices_MinFunc_string_string_L1 F (v0) (v1) F (y1) (1)).bind fun o5 => some (o5.1))
set_option maxRecDepth 100000 in
set_option maxHeartbeats 4000000 in
theorem slices_MinFunc_string_string_ok {F : Nat} {v0 : List ByteArray} {A0 : Option Addr} {v1 : ByteArray → ByteArray → Option Int} {r : ByteArray} (w : World) (cap0 : Nat) (hr0 : ReadsS w w.heap.size A0 v0) (gf1 : Nat) (lb1 : Array Value) (eg1 : ∀ args w, (callFunc gf1 args).run Tryd.prog w = .ok (.enter gf1 args) w) (hp1 : PredS Tryd.prog gf1 lb1 v1 w) (h : slices_MinFunc_string_string F v0 v1 = some r) :
    Calls Tryd.prog 28 #[.slice A0 v0.length cap0, .func (.func gf1) #[] lb1] w fun e w' => e = .returned (.string r) ∧ Below w.heap.size w w' := by
  have HR0 := Lib.hid hr0; clear hr0
  have HP1 := Lib.hid hp1; clear hp1
  have HD := Lib.hid (Below.refl w.heap.size w)
  have HOA := Lib.hid (HP.nil (W := w) (B := w.heap.size))
  unfold slices_MinFunc_string_string at h
  have HM := Lib.hid h; clear h
  go_enter Tryd.func28, Tryd.ntmps28
  by_cases hc1 : ((v0).length : Int) < 1
  · replace HM := Lib.hid (ifT hc1 HM.out)
    have HK2 := Lib.hid hc1
    have hc1n := hc1; try norm_cast at hc1n
    all_goals exact absurd HM.out (by intro h; cases h)
  · replace HM := Lib.hid (ifF hc1 HM.out)
    have hc1d := decide_eq_false hc1
    have HK2 := Lib.hid hc1
    have hc1n := hc1; try norm_cast at hc1n
    obtain ⟨y3, hy4, hm⟩ := obind HM.out
    replace HM := Lib.hid hm; clear hm
    obtain ⟨b5, o6, ea7, _, f8, f9, f10⟩ := ReadsS.ix (rdS HD.out HR0.out) hy4
    cases ea7
    try simp only [Nat.zero_add, Nat.add_zero, Int.toNat_natCast, Int.toNat_zero, Int.toNat_one] at f10
    have HY12 := Lib.hid hy4; clear hy4
    go_wp2_with fail
    try clear hc1 hc1n hc1d f8 f9 f10
    obtain ⟨o13, ho, hm⟩ := obind HM.out
    replace HM := Lib.hid hm; have HL1 := Lib.hid ho; clear hm ho
    go_loopg [5, 6] F (fun gg ux16 ux17 wr => ∃ (x14 : ByteArray) (x15 : Int), ux16 = .string x14 ∧ ux17 = .int .i64 x15 ∧ Hid (Below w.heap.size w wr) ∧ Hid (slices_MinFunc_string_string_L1 F (v0) (v1) gg x14 x15 = some o13))
    case atStart => exact ⟨y3, 1, rfl, rfl, (Lib.hid (Below.refl _ _)), HL1⟩
    case round =>
      obtain ⟨x14, x15, rfl, rfl, HW1, HL1⟩ := hrel
      rename World => W18
      have hd := HW1.out
      replace HOA := Lib.hid (HOA.out.below hd)
      replace HD := Lib.hid (HD.out.trans (hd.mono HD.out.size))
      clear hd
      cases gk with
      | zero => exact absurd ((slices_MinFunc_string_string_L1_0 ..).symm.trans HL1.out) (by intro h; cases h)
      | succ g1 =>
        replace HL1 := Lib.hid ((slices_MinFunc_string_string_L1_s ..).symm.trans HL1.out)
        by_cases hc19 : x15 < ((v0).length : Int)
        · replace HL1 := Lib.hid (ifT hc19 HL1.out)
          have HK20 := Lib.hid hc19
          obtain ⟨y21, hy22, hm⟩ := obind HL1.out
          replace HL1 := Lib.hid hm; clear hm
          obtain ⟨b23, o24, ea25, _, f26, f27, f28⟩ := ReadsS.ix (rdS HD.out HR0.out) hy22
          cases ea25
          try simp only [Nat.zero_add, Nat.add_zero, Int.toNat_natCast, Int.toNat_zero, Int.toNat_one] at f28
          have HY30 := Lib.hid hy22; clear hy22
          obtain ⟨y33, hy31, hm⟩ := obind HL1.out
          replace HL1 := Lib.hid hm; clear hm
          have HC32 := Lib.hid (HP1.out W18 _ _ _ HD.out hy31); clear hy31
          go_wp2_with fail
          go_at_fn gf1
          refine HC32.out.mono ?_; rintro e W34 ⟨rfl, hd⟩
          try clear hc19 f26 f27 f28
          replace HOA := Lib.hid (HOA.out.below hd)
          replace HD := Lib.hid (HD.out.trans (hd.mono HD.out.size))
          replace HW1 := Lib.hid (HW1.out.trans (hd.mono HW1.out.size))
          clear hd
          by_cases hc35 : y33 < 0
          · replace HL1 := Lib.hid (ifT hc35 HL1.out)
            have HK36 := Lib.hid hc35
            obtain ⟨y37, hy38, hm⟩ := obind HL1.out
            replace HL1 := Lib.hid hm; clear hm
            obtain ⟨b39, o40, ea41, _, f42, f43, f44⟩ := ReadsS.ix (rdS HD.out HR0.out) hy38
            cases ea41
            try simp only [Nat.zero_add, Nat.add_zero, Int.toNat_natCast, Int.toNat_zero, Int.toNat_one] at f44
            have HY46 := Lib.hid hy38; clear hy38
            go_wp2_with fail
            try clear hc35 f42 f43 f44
            go_roundg g1
            case measure => omega
            case rel => exact ⟨y37, (wrap64 (x15 + 1)), rfl, rfl, HW1, HL1⟩
          · replace HL1 := Lib.hid (ifF hc35 HL1.out)
            have hc35d := decide_eq_false hc35
            have HK36 := Lib.hid hc35
            go_wp2_with fail
            try clear hc35 hc35d
            go_roundg g1
            case measure => omega
            case rel => exact ⟨x14, (wrap64 (x15 + 1)), rfl, rfl, HW1, HL1⟩
        · replace HL1 := Lib.hid (ifF hc19 HL1.out)
          have hc19d := decide_eq_false hc19
          have HK20 := Lib.hid hc19
          obtain rfl := Option.some.inj HL1.out
          have hm := HM.out; try dsimp only at hm
          replace HM := Lib.hid hm; clear hm
          obtain rfl := Option.some.inj HM.out
          go_wp2_with fail
          try clear hc19 hc19d
          go_ret
          exact ⟨rfl, HD.out⟩
def tree_far_L1 (F : Nat) (v0 : Int) (v1 : List (Int × Int)) : Nat → (Int) → (List Int) → Option (List Int)
  | 0, _, _ => none
  | g+1, j, v3 => if j < v0 then (walk_From F (v0) (v1) (j)).bind fun y1 => (slices_Max_int_int F (y1.1)).bind fun y3 => (app v3 y3).bind fun y2 => tree_far_L1 F v0 v1 g (wrap64 (j + 1)) (y2) else some (v3)
theorem tree_far_L1_0 (F : Nat) (v0 : Int) (v1 : List (Int × Int)) (v3 : List Int) (j : Int) : tree_far_L1 F v0 v1 0 j v3 = none := by rw [tree_far_L1]
theorem tree_far_L1_s (F g : Nat) (v0 : Int) (v1 : List (Int × Int)) (v3 : List Int) (j : Int) : tree_far_L1 F v0 v1 (g+1) j v3 = (if j < v0 then (walk_From F (v0) (v1) (j)).bind fun y1 => (slices_Max_int_int F (y1.1)).bind fun y3 => (app v3 y3).bind fun y2 => tree_far_L1 F v0 v1 g (wrap64 (j + 1)) (y2) else some (v3)) := by rw [tree_far_L1]
def tree_far (F : Nat) (v0 : Int) (v1 : List (Int × Int)) : Option (List Int) := (tree_far_L1 F (v0) (v1) F (0) ([])).bind fun o4 => some (o4)
set_option maxRecDepth 100000 in
set_option maxHeartbeats 4000000 in
theorem tree_far_ok {F : Nat} {v0 : Int} {v1 : List (Int × Int)} {A1 : Option Addr} {r : List Int} (w : World) (cap1 : Nat) (hr1 : ReadsL w w.heap.size A1 v1) (h : tree_far F v0 v1 = some r) :
    Calls Tryd.prog 24 #[.int .i64 v0, .slice A1 v1.length cap1] w (PostG (fun v => v) (fun v => owI v r) w.heap.size w) := by
  have HR1 := Lib.hid hr1; clear hr1
  have HD := Lib.hid (Below.refl w.heap.size w)
  have HOA := Lib.hid (HP.nil (W := w) (B := w.heap.size))
  unfold tree_far at h
  have HM := Lib.hid h; clear h
  go_enter Tryd.func24, Tryd.ntmps24
  replace HOA := Lib.hid (show HP _ _ (.fl (owI (.slice none 0 0) ([])) :: _) from HOA.out.pushNil _ _)
  go_wp2_with fail
  obtain ⟨o2, ho, hm⟩ := obind HM.out
  replace HM := Lib.hid hm; have HL1 := Lib.hid ho; clear hm ho
  go_loopg [10, 5] F (fun gg uj ux4 wr => ∃ (j6 : Int) (x3 : List Int) (V5 : Value), uj = .int .i64 j6 ∧ V5 = ux4 ∧ Hid (Below w.heap.size w wr) ∧ Hid (HP wr w.heap.size [.fl (owI V5 (x3))]) ∧ Hid (tree_far_L1 F (v0) (v1) gg j6 x3 = some o2))
  case atStart => exact ⟨0, [], (.slice none 0 0), rfl, rfl, HD, HOA, HL1⟩
  case round =>
    obtain ⟨j6, x3, V5, rfl, rfl, HD, HOA, HL1⟩ := hrel
    rename World => W7
    cases gk with
    | zero => exact absurd ((tree_far_L1_0 ..).symm.trans HL1.out) (by intro h; cases h)
    | succ g1 =>
      replace HL1 := Lib.hid ((tree_far_L1_s ..).symm.trans HL1.out)
      by_cases hc8 : j6 < v0
      · replace HL1 := Lib.hid (ifT hc8 HL1.out)
        have HK9 := Lib.hid hc8
        obtain ⟨⟨y12, y13⟩, hy10, hm⟩ := obind HL1.out
        dsimp only at hm
        replace HL1 := Lib.hid hm; clear hm
        have HC11 := walk_From_ok W7 cap1 (rdL HD.out HR1.out) hy10
        clear hy10
        replace HC11 := Lib.hid HC11
        go_wp2_with fail
        refine HC11.out.mono ?_; rintro e W14 ⟨V15, rfl, ho, hd⟩
        try clear hc8
        replace HOA := Lib.hid (HOA.out.call hd HD.out.size ho); clear ho
        replace HD := Lib.hid (HD.out.trans (hd.mono HD.out.size))
        clear hd
        obtain ⟨y19, hy17, hm⟩ := obind HL1.out
        replace HL1 := Lib.hid hm; clear hm
        obtain ⟨A20, cap21, he, _⟩ := HP.open_I HOA.out (List.Mem.head _)
        subst he
        have HC18 := slices_Max_int_int_ok W14 cap21 (HP.rd_I HOA.out (List.Mem.head _)) hy17
        clear hy17
        replace HC18 := Lib.hid HC18
        obtain ⟨y22, hy23, hm⟩ := obind HL1.out
        replace HL1 := Lib.hid hm; clear hm
        obtain ⟨f24, hy23⟩ := app_some hy23; subst hy23
        go_wp2_with fail
        refine HC18.out.mono ?_; rintro e w' ⟨rfl, rfl⟩
        have HF27 := Lib.hid f24; clear f24
        go_wp2_with (at_builtin; refine hp_appI _ (.tmp 20) (.tmp 23) 28 Tryd.underlying28 rfl rfl (L1 := [_]) HOA.out rfl rfl HF27.out HD.out.size ?_; intro V25 W26 hoa hd)
        replace HOA := Lib.hid (show HP W26 w.heap.size [.fl (owI (.slice A20 (y12).length cap21) (y12)), .fl (owI V25 ((x3 ++ [y19])))] from hoa); clear hoa
        replace HD := Lib.hid (HD.out.trans hd); clear hd
        go_wp2_with fail
        replace HOA := Lib.hid (HOA.out.sub (.cons _ (.cons₂ _ .slnil)))
        go_roundg g1
        case measure => omega
        case rel => exact ⟨(wrap64 (j6 + 1)), (x3 ++ [y19]), V25, rfl, rfl, HD, HOA, HL1⟩
      · replace HL1 := Lib.hid (ifF hc8 HL1.out)
        have hc8d := decide_eq_false hc8
        have HK9 := Lib.hid hc8
        obtain rfl := Option.some.inj HL1.out
        have hm := HM.out; try dsimp only at hm
        replace HM := Lib.hid hm; clear hm
        obtain rfl := Option.some.inj HM.out
        go_wp2_with fail
        try clear hc8 hc8d
        go_ret
        exact ⟨_, rfl, HOA.out.get (List.Mem.head _), HD.out⟩
def tree_Middle_L1 (F : Nat) (v6 : List Int) (v7 : Int) : Nat → (Int) → (List Int) → Option (List Int)
  | 0, _, _ => none
  | g+1, j, v8 => if j < ((v6).length : Int) then (ix v6 j).bind fun y => (if (y == v7) = true then (app v8 j).bind fun y4 => tree_Middle_L1 F v6 v7 g (wrap64 (j + 1)) (y4) else tree_Middle_L1 F v6 v7 g (wrap64 (j + 1)) (v8)) else some (v8)
theorem tree_Middle_L1_0 (F : Nat) (v6 : List Int) (v7 : Int) (v8 : List Int) (j : Int) : tree_Middle_L1 F v6 v7 0 j v8 = none := by rw [tree_Middle_L1]
theorem tree_Middle_L1_s (F g : Nat) (v6 : List Int) (v7 : Int) (v8 : List Int) (j : Int) : tree_Middle_L1 F v6 v7 (g+1) j v8 = (if j < ((v6).length : Int) then (ix v6 j).bind fun y => (if (y == v7) = true then (app v8 j).bind fun y4 => tree_Middle_L1 F v6 v7 g (wrap64 (j + 1)) (y4) else tree_Middle_L1 F v6 v7 g (wrap64 (j + 1)) (v8)) else some (v8)) := by rw [tree_Middle_L1]
def tree_Middle (F : Nat) (v0 : Int) (v1 : List (Int × Int)) : Option (List Int × Int × Int) := (tree_Check F (v0) (v1)).bind fun y1 => (if (y1 != 0) = true then some (([], 0, y1)) else (tree_far F (v0) (v1)).bind fun y2 => (slices_Min_int_int F (y2)).bind fun y3 => (tree_Middle_L1 F (y2) (y3) F (0) ([])).bind fun o5 => some ((o5, y3, 0)))
set_option maxRecDepth 100000 in
set_option maxHeartbeats 4000000 in
theorem tree_Middle_ok {F : Nat} {v0 : Int} {v1 : List (Int × Int)} {A1 : Option Addr} {r : List Int × Int × Int} (w : World) (cap1 : Nat) (hr1 : ReadsL w w.heap.size A1 v1) (h : tree_Middle F v0 v1 = some r) :
    Calls Tryd.prog 11 #[.int .i64 v0, .slice A1 v1.length cap1] w (PostG (fun v => (.tuple #[v, (.int .i64 r.2.1), (errV 43 r.2.2)])) (fun v => owI v r.1) w.heap.size w) := by
  have HR1 := Lib.hid hr1; clear hr1
  have HD := Lib.hid (Below.refl w.heap.size w)
  have HOA := Lib.hid (HP.nil (W := w) (B := w.heap.size))
  unfold tree_Middle at h
  have HM := Lib.hid h; clear h
  go_enter Tryd.func11, Tryd.ntmps11
  obtain ⟨y3, hy1, hm⟩ := obind HM.out
  replace HM := Lib.hid hm; clear hm
  have HC2 := tree_Check_ok w cap1 (rdL HD.out HR1.out) hy1
  clear hy1
  replace HC2 := Lib.hid HC2
  go_wp2_with fail
  refine HC2.out.mono ?_; rintro e W4 ⟨rfl, hd⟩
  replace HOA := Lib.hid (HOA.out.below hd)
  replace HD := Lib.hid (HD.out.trans (hd.mono HD.out.size))
  clear hd
  by_cases hz5 : y3 = 0
  · subst hz5
    try simp only [errV_zero]
    replace HM := Lib.hid (ifF (by decide) HM.out)
    obtain ⟨y9, hy7, hm⟩ := obind HM.out
    replace HM := Lib.hid hm; clear hm
    have HC8 := tree_far_ok W4 cap1 (rdL HD.out HR1.out) hy7
    clear hy7
    replace HC8 := Lib.hid HC8
    go_wp2_with fail
    refine HC8.out.mono ?_; rintro e W10 ⟨V11, rfl, ho, hd⟩
    replace HOA := Lib.hid (HOA.out.call hd HD.out.size ho); clear ho
    replace HD := Lib.hid (HD.out.trans (hd.mono HD.out.size))
    clear hd
    obtain ⟨y15, hy13, hm⟩ := obind HM.out
    replace HM := Lib.hid hm; clear hm
    obtain ⟨A16, cap17, he, _⟩ := HP.open_I HOA.out (List.Mem.head _)
    subst he
    have HC14 := slices_Min_int_int_ok W10 cap17 (HP.rd_I HOA.out (List.Mem.head _)) hy13
    clear hy13
    replace HC14 := Lib.hid HC14
    replace HOA := Lib.hid (show HP _ _ (.fl (owI (.slice none 0 0) ([])) :: _) from HOA.out.pushNil _ _)
    go_wp2_with fail
    refine HC14.out.mono ?_; rintro e w' ⟨rfl, rfl⟩
    go_wp2_with fail
    obtain ⟨o19, ho, hm⟩ := obind HM.out
    replace HM := Lib.hid hm; have HL1 := Lib.hid ho; clear hm ho
    go_loopg [26, 10] F (fun gg uj ux21 wr => ∃ (j23 : Int) (x20 : List Int) (V22 : Value), uj = .int .i64 j23 ∧ V22 = ux21 ∧ Hid (Below w.heap.size w wr) ∧ Hid (HP wr w.heap.size [.fl (owI V22 (x20)), .fl (owI (.slice A16 (y9).length cap17) (y9))]) ∧ Hid (tree_Middle_L1 F (y9) (y15) gg j23 x20 = some o19))
    case atStart => exact ⟨0, [], (.slice none 0 0), rfl, rfl, HD, HOA, HL1⟩
    case round =>
      obtain ⟨j23, x20, V22, rfl, rfl, HD, HOA, HL1⟩ := hrel
      rename World => W24
      cases gk with
      | zero => exact absurd ((tree_Middle_L1_0 ..).symm.trans HL1.out) (by intro h; cases h)
      | succ g1 =>
        replace HL1 := Lib.hid ((tree_Middle_L1_s ..).symm.trans HL1.out)
        by_cases hc25 : j23 < ((y9).length : Int)
        · replace HL1 := Lib.hid (ifT hc25 HL1.out)
          have HK26 := Lib.hid hc25
          try rw [← HP.len_I HOA.out (List.Mem.tail _ (List.Mem.head _))] at hc25
          obtain ⟨y27, hy28, hm⟩ := obind HL1.out
          replace HL1 := Lib.hid hm; clear hm
          obtain ⟨b29, o30, ea31, _, f32, f33, f34⟩ := ReadsI.ix (HP.rd_I HOA.out (List.Mem.tail _ (List.Mem.head _))) hy28
          cases ea31
          try simp only [Nat.zero_add, Nat.add_zero, Int.toNat_natCast, Int.toNat_zero, Int.toNat_one] at f34
          try rw [← HP.len_I HOA.out (List.Mem.tail _ (List.Mem.head _))] at f33
          have HY36 := Lib.hid hy28; clear hy28
          rcases Bool.eq_false_or_eq_true (y27 == y15) with hc37 | hc37
          · replace HL1 := Lib.hid (ifT hc37 HL1.out)
            have HK38 := Lib.hid hc37
            obtain ⟨y39, hy40, hm⟩ := obind HL1.out
            replace HL1 := Lib.hid hm; clear hm
            obtain ⟨f41, hy40⟩ := app_some hy40; subst hy40
            have HF44 := Lib.hid f41; clear f41
            go_wp2_with (at_builtin; refine hp_appI _ (.tmp 34) (.tmp 36) 28 Tryd.underlying28 rfl rfl (L1 := []) HOA.out rfl rfl HF44.out HD.out.size ?_; intro V42 W43 hoa hd)
            try clear hc25 f32 f33 f34 hc37
            replace HOA := Lib.hid (show HP W43 w.heap.size [.fl (owI V42 ((x20 ++ [j23]))), .fl (owI (.slice (some ⟨b29, o30, none⟩) (y9).length cap17) (y9))] from hoa); clear hoa
            replace HD := Lib.hid (HD.out.trans hd); clear hd
            go_wp2_with fail
            go_roundg g1
            case measure => omega
            case rel => exact ⟨(wrap64 (j23 + 1)), (x20 ++ [j23]), V42, rfl, rfl, HD, HOA, HL1⟩
          · replace HL1 := Lib.hid (ifF (bF hc37) HL1.out)
            have HK38 := Lib.hid hc37
            go_wp2_with fail
            try clear hc25 f32 f33 f34 hc37
            go_roundg g1
            case measure => omega
            case rel => exact ⟨(wrap64 (j23 + 1)), x20, V22, rfl, rfl, HD, HOA, HL1⟩
        · replace HL1 := Lib.hid (ifF hc25 HL1.out)
          have hc25d := decide_eq_false hc25
          have HK26 := Lib.hid hc25
          try rw [← HP.len_I HOA.out (List.Mem.tail _ (List.Mem.head _))] at hc25
          obtain rfl := Option.some.inj HL1.out
          have hm := HM.out; try dsimp only at hm
          replace HM := Lib.hid hm; clear hm
          obtain rfl := Option.some.inj HM.out
          go_wp2_with fail
          try clear hc25 hc25d
          go_ret3
          exact ⟨_, rfl, HOA.out.get (List.Mem.head _), HD.out⟩
  · try rw [errV_pos _ hz5]
    have HZ6 := Lib.hid hz5; clear hz5
    replace HM := Lib.hid (ifT (bne_iff_ne.2 HZ6.out) HM.out)
    obtain rfl := Option.some.inj HM.out
    go_wp2_with fail
    go_ret3
    exact ⟨_, (by first | (rw [errV_pos _ HZ6.out]; rfl) | rw [errV_pos _ HZ6.out]), World.ownsRow_nil _ _ _ _, HD.out⟩
def tree_Long (F : Nat) (v0 : Int) (v1 : List (Int × Int)) : Option (Int × Int) := (tree_Check F (v0) (v1)).bind fun y1 => (if (y1 != 0) = true then some ((0, y1)) else (tree_far F (v0) (v1)).bind fun y2 => (slices_Max_int_int F (y2)).bind fun y3 => some ((y3, 0)))
set_option maxRecDepth 100000 in
set_option maxHeartbeats 4000000 in
theorem tree_Long_ok {F : Nat} {v0 : Int} {v1 : List (Int × Int)} {A1 : Option Addr} {r : Int × Int} (w : World) (cap1 : Nat) (hr1 : ReadsL w w.heap.size A1 v1) (h : tree_Long F v0 v1 = some r) :
    Calls Tryd.prog 13 #[.int .i64 v0, .slice A1 v1.length cap1] w fun e w' => e = .returned (.tuple #[(.int .i64 r.1), (errV 43 r.2)]) ∧ Below w.heap.size w w' := by
  have HR1 := Lib.hid hr1; clear hr1
  have HD := Lib.hid (Below.refl w.heap.size w)
  have HOA := Lib.hid (HP.nil (W := w) (B := w.heap.size))
  unfold tree_Long at h
  have HM := Lib.hid h; clear h
  go_enter Tryd.func13, Tryd.ntmps13
  obtain ⟨y3, hy1, hm⟩ := obind HM.out
  replace HM := Lib.hid hm; clear hm
  have HC2 := tree_Check_ok w cap1 (rdL HD.out HR1.out) hy1
  clear hy1
  replace HC2 := Lib.hid HC2
  go_wp2_with fail
  refine HC2.out.mono ?_; rintro e W4 ⟨rfl, hd⟩
  replace HOA := Lib.hid (HOA.out.below hd)
  replace HD := Lib.hid (HD.out.trans (hd.mono HD.out.size))
  clear hd
  by_cases hz5 : y3 = 0
  · subst hz5
    try simp only [errV_zero]
    replace HM := Lib.hid (ifF (by decide) HM.out)
    obtain ⟨y9, hy7, hm⟩ := obind HM.out
    replace HM := Lib.hid hm; clear hm
    have HC8 := tree_far_ok W4 cap1 (rdL HD.out HR1.out) hy7
    clear hy7
    replace HC8 := Lib.hid HC8
    go_wp2_with fail
    refine HC8.out.mono ?_; rintro e W10 ⟨V11, rfl, ho, hd⟩
    replace HOA := Lib.hid (HOA.out.call hd HD.out.size ho); clear ho
    replace HD := Lib.hid (HD.out.trans (hd.mono HD.out.size))
    clear hd
    obtain ⟨y15, hy13, hm⟩ := obind HM.out
    replace HM := Lib.hid hm; clear hm
    obtain ⟨A16, cap17, he, _⟩ := HP.open_I HOA.out (List.Mem.head _)
    subst he
    have HC14 := slices_Max_int_int_ok W10 cap17 (HP.rd_I HOA.out (List.Mem.head _)) hy13
    clear hy13
    replace HC14 := Lib.hid HC14
    obtain rfl := Option.some.inj HM.out
    go_wp2_with fail
    refine HC14.out.mono ?_; rintro e w' ⟨rfl, rfl⟩
    go_wp2_with fail
    go_ret2
    exact ⟨rfl, HD.out⟩
  · try rw [errV_pos _ hz5]
    have HZ6 := Lib.hid hz5; clear hz5
    replace HM := Lib.hid (ifT (bne_iff_ne.2 HZ6.out) HM.out)
    obtain rfl := Option.some.inj HM.out
    go_wp2_with fail
    go_ret2
    exact ⟨(by first | (rw [errV_pos _ HZ6.out]; rfl) | rw [errV_pos _ HZ6.out]), HD.out⟩
end Go.Proofs.YtgnbholhgcbhfaaDoor
