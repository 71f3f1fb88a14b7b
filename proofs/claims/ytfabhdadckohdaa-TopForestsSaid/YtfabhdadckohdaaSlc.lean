import Derived.Test.YtfabhdadckohdaaClo
set_option linter.all false
set_option maxRecDepth 100000
namespace Go.Proofs.Ytfabhdadckohdaa
open Go.RowKit
def slices_Index_int_int_L1 (F : Nat) (v0 : List Int) (v1 : Int) : Nat → (Int) → Option ((Unit) ⊕ (Int))
  | 0, _ => none
  | g+1, j => if j < ((v0).length : Int) then ((ix v0 j).bind fun y1 => if (v1 == y1) = true then some (.inr (j)) else slices_Index_int_int_L1 F v0 v1 g (wrap64 (j + 1))) else some (.inl ())
theorem slices_Index_int_int_L1_0 (F : Nat) (v0 : List Int) (v1 : Int) (j : Int) : slices_Index_int_int_L1 F v0 v1 0 j = none := by rw [slices_Index_int_int_L1]
theorem slices_Index_int_int_L1_s (F g : Nat) (v0 : List Int) (v1 : Int) (j : Int) : slices_Index_int_int_L1 F v0 v1 (g+1) j = (if j < ((v0).length : Int) then ((ix v0 j).bind fun y1 => if (v1 == y1) = true then some (.inr (j)) else slices_Index_int_int_L1 F v0 v1 g (wrap64 (j + 1))) else some (.inl ())) := by rw [slices_Index_int_int_L1]
def slices_Index_int_int (F : Nat) (v0 : List Int) (v1 : Int) : Option (Int) := (slices_Index_int_int_L1 F (v0) (v1) F (0)).bind fun o2 => match o2 with | .inr r => some (r) | .inl o2 => some ((-1))
set_option maxRecDepth 100000 in
set_option maxHeartbeats 4000000 in
theorem slices_Index_int_int_ok {F : Nat} {v0 : List Int} {A0 : Option Addr} {v1 : Int} {r : Int} (w : World) (cap0 : Nat) (hr0 : ReadsI w w.heap.size A0 v0) (h : slices_Index_int_int F v0 v1 = some r) :
    Calls Try.prog 56 #[.slice A0 v0.length cap0, .int .i64 v1] w fun e w' => e = .returned (.int .i64 r) ∧ w = w' := by
  have HR0 := Lib.hid hr0; clear hr0
  unfold slices_Index_int_int at h
  have HM := Lib.hid h; clear h
  go_enter Try.func56, Try.ntmps56
  go_wp2_with fail
  obtain ⟨o1, ho, hm⟩ := obind HM.out
  replace HM := Lib.hid hm; have HL1 := Lib.hid ho; clear hm ho
  go_loopg [8] F (fun gg uj wr => ∃ (j2 : Int), uj = .int .i64 j2 ∧ w = wr ∧ Hid (slices_Index_int_int_L1 F (v0) (v1) gg j2 = some o1))
  case atStart => exact ⟨0, rfl, rfl, HL1⟩
  case round =>
    obtain ⟨j2, rfl, rfl, HL1⟩ := hrel
    cases gk with
    | zero => exact absurd ((slices_Index_int_int_L1_0 ..).symm.trans HL1.out) (by intro h; cases h)
    | succ g1 =>
      replace HL1 := Lib.hid ((slices_Index_int_int_L1_s ..).symm.trans HL1.out)
      by_cases hc3 : j2 < ((v0).length : Int)
      · replace HL1 := Lib.hid (ifT hc3 HL1.out)
        have HK4 := Lib.hid hc3
        obtain ⟨y5, hy6, hm⟩ := obind HL1.out
        replace HL1 := Lib.hid hm; clear hm
        obtain ⟨b7, o8, ea9, _, f10, f11, f12⟩ := ReadsI.ix HR0.out hy6
        cases ea9
        try simp only [Nat.zero_add, Nat.add_zero, Int.toNat_natCast, Int.toNat_zero, Int.toNat_one] at f12
        have HY14 := Lib.hid hy6; clear hy6
        rcases Bool.eq_false_or_eq_true (v1 == y5) with hc15 | hc15
        · replace HL1 := Lib.hid (ifT hc15 HL1.out)
          have HK16 := Lib.hid hc15
          obtain rfl := Option.some.inj HL1.out
          have hm := HM.out; try dsimp only at hm
          replace HM := Lib.hid hm; clear hm
          obtain rfl := Option.some.inj HM.out
          go_wp2_with fail
          try clear hc3 f10 f11 f12 hc15
          go_ret
          exact ⟨rfl, rfl⟩
        · replace HL1 := Lib.hid (ifF (bF hc15) HL1.out)
          have HK16 := Lib.hid hc15
          go_wp2_with fail
          try clear hc3 f10 f11 f12 hc15
          go_roundg g1
          case measure => omega
          case rel => exact ⟨(wrap64 (j2 + 1)), rfl, rfl, HL1⟩
      · replace HL1 := Lib.hid (ifF hc3 HL1.out)
        have hc3d := decide_eq_false hc3
        have HK4 := Lib.hid hc3
        obtain rfl := Option.some.inj HL1.out
        have hm := HM.out; try dsimp only at hm
        replace HM := Lib.hid hm; clear hm
        obtain rfl := Option.some.inj HM.out
        go_wp2_with fail
        try clear hc3 hc3d
        go_ret
        exact ⟨rfl, rfl⟩
def slices_Contains_int_int (F : Nat) (v0 : List Int) (v1 : Int) : Option (Bool) := ((slices_Index_int_int F (v0) (v1)).bind fun y2 => if 0 ≤ y2 then some true else some false).bind fun b1 => some (b1)
set_option maxRecDepth 100000 in
set_option maxHeartbeats 4000000 in
theorem slices_Contains_int_int_ok {F : Nat} {v0 : List Int} {A0 : Option Addr} {v1 : Int} {r : Bool} (w : World) (cap0 : Nat) (hr0 : ReadsI w w.heap.size A0 v0) (h : slices_Contains_int_int F v0 v1 = some r) :
    Calls Try.prog 31 #[.slice A0 v0.length cap0, .int .i64 v1] w fun e w' => e = .returned (.bool r) ∧ w = w' := by
  have HR0 := Lib.hid hr0; clear hr0
  unfold slices_Contains_int_int at h
  have HM := Lib.hid h; clear h
  go_enter Try.func31, Try.ntmps31
  obtain ⟨b1, hb, hm⟩ := obind HM.out
  replace HM := Lib.hid hm; have HB2 := Lib.hid hb; clear hm hb
  obtain ⟨y5, hy3, hm⟩ := obind HB2.out
  replace HB2 := Lib.hid hm; clear hm
  have HC4 := slices_Index_int_int_ok w cap0 HR0.out hy3
  clear hy3
  replace HC4 := Lib.hid HC4
  by_cases hc6 : 0 ≤ y5
  · replace HB2 := Lib.hid (ifT hc6 HB2.out)
    have HK7 := Lib.hid hc6
    obtain rfl := Option.some.inj HB2.out
    obtain rfl := Option.some.inj HM.out
    go_wp2_with fail
    refine HC4.out.mono ?_; rintro e w' ⟨rfl, rfl⟩
    go_wp2_with fail
    go_ret
    exact ⟨(by first | rfl | (refine congrArg (fun b => Ending.returned (Value.bool b)) ?_; first | (exact decide_eq_true (by omega)) | (exact decide_eq_false (by omega)) | (have q := hc6; rw [bne_iff_ne] at q ⊢; omega) | (have q := hc6; rw [bne_eq_false_iff_eq] at q ⊢; omega) | (have q := hc6; rw [beq_iff_eq] at q ⊢; omega) | (have q := hc6; rw [beq_eq_false_iff_ne] at q ⊢; omega))), rfl⟩
  · replace HB2 := Lib.hid (ifF hc6 HB2.out)
    have hc6d := decide_eq_false hc6
    have HK7 := Lib.hid hc6
    obtain rfl := Option.some.inj HB2.out
    obtain rfl := Option.some.inj HM.out
    go_wp2_with fail
    refine HC4.out.mono ?_; rintro e w' ⟨rfl, rfl⟩
    go_wp2_with fail
    go_ret
    exact ⟨(by first | rfl | (refine congrArg (fun b => Ending.returned (Value.bool b)) ?_; first | (exact decide_eq_true (by omega)) | (exact decide_eq_false (by omega)) | (have q := hc6; rw [bne_iff_ne] at q ⊢; omega) | (have q := hc6; rw [bne_eq_false_iff_eq] at q ⊢; omega) | (have q := hc6; rw [beq_iff_eq] at q ⊢; omega) | (have q := hc6; rw [beq_eq_false_iff_ne] at q ⊢; omega) | (have q := hc6d; rw [bne_iff_ne] at q ⊢; omega) | (have q := hc6d; rw [bne_eq_false_iff_eq] at q ⊢; omega) | (have q := hc6d; rw [beq_iff_eq] at q ⊢; omega) | (have q := hc6d; rw [beq_eq_false_iff_ne] at q ⊢; omega))), rfl⟩
def slices_IndexFunc_int_int_L1 (F : Nat) (v0 : List Int) (v1 : Int → Option Bool) : Nat → (Int) → Option ((Unit) ⊕ (Int))
  | 0, _ => none
  | g+1, j => if j < ((v0).length : Int) then ((ix v0 j).bind fun y1 => (v1 (y1)).bind fun y2 => if y2 = true then some (.inr (j)) else slices_IndexFunc_int_int_L1 F v0 v1 g (wrap64 (j + 1))) else some (.inl ())
theorem slices_IndexFunc_int_int_L1_0 (F : Nat) (v0 : List Int) (v1 : Int → Option Bool) (j : Int) : slices_IndexFunc_int_int_L1 F v0 v1 0 j = none := by rw [slices_IndexFunc_int_int_L1]
theorem slices_IndexFunc_int_int_L1_s (F g : Nat) (v0 : List Int) (v1 : Int → Option Bool) (j : Int) : slices_IndexFunc_int_int_L1 F v0 v1 (g+1) j = (if j < ((v0).length : Int) then ((ix v0 j).bind fun y1 => (v1 (y1)).bind fun y2 => if y2 = true then some (.inr (j)) else slices_IndexFunc_int_int_L1 F v0 v1 g (wrap64 (j + 1))) else some (.inl ())) := by rw [slices_IndexFunc_int_int_L1]
def slices_IndexFunc_int_int (F : Nat) (v0 : List Int) (v1 : Int → Option Bool) : Option (Int) := (slices_IndexFunc_int_int_L1 F (v0) (v1) F (0)).bind fun o3 => match o3 with | .inr r => some (r) | .inl o3 => some ((-1))
set_option maxRecDepth 100000 in
set_option maxHeartbeats 4000000 in
theorem slices_IndexFunc_int_int_ok {F : Nat} {v0 : List Int} {A0 : Option Addr} {v1 : Int → Option Bool} {r : Int} (w : World) (cap0 : Nat) (hr0 : ReadsI w w.heap.size A0 v0) (gf1 : Nat) (lb1 : Array Value) (eg1 : ∀ args w, (callFunc gf1 args).run Try.prog w = .ok (.enter gf1 args) w) (hp1 : PredB Try.prog gf1 lb1 v1 w) (h : slices_IndexFunc_int_int F v0 v1 = some r) :
    Calls Try.prog 25 #[.slice A0 v0.length cap0, .func (.func gf1) #[] lb1] w fun e w' => e = .returned (.int .i64 r) ∧ Below w.heap.size w w' := by
  have HR0 := Lib.hid hr0; clear hr0
  have HP1 := Lib.hid hp1; clear hp1
  have HD := Lib.hid (Below.refl w.heap.size w)
  have HOA := Lib.hid (HP.nil (W := w) (B := w.heap.size))
  unfold slices_IndexFunc_int_int at h
  have HM := Lib.hid h; clear h
  go_enter Try.func25, Try.ntmps25
  go_wp2_with fail
  obtain ⟨o1, ho, hm⟩ := obind HM.out
  replace HM := Lib.hid hm; have HL1 := Lib.hid ho; clear hm ho
  go_loopg [8] F (fun gg uj wr => ∃ (j2 : Int), uj = .int .i64 j2 ∧ Hid (Below w.heap.size w wr) ∧ Hid (slices_IndexFunc_int_int_L1 F (v0) (v1) gg j2 = some o1))
  case atStart => exact ⟨0, rfl, (Lib.hid (Below.refl _ _)), HL1⟩
  case round =>
    obtain ⟨j2, rfl, HW1, HL1⟩ := hrel
    rename World => W3
    have hd := HW1.out
    replace HOA := Lib.hid (HOA.out.below hd)
    replace HD := Lib.hid (HD.out.trans (hd.mono HD.out.size))
    clear hd
    cases gk with
    | zero => exact absurd ((slices_IndexFunc_int_int_L1_0 ..).symm.trans HL1.out) (by intro h; cases h)
    | succ g1 =>
      replace HL1 := Lib.hid ((slices_IndexFunc_int_int_L1_s ..).symm.trans HL1.out)
      by_cases hc4 : j2 < ((v0).length : Int)
      · replace HL1 := Lib.hid (ifT hc4 HL1.out)
        have HK5 := Lib.hid hc4
        obtain ⟨y6, hy7, hm⟩ := obind HL1.out
        replace HL1 := Lib.hid hm; clear hm
        obtain ⟨b8, o9, ea10, _, f11, f12, f13⟩ := ReadsI.ix (rdI HD.out HR0.out) hy7
        cases ea10
        try simp only [Nat.zero_add, Nat.add_zero, Int.toNat_natCast, Int.toNat_zero, Int.toNat_one] at f13
        have HY15 := Lib.hid hy7; clear hy7
        obtain ⟨y18, hy16, hm⟩ := obind HL1.out
        replace HL1 := Lib.hid hm; clear hm
        have HC17 := Lib.hid (HP1.out W3 _ _ HD.out hy16); clear hy16
        go_wp2_with fail
        go_at_fn gf1
        refine HC17.out.mono ?_; rintro e W19 ⟨rfl, hd⟩
        try clear hc4 f11 f12 f13
        replace HOA := Lib.hid (HOA.out.below hd)
        replace HD := Lib.hid (HD.out.trans (hd.mono HD.out.size))
        replace HW1 := Lib.hid (HW1.out.trans (hd.mono HW1.out.size))
        clear hd
        cases y18
        · replace HL1 := Lib.hid (ifF Bool.false_ne_true HL1.out)
          go_wp2_with fail
          go_roundg g1
          case measure => omega
          case rel => exact ⟨(wrap64 (j2 + 1)), rfl, HW1, HL1⟩
        · replace HL1 := Lib.hid (ifT rfl HL1.out)
          obtain rfl := Option.some.inj HL1.out
          have hm := HM.out; try dsimp only at hm
          replace HM := Lib.hid hm; clear hm
          obtain rfl := Option.some.inj HM.out
          go_wp2_with fail
          go_ret
          exact ⟨rfl, HD.out⟩
      · replace HL1 := Lib.hid (ifF hc4 HL1.out)
        have hc4d := decide_eq_false hc4
        have HK5 := Lib.hid hc4
        obtain rfl := Option.some.inj HL1.out
        have hm := HM.out; try dsimp only at hm
        replace HM := Lib.hid hm; clear hm
        obtain rfl := Option.some.inj HM.out
        go_wp2_with fail
        try clear hc4 hc4d
        go_ret
        exact ⟨rfl, HD.out⟩
def slices_ContainsFunc_int_int (F : Nat) (v0 : List Int) (v1 : Int → Option Bool) : Option (Bool) := ((slices_IndexFunc_int_int F (v0) (v1)).bind fun y2 => if 0 ≤ y2 then some true else some false).bind fun b1 => some (b1)
set_option maxRecDepth 100000 in
set_option maxHeartbeats 4000000 in
theorem slices_ContainsFunc_int_int_ok {F : Nat} {v0 : List Int} {A0 : Option Addr} {v1 : Int → Option Bool} {r : Bool} (w : World) (cap0 : Nat) (hr0 : ReadsI w w.heap.size A0 v0) (gf1 : Nat) (lb1 : Array Value) (eg1 : ∀ args w, (callFunc gf1 args).run Try.prog w = .ok (.enter gf1 args) w) (hp1 : PredB Try.prog gf1 lb1 v1 w) (h : slices_ContainsFunc_int_int F v0 v1 = some r) :
    Calls Try.prog 40 #[.slice A0 v0.length cap0, .func (.func gf1) #[] lb1] w fun e w' => e = .returned (.bool r) ∧ Below w.heap.size w w' := by
  have HR0 := Lib.hid hr0; clear hr0
  have HP1 := Lib.hid hp1; clear hp1
  have HD := Lib.hid (Below.refl w.heap.size w)
  have HOA := Lib.hid (HP.nil (W := w) (B := w.heap.size))
  unfold slices_ContainsFunc_int_int at h
  have HM := Lib.hid h; clear h
  go_enter Try.func40, Try.ntmps40
  obtain ⟨b1, hb, hm⟩ := obind HM.out
  replace HM := Lib.hid hm; have HB2 := Lib.hid hb; clear hm hb
  obtain ⟨y5, hy3, hm⟩ := obind HB2.out
  replace HB2 := Lib.hid hm; clear hm
  have HC4 := slices_IndexFunc_int_int_ok w cap0 (rdI HD.out HR0.out) gf1 lb1 eg1 (HP1.out.at HD.out) hy3
  clear hy3
  replace HC4 := Lib.hid HC4
  go_wp2_with fail
  refine HC4.out.mono ?_; rintro e W6 ⟨rfl, hd⟩
  replace HOA := Lib.hid (HOA.out.below hd)
  replace HD := Lib.hid (HD.out.trans (hd.mono HD.out.size))
  clear hd
  by_cases hc7 : 0 ≤ y5
  · replace HB2 := Lib.hid (ifT hc7 HB2.out)
    have HK8 := Lib.hid hc7
    obtain rfl := Option.some.inj HB2.out
    obtain rfl := Option.some.inj HM.out
    go_wp2_with fail
    go_ret
    exact ⟨(by first | rfl | (refine congrArg (fun b => Ending.returned (Value.bool b)) ?_; first | (exact decide_eq_true (by omega)) | (exact decide_eq_false (by omega)) | (have q := hc7; rw [bne_iff_ne] at q ⊢; omega) | (have q := hc7; rw [bne_eq_false_iff_eq] at q ⊢; omega) | (have q := hc7; rw [beq_iff_eq] at q ⊢; omega) | (have q := hc7; rw [beq_eq_false_iff_ne] at q ⊢; omega))), HD.out⟩
  · replace HB2 := Lib.hid (ifF hc7 HB2.out)
    have hc7d := decide_eq_false hc7
    have HK8 := Lib.hid hc7
    obtain rfl := Option.some.inj HB2.out
    obtain rfl := Option.some.inj HM.out
    go_wp2_with fail
    go_ret
    exact ⟨(by first | rfl | (refine congrArg (fun b => Ending.returned (Value.bool b)) ?_; first | (exact decide_eq_true (by omega)) | (exact decide_eq_false (by omega)) | (have q := hc7; rw [bne_iff_ne] at q ⊢; omega) | (have q := hc7; rw [bne_eq_false_iff_eq] at q ⊢; omega) | (have q := hc7; rw [beq_iff_eq] at q ⊢; omega) | (have q := hc7; rw [beq_eq_false_iff_ne] at q ⊢; omega) | (have q := hc7d; rw [bne_iff_ne] at q ⊢; omega) | (have q := hc7d; rw [bne_eq_false_iff_eq] at q ⊢; omega) | (have q := hc7d; rw [beq_iff_eq] at q ⊢; omega) | (have q := hc7d; rw [beq_eq_false_iff_ne] at q ⊢; omega))), HD.out⟩
end Go.Proofs.Ytfabhdadckohdaa
