import Derived.Test.YtfaemblfffbmfaaDoorSlc
import Derived.Test.YtfaemblfffbmfaaDoorGR
import Derived.Test.YtfaemblfffbmfaaDoorHP2
import Derived.Test.YtfaemblfffbmfaaDoorTl
set_option linter.all false
set_option maxRecDepth 100000
namespace Go.Proofs.YtfaemblfffbmfaaDoor
open Go.RowKit
def brambleweir_rank_may_1_L1 (F : Nat) (v0 : List Int) : Nat → (Int) → (Nat) → Option (Nat)
  | 0, _, _ => none
  | g+1, j, v2 => if j < ((v0).length : Int) then (ix v0 j).bind fun y => (sWith (v2) (y)).bind fun y1 => brambleweir_rank_may_1_L1 F v0 g (wrap64 (j + 1)) (y1) else some (v2)
theorem brambleweir_rank_may_1_L1_0 (F : Nat) (v0 : List Int) (v2 : Nat) (j : Int) : brambleweir_rank_may_1_L1 F v0 0 j v2 = none := by rw [brambleweir_rank_may_1_L1]
theorem brambleweir_rank_may_1_L1_s (F g : Nat) (v0 : List Int) (v2 : Nat) (j : Int) : brambleweir_rank_may_1_L1 F v0 (g+1) j v2 = (if j < ((v0).length : Int) then (ix v0 j).bind fun y => (sWith (v2) (y)).bind fun y1 => brambleweir_rank_may_1_L1 F v0 g (wrap64 (j + 1)) (y1) else some (v2)) := by rw [brambleweir_rank_may_1_L1]
def brambleweir_rank_may_1 (F : Nat) (v1000 : Nat) (v0 : List Int) : Option (Bool) := (brambleweir_rank_may_1_L1 F (v0) F (0) (0)).bind fun o2 => ((sNot v1000 o2).bind fun y4 => if (y4 == 0) = true then some true else some false).bind fun b3 => some (b3)
set_option maxRecDepth 100000 in
set_option maxHeartbeats 4000000 in
theorem brambleweir_rank_may_1_ok {F : Nat} {v0 : List Int} {A0 : Option Addr} {v1000 : Nat} {g1000 : Nat} {r : Bool} (w : World) (cap0 : Nat) (hr0 : ReadsI w w.heap.size A0 v0) (hx1000 : w.cell? ⟨g1000, 0, none⟩ = some (.int .u64 ((v1000 : Nat) : Int))) (h : brambleweir_rank_may_1 F v1000 v0 = some r) :
    Calls Tryd.prog 43 #[.slice A0 v0.length cap0, .pointer (some ⟨g1000, 0, none⟩)] w fun e w' => e = .returned (.bool r) ∧ w = w' := by
  have HR0 := Lib.hid hr0; clear hr0
  have HX1000 := Lib.hid hx1000; clear hx1000
  unfold brambleweir_rank_may_1 at h
  have HM := Lib.hid h; clear h
  go_enter Tryd.func43, Tryd.ntmps43
  go_wp2_with fail
  obtain ⟨o1, ho, hm⟩ := obind HM.out
  replace HM := Lib.hid hm; have HL1 := Lib.hid ho; clear hm ho
  go_loopg [9, 4] F (fun gg uj ux3 wr => ∃ (j4 : Int) (x2 : Nat), uj = .int .i64 j4 ∧ ux3 = .int .u64 ((x2 : Nat) : Int) ∧ w = wr ∧ Hid (brambleweir_rank_may_1_L1 F (v0) gg j4 x2 = some o1))
  case atStart => exact ⟨0, 0, rfl, rfl, rfl, HL1⟩
  case round =>
    obtain ⟨j4, x2, rfl, rfl, rfl, HL1⟩ := hrel
    cases gk with
    | zero => exact absurd ((brambleweir_rank_may_1_L1_0 ..).symm.trans HL1.out) (by intro h; cases h)
    | succ g1 =>
      replace HL1 := Lib.hid ((brambleweir_rank_may_1_L1_s ..).symm.trans HL1.out)
      by_cases hc5 : j4 < ((v0).length : Int)
      · replace HL1 := Lib.hid (ifT hc5 HL1.out)
        have HK6 := Lib.hid hc5
        obtain ⟨y7, hy8, hm⟩ := obind HL1.out
        replace HL1 := Lib.hid hm; clear hm
        obtain ⟨b9, o10, ea11, _, f12, f13, f14⟩ := ReadsI.ix HR0.out hy8
        cases ea11
        try simp only [Nat.zero_add, Nat.add_zero, Int.toNat_natCast, Int.toNat_zero, Int.toNat_one] at f14
        have HY16 := Lib.hid hy8; clear hy8
        obtain ⟨y19, hy17, hm⟩ := obind HL1.out
        replace HL1 := Lib.hid hm; clear hm
        have HC18 := sWith_ok w  hy17
        clear hy17
        replace HC18 := Lib.hid HC18
        go_wp2_with fail
        refine HC18.out.mono ?_; rintro e w' ⟨rfl, rfl⟩
        go_wp2_with fail
        try clear hc5 f12 f13 f14
        go_roundg g1
        case measure => omega
        case rel => exact ⟨(wrap64 (j4 + 1)), y19, rfl, rfl, rfl, HL1⟩
      · replace HL1 := Lib.hid (ifF hc5 HL1.out)
        have hc5d := decide_eq_false hc5
        have HK6 := Lib.hid hc5
        obtain rfl := Option.some.inj HL1.out
        have hm := HM.out; try dsimp only at hm
        replace HM := Lib.hid hm; clear hm
        obtain ⟨b20, hb, hm⟩ := obind HM.out
        replace HM := Lib.hid hm; have HB21 := Lib.hid hb; clear hm hb
        have fb22 := HX1000.out
        obtain ⟨y23, hy24, hm⟩ := obind HB21.out
        replace HB21 := Lib.hid hm; clear hm
        obtain ⟨f25, hy24⟩ := sNot_some hy24; subst hy24
        rcases Bool.eq_false_or_eq_true ((Pl.ndiff v1000 x2) == 0) with hc26 | hc26
        · replace HB21 := Lib.hid (ifT hc26 HB21.out)
          have HK27 := Lib.hid hc26
          obtain rfl := Option.some.inj HB21.out
          obtain rfl := Option.some.inj HM.out
          go_wp2_with fail
          try clear fb22 f25
          go_ret
          exact ⟨(by first | rfl | (refine congrArg (fun b => Ending.returned (Value.bool b)) ?_; first | (exact decide_eq_true (by omega)) | (exact decide_eq_false (by omega)) | (have q := hc5d; rw [bne_iff_ne] at q ⊢; omega) | (have q := hc5d; rw [bne_eq_false_iff_eq] at q ⊢; omega) | (have q := hc5d; rw [beq_iff_eq] at q ⊢; omega) | (have q := hc5d; rw [beq_eq_false_iff_ne] at q ⊢; omega) | (have q := hc26; rw [bne_iff_ne] at q ⊢; omega) | (have q := hc26; rw [bne_eq_false_iff_eq] at q ⊢; omega) | (have q := hc26; rw [beq_iff_eq] at q ⊢; omega) | (have q := hc26; rw [beq_eq_false_iff_ne] at q ⊢; omega))), rfl⟩
        · replace HB21 := Lib.hid (ifF (bF hc26) HB21.out)
          have HK27 := Lib.hid hc26
          obtain rfl := Option.some.inj HB21.out
          obtain rfl := Option.some.inj HM.out
          go_wp2_with fail
          try clear fb22 f25
          go_ret
          exact ⟨(by first | rfl | (refine congrArg (fun b => Ending.returned (Value.bool b)) ?_; first | (exact decide_eq_true (by omega)) | (exact decide_eq_false (by omega)) | (have q := hc5d; rw [bne_iff_ne] at q ⊢; omega) | (have q := hc5d; rw [bne_eq_false_iff_eq] at q ⊢; omega) | (have q := hc5d; rw [beq_iff_eq] at q ⊢; omega) | (have q := hc5d; rw [beq_eq_false_iff_ne] at q ⊢; omega) | (have q := hc26; rw [bne_iff_ne] at q ⊢; omega) | (have q := hc26; rw [bne_eq_false_iff_eq] at q ⊢; omega) | (have q := hc26; rw [beq_iff_eq] at q ⊢; omega) | (have q := hc26; rw [beq_eq_false_iff_ne] at q ⊢; omega))), rfl⟩
def slices_IndexFunc_rows_L1 (F : Nat) (v0 : List (List Int)) (v1 : List Int → Option Bool) : Nat → (Int) → Option ((Unit) ⊕ (Int))
  | 0, _ => none
  | g+1, j => if j < ((v0).length : Int) then ((ix v0 j).bind fun y1 => (v1 (y1)).bind fun y2 => if y2 = true then some (.inr (j)) else slices_IndexFunc_rows_L1 F v0 v1 g (wrap64 (j + 1))) else some (.inl ())
theorem slices_IndexFunc_rows_L1_0 (F : Nat) (v0 : List (List Int)) (v1 : List Int → Option Bool) (j : Int) : slices_IndexFunc_rows_L1 F v0 v1 0 j = none := by rw [slices_IndexFunc_rows_L1]
theorem slices_IndexFunc_rows_L1_s (F g : Nat) (v0 : List (List Int)) (v1 : List Int → Option Bool) (j : Int) : slices_IndexFunc_rows_L1 F v0 v1 (g+1) j = (if j < ((v0).length : Int) then ((ix v0 j).bind fun y1 => (v1 (y1)).bind fun y2 => if y2 = true then some (.inr (j)) else slices_IndexFunc_rows_L1 F v0 v1 g (wrap64 (j + 1))) else some (.inl ())) := by rw [slices_IndexFunc_rows_L1]
def slices_IndexFunc_rows (F : Nat) (v0 : List (List Int)) (v1 : List Int → Option Bool) : Option (Int) := (slices_IndexFunc_rows_L1 F (v0) (v1) F (0)).bind fun o3 => match o3 with | .inr r => some (r) | .inl o3 => some ((-1))
set_option maxRecDepth 100000 in
set_option maxHeartbeats 4000000 in
theorem slices_IndexFunc_rows_ok {F : Nat} {v0 : List (List Int)} {A0 : Option Addr} {v1 : List Int → Option Bool} {r : Int} (w : World) (cap0 : Nat) (hr0 : ReadsR w w.heap.size A0 v0) (gf1 : Nat) (lb1 : Array Value) (eg1 : ∀ args w, (callFunc gf1 args).run Tryd.prog w = .ok (.enter gf1 args) w) (hp1 : PredR Tryd.prog gf1 lb1 v1 w) (h : slices_IndexFunc_rows F v0 v1 = some r) :
    Calls Tryd.prog 55 #[.slice A0 v0.length cap0, .func (.func gf1) #[] lb1] w fun e w' => e = .returned (.int .i64 r) ∧ Below w.heap.size w w' := by
  have HR0 := Lib.hid hr0; clear hr0
  have HP1 := Lib.hid hp1; clear hp1
  have HD := Lib.hid (Below.refl w.heap.size w)
  have HOA := Lib.hid (HP.nil (W := w) (B := w.heap.size))
  unfold slices_IndexFunc_rows at h
  have HM := Lib.hid h; clear h
  go_enter Tryd.func55, Tryd.ntmps55
  go_wp2_with fail
  obtain ⟨o1, ho, hm⟩ := obind HM.out
  replace HM := Lib.hid hm; have HL1 := Lib.hid ho; clear hm ho
  go_loopg [8] F (fun gg uj wr => ∃ (j2 : Int), uj = .int .i64 j2 ∧ Hid (Below w.heap.size w wr) ∧ Hid (slices_IndexFunc_rows_L1 F (v0) (v1) gg j2 = some o1))
  case atStart => exact ⟨0, rfl, (Lib.hid (Below.refl _ _)), HL1⟩
  case round =>
    obtain ⟨j2, rfl, HW1, HL1⟩ := hrel
    rename World => W3
    have hd := HW1.out
    replace HOA := Lib.hid (HOA.out.below hd)
    replace HD := Lib.hid (HD.out.trans (hd.mono HD.out.size))
    clear hd
    cases gk with
    | zero => exact absurd ((slices_IndexFunc_rows_L1_0 ..).symm.trans HL1.out) (by intro h; cases h)
    | succ g1 =>
      replace HL1 := Lib.hid ((slices_IndexFunc_rows_L1_s ..).symm.trans HL1.out)
      by_cases hc4 : j2 < ((v0).length : Int)
      · replace HL1 := Lib.hid (ifT hc4 HL1.out)
        have HK5 := Lib.hid hc4
        obtain ⟨y6, hy7, hm⟩ := obind HL1.out
        replace HL1 := Lib.hid hm; clear hm
        obtain ⟨b8, o9, A15, cap16, ea10, _, f11, f12, f13, hrr, hrc⟩ := ReadsR.ixc (rdR HD.out HR0.out) hy7
        cases ea10
        have HR17c := Lib.hid hrc; clear hrc
        try simp only [Nat.zero_add, Nat.add_zero, Int.toNat_natCast, Int.toNat_zero, Int.toNat_one] at f13
        have HR17 := Lib.hid hrr; clear hrr
        have HY18 := Lib.hid hy7; clear hy7
        obtain ⟨y21, hy19, hm⟩ := obind HL1.out
        replace HL1 := Lib.hid hm; clear hm
        have HC20 := Lib.hid (HP1.out W3 _ cap16 _ _ HD.out HR17.out hy19); clear hy19
        go_wp2_with fail
        go_at_fn gf1
        refine HC20.out.mono ?_; rintro e W22 ⟨rfl, hd⟩
        try clear hc4 f11 f12 f13
        replace HOA := Lib.hid (HOA.out.below hd)
        replace HR17 := Lib.hid (rdI hd HR17.out)
        replace HD := Lib.hid (HD.out.trans (hd.mono HD.out.size))
        replace HW1 := Lib.hid (HW1.out.trans (hd.mono HW1.out.size))
        clear hd
        cases y21
        · replace HL1 := Lib.hid (ifF Bool.false_ne_true HL1.out)
          go_wp2_with fail
          go_roundg g1
          case measure => omega
          case rel => exact ⟨(wrap64 (j2 + 1)), rfl, HW1, HL1⟩
        · replace HL1 := Lib.hid (ifT rfl HL1.out)
          obtain rfl := Option.some.inj HL1.out
          have hm := HM.out; try dsimp only at hm
          replace HM := Lib.hid hm; clear hm
          obtain rfl := Option.some.inj HM.out
          go_wp2_with fail
          go_ret
          exact ⟨rfl, HD.out⟩
      · replace HL1 := Lib.hid (ifF hc4 HL1.out)
        have hc4d := decide_eq_false hc4
        have HK5 := Lib.hid hc4
        obtain rfl := Option.some.inj HL1.out
        have hm := HM.out; try dsimp only at hm
        replace HM := Lib.hid hm; clear hm
        obtain rfl := Option.some.inj HM.out
        go_wp2_with fail
        try clear hc4 hc4d
        go_ret
        exact ⟨rfl, HD.out⟩
def slices_ContainsFunc_rows (F : Nat) (v0 : List (List Int)) (v1 : List Int → Option Bool) : Option (Bool) := ((slices_IndexFunc_rows F (v0) (v1)).bind fun y2 => if 0 ≤ y2 then some true else some false).bind fun b1 => some (b1)
set_option maxRecDepth 100000 in
set_option maxHeartbeats 4000000 in
theorem slices_ContainsFunc_rows_ok {F : Nat} {v0 : List (List Int)} {A0 : Option Addr} {v1 : List Int → Option Bool} {r : Bool} (w : World) (cap0 : Nat) (hr0 : ReadsR w w.heap.size A0 v0) (gf1 : Nat) (lb1 : Array Value) (eg1 : ∀ args w, (callFunc gf1 args).run Tryd.prog w = .ok (.enter gf1 args) w) (hp1 : PredR Tryd.prog gf1 lb1 v1 w) (h : slices_ContainsFunc_rows F v0 v1 = some r) :
    Calls Tryd.prog 42 #[.slice A0 v0.length cap0, .func (.func gf1) #[] lb1] w fun e w' => e = .returned (.bool r) ∧ Below w.heap.size w w' := by
  have HR0 := Lib.hid hr0; clear hr0
  have HP1 := Lib.hid hp1; clear hp1
  have HD := Lib.hid (Below.refl w.heap.size w)
  have HOA := Lib.hid (HP.nil (W := w) (B := w.heap.size))
  unfold slices_ContainsFunc_rows at h
  have HM := Lib.hid h; clear h
  go_enter Tryd.func42, Tryd.ntmps42
  obtain ⟨b1, hb, hm⟩ := obind HM.out
  replace HM := Lib.hid hm; have HB2 := Lib.hid hb; clear hm hb
  obtain ⟨y5, hy3, hm⟩ := obind HB2.out
  replace HB2 := Lib.hid hm; clear hm
  have HC4 := slices_IndexFunc_rows_ok w cap0 (rdR HD.out HR0.out) gf1 lb1 eg1 (HP1.out.at HD.out) hy3
  clear hy3
  replace HC4 := Lib.hid HC4
  go_wp2_with fail
  refine HC4.out.mono ?_; rintro e W6 ⟨rfl, hd⟩
  replace HOA := Lib.hid (HOA.out.below hd)
  replace HD := Lib.hid (HD.out.trans (hd.mono HD.out.size))
  clear hd
  by_cases hc7 : 0 ≤ y5
  · replace HB2 := Lib.hid (ifT hc7 HB2.out)
    have HK8 := Lib.hid hc7
    obtain rfl := Option.some.inj HB2.out
    obtain rfl := Option.some.inj HM.out
    go_wp2_with fail
    go_ret
    exact ⟨(by first | rfl | (refine congrArg (fun b => Ending.returned (Value.bool b)) ?_; first | (exact decide_eq_true (by omega)) | (exact decide_eq_false (by omega)) | (have q := hc7; rw [bne_iff_ne] at q ⊢; omega) | (have q := hc7; rw [bne_eq_false_iff_eq] at q ⊢; omega) | (have q := hc7; rw [beq_iff_eq] at q ⊢; omega) | (have q := hc7; rw [beq_eq_false_iff_ne] at q ⊢; omega))), HD.out⟩
  · replace HB2 := Lib.hid (ifF hc7 HB2.out)
    have hc7d := decide_eq_false hc7
    have HK8 := Lib.hid hc7
    obtain rfl := Option.some.inj HB2.out
    obtain rfl := Option.some.inj HM.out
    go_wp2_with fail
    go_ret
    exact ⟨(by first | rfl | (refine congrArg (fun b => Ending.returned (Value.bool b)) ?_; first | (exact decide_eq_true (by omega)) | (exact decide_eq_false (by omega)) | (have q := hc7; rw [bne_iff_ne] at q ⊢; omega) | (have q := hc7; rw [bne_eq_false_iff_eq] at q ⊢; omega) | (have q := hc7; rw [beq_iff_eq] at q ⊢; omega) | (have q := hc7; rw [beq_eq_false_iff_ne] at q ⊢; omega) | (have q := hc7d; rw [bne_iff_ne] at q ⊢; omega) | (have q := hc7d; rw [bne_eq_false_iff_eq] at q ⊢; omega) | (have q := hc7d; rw [beq_iff_eq] at q ⊢; omega) | (have q := hc7d; rw [beq_eq_false_iff_ne] at q ⊢; omega))), HD.out⟩
def rank_Check_L2 (F : Nat) (v4 : List Int) : Nat → (Int) → Option ((Unit) ⊕ (Int))
  | 0, _ => none
  | g+1, j => if j < ((v4).length : Int) then (ix v4 j).bind fun y => ((tk v4 j).bind fun y3 => (slices_Contains_int_int F (y3) (y)).bind fun y4 => if y4 = true then some (.inr (6)) else rank_Check_L2 F v4 g (wrap64 (j + 1))) else some (.inl ())
theorem rank_Check_L2_0 (F : Nat) (v4 : List Int) (j : Int) : rank_Check_L2 F v4 0 j = none := by rw [rank_Check_L2]
theorem rank_Check_L2_s (F g : Nat) (v4 : List Int) (j : Int) : rank_Check_L2 F v4 (g+1) j = (if j < ((v4).length : Int) then (ix v4 j).bind fun y => ((tk v4 j).bind fun y3 => (slices_Contains_int_int F (y3) (y)).bind fun y4 => if y4 = true then some (.inr (6)) else rank_Check_L2 F v4 g (wrap64 (j + 1))) else some (.inl ())) := by rw [rank_Check_L2]
def rank_Check_L1 (F : Nat) (v0 : Int) (v1 : List (List Int)) : Nat → (Int) → Option ((Unit) ⊕ (Int))
  | 0, _ => none
  | g+1, j => if j < ((v1).length : Int) then (ix v1 j).bind fun y => ((core_All F (y) (0) ((wrap64 (v0 - 1)))).bind fun y2 => if y2 = true then (rank_Check_L2 F (y) F (0)).bind fun o5 => match o5 with | .inr r => some (.inr (r)) | .inl o5 => rank_Check_L1 F v0 v1 g (wrap64 (j + 1)) else some (.inr (1))) else some (.inl ())
theorem rank_Check_L1_0 (F : Nat) (v0 : Int) (v1 : List (List Int)) (j : Int) : rank_Check_L1 F v0 v1 0 j = none := by rw [rank_Check_L1]
theorem rank_Check_L1_s (F g : Nat) (v0 : Int) (v1 : List (List Int)) (j : Int) : rank_Check_L1 F v0 v1 (g+1) j = (if j < ((v1).length : Int) then (ix v1 j).bind fun y => ((core_All F (y) (0) ((wrap64 (v0 - 1)))).bind fun y2 => if y2 = true then (rank_Check_L2 F (y) F (0)).bind fun o5 => match o5 with | .inr r => some (.inr (r)) | .inl o5 => rank_Check_L1 F v0 v1 g (wrap64 (j + 1)) else some (.inr (1))) else some (.inl ())) := by rw [rank_Check_L1]
def rank_Check (F : Nat) (v0 : Int) (v1 : List (List Int)) : Option (Int) := ((core_Within F (v0) (1) (6)).bind fun y1 => if y1 = true then (if 24 < ((v1).length : Int) then some (4) else (rank_Check_L1 F (v0) (v1) F (0)).bind fun o6 => match o6 with | .inr r => some (r) | .inl o6 => some (0)) else some (1))
set_option maxRecDepth 100000 in
set_option maxHeartbeats 4000000 in
theorem rank_Check_ok {F : Nat} {v0 : Int} {v1 : List (List Int)} {A1 : Option Addr} {r : Int} (w : World) (cap1 : Nat) (hr1 : ReadsR w w.heap.size A1 v1) (h : rank_Check F v0 v1 = some r) :
    Calls Tryd.prog 6 #[.int .i64 v0, .slice A1 v1.length cap1] w fun e w' => e = .returned (errV 44 r) ∧ w = w' := by
  have HR1 := Lib.hid hr1; clear hr1
  unfold rank_Check at h
  have HM := Lib.hid h; clear h
  go_enter Tryd.func6, Tryd.ntmps6
  obtain ⟨y3, hy1, hm⟩ := obind HM.out
  replace HM := Lib.hid hm; clear hm
  have HC2 := core_Within_ok w  hy1
  clear hy1
  replace HC2 := Lib.hid HC2
  cases y3
  · replace HM := Lib.hid (ifF Bool.false_ne_true HM.out)
    obtain rfl := Option.some.inj HM.out
    go_wp2_with fail
    refine HC2.out.mono ?_; rintro e w' ⟨rfl, rfl⟩
    go_wp2_with fail
    go_ret
    exact ⟨rfl, rfl⟩
  · replace HM := Lib.hid (ifT rfl HM.out)
    by_cases hc4 : 24 < ((v1).length : Int)
    · replace HM := Lib.hid (ifT hc4 HM.out)
      have HK5 := Lib.hid hc4
      have hc4n := hc4; try norm_cast at hc4n
      obtain rfl := Option.some.inj HM.out
      go_wp2_with fail
      refine HC2.out.mono ?_; rintro e w' ⟨rfl, rfl⟩
      go_wp2_with fail
      try clear hc4 hc4n
      go_ret
      exact ⟨rfl, rfl⟩
    · replace HM := Lib.hid (ifF hc4 HM.out)
      have hc4d := decide_eq_false hc4
      have HK5 := Lib.hid hc4
      have hc4n := hc4; try norm_cast at hc4n
      go_wp2_with fail
      refine HC2.out.mono ?_; rintro e w' ⟨rfl, rfl⟩
      go_wp2_with fail
      try clear hc4 hc4n hc4d
      obtain ⟨o6, ho, hm⟩ := obind HM.out
      replace HM := Lib.hid hm; have HL1 := Lib.hid ho; clear hm ho
      go_loopg [19] F (fun gg uj wr => ∃ (j7 : Int), uj = .int .i64 j7 ∧ w = wr ∧ Hid (rank_Check_L1 F (v0) (v1) gg j7 = some o6))
      case atStart => exact ⟨0, rfl, rfl, HL1⟩
      case round =>
        obtain ⟨j7, rfl, rfl, HL1⟩ := hrel
        cases gk with
        | zero => exact absurd ((rank_Check_L1_0 ..).symm.trans HL1.out) (by intro h; cases h)
        | succ g1 =>
          replace HL1 := Lib.hid ((rank_Check_L1_s ..).symm.trans HL1.out)
          by_cases hc8 : j7 < ((v1).length : Int)
          · replace HL1 := Lib.hid (ifT hc8 HL1.out)
            have HK9 := Lib.hid hc8
            obtain ⟨y10, hy11, hm⟩ := obind HL1.out
            replace HL1 := Lib.hid hm; clear hm
            obtain ⟨b12, o13, A19, cap20, ea14, _, f15, f16, f17, hrr, hrc⟩ := ReadsR.ixc HR1.out hy11
            cases ea14
            have HR21c := Lib.hid hrc; clear hrc
            try simp only [Nat.zero_add, Nat.add_zero, Int.toNat_natCast, Int.toNat_zero, Int.toNat_one] at f17
            have HR21 := Lib.hid hrr; clear hrr
            have HY22 := Lib.hid hy11; clear hy11
            obtain ⟨y25, hy23, hm⟩ := obind HL1.out
            replace HL1 := Lib.hid hm; clear hm
            have HC24 := core_All_ok w cap20 HR21.out hy23
            clear hy23
            replace HC24 := Lib.hid HC24
            cases y25
            · replace HL1 := Lib.hid (ifF Bool.false_ne_true HL1.out)
              obtain rfl := Option.some.inj HL1.out
              have hm := HM.out; try dsimp only at hm
              replace HM := Lib.hid hm; clear hm
              obtain rfl := Option.some.inj HM.out
              go_wp2_with fail
              refine HC24.out.mono ?_; rintro e w' ⟨rfl, rfl⟩
              go_wp2_with fail
              try clear hc8 f15 f16 f17
              go_ret
              exact ⟨rfl, rfl⟩
            · replace HL1 := Lib.hid (ifT rfl HL1.out)
              go_wp2_with fail
              refine HC24.out.mono ?_; rintro e w' ⟨rfl, rfl⟩
              go_wp2_with fail
              try clear hc8 f15 f16 f17
              obtain ⟨o26, ho, hm⟩ := obind HL1.out
              replace HL1 := Lib.hid hm; have HL2 := Lib.hid ho; clear hm ho
              go_loopg [31] F (fun gg uj wr => ∃ (j27 : Int), uj = .int .i64 j27 ∧ w = wr ∧ Hid (rank_Check_L2 F (y10) gg j27 = some o26))
              case atStart => exact ⟨0, rfl, rfl, HL2⟩
              case round =>
                obtain ⟨j27, rfl, rfl, HL2⟩ := hrel
                cases gk with
                | zero => exact absurd ((rank_Check_L2_0 ..).symm.trans HL2.out) (by intro h; cases h)
                | succ g2 =>
                  replace HL2 := Lib.hid ((rank_Check_L2_s ..).symm.trans HL2.out)
                  by_cases hc28 : j27 < ((y10).length : Int)
                  · replace HL2 := Lib.hid (ifT hc28 HL2.out)
                    have HK29 := Lib.hid hc28
                    obtain ⟨y30, hy31, hm⟩ := obind HL2.out
                    replace HL2 := Lib.hid hm; clear hm
                    obtain ⟨b32, o33, ea34, _, f35, f36, f37⟩ := ReadsI.ix HR21.out hy31
                    cases ea34
                    try simp only [Nat.zero_add, Nat.add_zero, Int.toNat_natCast, Int.toNat_zero, Int.toNat_one] at f37
                    have HY39 := Lib.hid hy31; clear hy31
                    obtain ⟨y40, hy41, hm⟩ := obind HL2.out
                    replace HL2 := Lib.hid hm; clear hm
                    obtain ⟨f42, hy41⟩ := tk_some hy41; subst hy41
                    obtain ⟨A43, n48, cap44, hsl45, hrs, hcs, hns⟩ := ReadsI.sliceU HR21.out HR21c.out f42
                    have HR46 := Lib.hid hrs; have HCAP47 := Lib.hid hcs; have HN49 := Lib.hid hns; clear hrs hcs hns f42
                    obtain ⟨y52, hy50, hm⟩ := obind HL2.out
                    replace HL2 := Lib.hid hm; clear hm
                    have HC51 := slices_Contains_int_int_ok w cap44 HR46.out hy50
                    clear hy50
                    simp only [← HN49.out] at HC51
                    replace HC51 := Lib.hid HC51
                    cases y52
                    · replace HL2 := Lib.hid (ifF Bool.false_ne_true HL2.out)
                      go_wp2_with fail
                      refine HC51.out.mono ?_; rintro e w' ⟨rfl, rfl⟩
                      go_wp2_with fail
                      try clear hc28 f35 f36 f37 hsl45
                      go_roundg g2
                      case measure => omega
                      case rel => exact ⟨(wrap64 (j27 + 1)), rfl, rfl, HL2⟩
                    · replace HL2 := Lib.hid (ifT rfl HL2.out)
                      obtain rfl := Option.some.inj HL2.out
                      have hm := HL1.out; try dsimp only at hm
                      replace HL1 := Lib.hid hm; clear hm
                      obtain rfl := Option.some.inj HL1.out
                      have hm := HM.out; try dsimp only at hm
                      replace HM := Lib.hid hm; clear hm
                      obtain rfl := Option.some.inj HM.out
                      go_wp2_with fail
                      refine HC51.out.mono ?_; rintro e w' ⟨rfl, rfl⟩
                      go_wp2_with fail
                      try clear hc28 f35 f36 f37 hsl45
                      go_ret
                      exact ⟨rfl, rfl⟩
                  · replace HL2 := Lib.hid (ifF hc28 HL2.out)
                    have hc28d := decide_eq_false hc28
                    have HK29 := Lib.hid hc28
                    obtain rfl := Option.some.inj HL2.out
                    have hm := HL1.out; try dsimp only at hm
                    replace HL1 := Lib.hid hm; clear hm
                    go_wp2_with fail
                    try clear hc28 hc28d
                    go_roundg g1
                    case measure => omega
                    case rel => exact ⟨(wrap64 (j7 + 1)), rfl, rfl, HL1⟩
          · replace HL1 := Lib.hid (ifF hc8 HL1.out)
            have hc8d := decide_eq_false hc8
            have HK9 := Lib.hid hc8
            obtain rfl := Option.some.inj HL1.out
            have hm := HM.out; try dsimp only at hm
            replace HM := Lib.hid hm; clear hm
            obtain rfl := Option.some.inj HM.out
            go_wp2_with fail
            try clear hc8 hc8d
            go_ret
            exact ⟨rfl, rfl⟩
def rank_worth (F : Nat) (v0 : Int) (v1 : List (List Int)) (v2 : List Int) : Option (Int) := (rank_Check F (v0) (v1)).bind fun y1 => (if (y1 != 0) = true then some (y1) else (if (((v2).length : Int) != v0) = true then some (3) else ((core_All F (v2) (0) (20)).bind fun y2 => if y2 = true then some (0) else some (1))))
set_option maxRecDepth 100000 in
set_option maxHeartbeats 4000000 in
theorem rank_worth_ok {F : Nat} {v0 : Int} {v1 : List (List Int)} {A1 : Option Addr} {v2 : List Int} {A2 : Option Addr} {r : Int} (w : World) (cap1 : Nat) (hr1 : ReadsR w w.heap.size A1 v1) (cap2 : Nat) (hr2 : ReadsI w w.heap.size A2 v2) (h : rank_worth F v0 v1 v2 = some r) :
    Calls Tryd.prog 35 #[.int .i64 v0, .slice A1 v1.length cap1, .slice A2 v2.length cap2] w fun e w' => e = .returned (errV 44 r) ∧ w = w' := by
  have HR1 := Lib.hid hr1; clear hr1
  have HR2 := Lib.hid hr2; clear hr2
  unfold rank_worth at h
  have HM := Lib.hid h; clear h
  go_enter Tryd.func35, Tryd.ntmps35
  obtain ⟨y3, hy1, hm⟩ := obind HM.out
  replace HM := Lib.hid hm; clear hm
  have HC2 := rank_Check_ok w cap1 HR1.out hy1
  clear hy1
  replace HC2 := Lib.hid HC2
  go_wp2_with fail
  refine HC2.out.mono ?_; rintro e w' ⟨rfl, rfl⟩
  go_wp2_with fail
  by_cases hz4 : y3 = 0
  · subst hz4
    try simp only [errV_zero]
    replace HM := Lib.hid (ifF (by decide) HM.out)
    rcases Bool.eq_false_or_eq_true (((v2).length : Int) != v0) with hc6 | hc6
    · replace HM := Lib.hid (ifT hc6 HM.out)
      have HK7 := Lib.hid hc6
      obtain rfl := Option.some.inj HM.out
      go_wp2_with fail
      try clear hc6
      go_ret
      exact ⟨rfl, rfl⟩
    · replace HM := Lib.hid (ifF (bF hc6) HM.out)
      have HK7 := Lib.hid hc6
      obtain ⟨y10, hy8, hm⟩ := obind HM.out
      replace HM := Lib.hid hm; clear hm
      have HC9 := core_All_ok w cap2 HR2.out hy8
      clear hy8
      replace HC9 := Lib.hid HC9
      cases y10
      · replace HM := Lib.hid (ifF Bool.false_ne_true HM.out)
        obtain rfl := Option.some.inj HM.out
        go_wp2_with fail
        refine HC9.out.mono ?_; rintro e w' ⟨rfl, rfl⟩
        go_wp2_with fail
        try clear hc6
        go_ret
        exact ⟨rfl, rfl⟩
      · replace HM := Lib.hid (ifT rfl HM.out)
        obtain rfl := Option.some.inj HM.out
        go_wp2_with fail
        refine HC9.out.mono ?_; rintro e w' ⟨rfl, rfl⟩
        go_wp2_with fail
        try clear hc6
        go_ret
        exact ⟨rfl, rfl⟩
  · try rw [errV_pos _ hz4]
    have HZ5 := Lib.hid hz4; clear hz4
    replace HM := Lib.hid (ifT (bne_iff_ne.2 HZ5.out) HM.out)
    obtain rfl := Option.some.inj HM.out
    go_wp2_with fail
    go_ret
    exact ⟨(by first | (rw [errV_pos _ HZ5.out]; rfl) | rw [errV_pos _ HZ5.out]), rfl⟩
end Go.Proofs.YtfaemblfffbmfaaDoor
