import Derived.Test.YtfabhdadckohdaaSlc
import Derived.Test.YtfabhdadckohdaaGR
import Derived.Test.YtfabhdadckohdaaHP2
import Derived.Test.YtfabhdadckohdaaTl
import Derived.Test.YtfabhdadckohdaaBox
import Derived.Test.YtfabhdadckohdaaQB
import Derived.Test.YtfabhdadckohdaaCmp
import Derived.Test.YtfabhdadckohdaaStb
set_option linter.all false
set_option maxRecDepth 100000
namespace Go.Proofs.Ytfabhdadckohdaa
open Go.RowKit
def brambleweir_rank_may_1_L1 (F : Nat) (v0 : List Int) : Nat → (Int) → (Nat) → Option (Nat)
  | 0, _, _ => none
  | g+1, j, v2 => if j < ((v0).length : Int) then (ix v0 j).bind fun y => (sWith (v2) (y)).bind fun y1 => brambleweir_rank_may_1_L1 F v0 g (wrap64 (j + 1)) (y1) else some (v2)
theorem brambleweir_rank_may_1_L1_0 (F : Nat) (v0 : List Int) (v2 : Nat) (j : Int) : brambleweir_rank_may_1_L1 F v0 0 j v2 = none := by rw [brambleweir_rank_may_1_L1]
theorem brambleweir_rank_may_1_L1_s (F g : Nat) (v0 : List Int) (v2 : Nat) (j : Int) : brambleweir_rank_may_1_L1 F v0 (g+1) j v2 = (if j < ((v0).length : Int) then (ix v0 j).bind fun y => (sWith (v2) (y)).bind fun y1 => brambleweir_rank_may_1_L1 F v0 g (wrap64 (j + 1)) (y1) else some (v2)) := by rw [brambleweir_rank_may_1_L1]
def brambleweir_rank_may_1 (F : Nat) (v1000 : Nat) (v0 : List Int) : Option (Bool) := (brambleweir_rank_may_1_L1 F (v0) F (0) (0)).bind fun o2 => ((sNot v1000 o2).bind fun y4 => if (y4 == 0) = true then some true else some false).bind fun b3 => some (b3)
set_option maxRecDepth 100000 in
set_option maxHeartbeats 4000000 in
theorem brambleweir_rank_may_1_ok {F : Nat} {v0 : List Int} {A0 : Option Addr} {v1000 : Nat} {g1000 : Nat} {r : Bool} (w : World) (cap0 : Nat) (hr0 : ReadsI w w.heap.size A0 v0) (hx1000 : w.cell? ⟨g1000, 0, none⟩ = some (.int .u64 ((v1000 : Nat) : Int))) (h : brambleweir_rank_may_1 F v1000 v0 = some r) :
    Calls Try.prog 62 #[.slice A0 v0.length cap0, .pointer (some ⟨g1000, 0, none⟩)] w fun e w' => e = .returned (.bool r) ∧ w = w' := by
  have HR0 := Lib.hid hr0; clear hr0
  have HX1000 := Lib.hid hx1000; clear hx1000
  unfold brambleweir_rank_may_1 at h
  have HM := Lib.hid h; clear h
  go_enter Try.func62, Try.ntmps62
  go_wp2_with fail
  obtain ⟨o1, ho, hm⟩ := obind HM.out
  replace HM := Lib.hid hm; have HL1 := Lib.hid ho; clear hm ho
  go_loopg [9, 4] F (fun gg uj ux3 wr => ∃ (j4 : Int) (x2 : Nat), uj = .int .i64 j4 ∧ ux3 = .int .u64 ((x2 : Nat) : Int) ∧ w = wr ∧ Hid (brambleweir_rank_may_1_L1 F (v0) gg j4 x2 = some o1))
  case atStart => exact ⟨0, 0, rfl, rfl, rfl, HL1⟩
  case round =>
    obtain ⟨j4, x2, rfl, rfl, rfl, HL1⟩ := hrel
    cases gk with
    | zero => exact absurd ((brambleweir_rank_may_1_L1_0 ..).symm.trans HL1.out) (by intro h; cases h)
    | succ g1 =>
      replace HL1 := Lib.hid ((brambleweir_rank_may_1_L1_s ..).symm.trans HL1.out)
      by_cases hc5 : j4 < ((v0).length : Int)
      · replace HL1 := Lib.hid (ifT hc5 HL1.out)
        have HK6 := Lib.hid hc5
        obtain ⟨y7, hy8, hm⟩ := obind HL1.out
        replace HL1 := Lib.hid hm; clear hm
        obtain ⟨b9, o10, ea11, _, f12, f13, f14⟩ := ReadsI.ix HR0.out hy8
        cases ea11
        try simp only [Nat.zero_add, Nat.add_zero, Int.toNat_natCast, Int.toNat_zero, Int.toNat_one] at f14
        have HY16 := Lib.hid hy8; clear hy8
        obtain ⟨y19, hy17, hm⟩ := obind HL1.out
        replace HL1 := Lib.hid hm; clear hm
        have HC18 := sWith_ok w  hy17
        clear hy17
        replace HC18 := Lib.hid HC18
        go_wp2_with fail
        refine HC18.out.mono ?_; rintro e w' ⟨rfl, rfl⟩
        go_wp2_with fail
        try clear hc5 f12 f13 f14
        go_roundg g1
        case measure => omega
        case rel => exact ⟨(wrap64 (j4 + 1)), y19, rfl, rfl, rfl, HL1⟩
      · replace HL1 := Lib.hid (ifF hc5 HL1.out)
        have hc5d := decide_eq_false hc5
        have HK6 := Lib.hid hc5
        obtain rfl := Option.some.inj HL1.out
        have hm := HM.out; try dsimp only at hm
        replace HM := Lib.hid hm; clear hm
        obtain ⟨b20, hb, hm⟩ := obind HM.out
        replace HM := Lib.hid hm; have HB21 := Lib.hid hb; clear hm hb
        have fb22 := HX1000.out
        obtain ⟨y23, hy24, hm⟩ := obind HB21.out
        replace HB21 := Lib.hid hm; clear hm
        obtain ⟨f25, hy24⟩ := sNot_some hy24; subst hy24
        rcases Bool.eq_false_or_eq_true ((Pl.ndiff v1000 x2) == 0) with hc26 | hc26
        · replace HB21 := Lib.hid (ifT hc26 HB21.out)
          have HK27 := Lib.hid hc26
          obtain rfl := Option.some.inj HB21.out
          obtain rfl := Option.some.inj HM.out
          go_wp2_with fail
          try clear fb22 f25
          go_ret
          exact ⟨(by first | rfl | (refine congrArg (fun b => Ending.returned (Value.bool b)) ?_; first | (exact decide_eq_true (by omega)) | (exact decide_eq_false (by omega)) | (have q := hc5d; rw [bne_iff_ne] at q ⊢; omega) | (have q := hc5d; rw [bne_eq_false_iff_eq] at q ⊢; omega) | (have q := hc5d; rw [beq_iff_eq] at q ⊢; omega) | (have q := hc5d; rw [beq_eq_false_iff_ne] at q ⊢; omega) | (have q := hc26; rw [bne_iff_ne] at q ⊢; omega) | (have q := hc26; rw [bne_eq_false_iff_eq] at q ⊢; omega) | (have q := hc26; rw [beq_iff_eq] at q ⊢; omega) | (have q := hc26; rw [beq_eq_false_iff_ne] at q ⊢; omega))), rfl⟩
        · replace HB21 := Lib.hid (ifF (bF hc26) HB21.out)
          have HK27 := Lib.hid hc26
          obtain rfl := Option.some.inj HB21.out
          obtain rfl := Option.some.inj HM.out
          go_wp2_with fail
          try clear fb22 f25
          go_ret
          exact ⟨(by first | rfl | (refine congrArg (fun b => Ending.returned (Value.bool b)) ?_; first | (exact decide_eq_true (by omega)) | (exact decide_eq_false (by omega)) | (have q := hc5d; rw [bne_iff_ne] at q ⊢; omega) | (have q := hc5d; rw [bne_eq_false_iff_eq] at q ⊢; omega) | (have q := hc5d; rw [beq_iff_eq] at q ⊢; omega) | (have q := hc5d; rw [beq_eq_false_iff_ne] at q ⊢; omega) | (have q := hc26; rw [bne_iff_ne] at q ⊢; omega) | (have q := hc26; rw [bne_eq_false_iff_eq] at q ⊢; omega) | (have q := hc26; rw [beq_iff_eq] at q ⊢; omega) | (have q := hc26; rw [beq_eq_false_iff_ne] at q ⊢; omega))), rfl⟩
def slices_IndexFunc_rows_L1 (F : Nat) (v0 : List (List Int)) (v1 : List Int → Option Bool) : Nat → (Int) → Option ((Unit) ⊕ (Int))
  | 0, _ => none
  | g+1, j => if j < ((v0).length : Int) then ((ix v0 j).bind fun y1 => (v1 (y1)).bind fun y2 => if y2 = true then some (.inr (j)) else slices_IndexFunc_rows_L1 F v0 v1 g (wrap64 (j + 1))) else some (.inl ())
theorem slices_IndexFunc_rows_L1_0 (F : Nat) (v0 : List (List Int)) (v1 : List Int → Option Bool) (j : Int) : slices_IndexFunc_rows_L1 F v0 v1 0 j = none := by rw [slices_IndexFunc_rows_L1]
theorem slices_IndexFunc_rows_L1_s (F g : Nat) (v0 : List (List Int)) (v1 : List Int → Option Bool) (j : Int) : slices_IndexFunc_rows_L1 F v0 v1 (g+1) j = (if j < ((v0).length : Int) then ((ix v0 j).bind fun y1 => (v1 (y1)).bind fun y2 => if y2 = true then some (.inr (j)) else slices_IndexFunc_rows_L1 F v0 v1 g (wrap64 (j + 1))) else some (.inl ())) := by rw [slices_IndexFunc_rows_L1]
def slices_IndexFunc_rows (F : Nat) (v0 : List (List Int)) (v1 : List Int → Option Bool) : Option (Int) := (slices_IndexFunc_rows_L1 F (v0) (v1) F (0)).bind fun o3 => match o3 with | .inr r => some (r) | .inl o3 => some ((-1))
set_option maxRecDepth 100000 in
set_option maxHeartbeats 4000000 in
theorem slices_IndexFunc_rows_ok {F : Nat} {v0 : List (List Int)} {A0 : Option Addr} {v1 : List Int → Option Bool} {r : Int} (w : World) (cap0 : Nat) (hr0 : ReadsR w w.heap.size A0 v0) (gf1 : Nat) (lb1 : Array Value) (eg1 : ∀ args w, (callFunc gf1 args).run Try.prog w = .ok (.enter gf1 args) w) (hp1 : PredR Try.prog gf1 lb1 v1 w) (h : slices_IndexFunc_rows F v0 v1 = some r) :
    Calls Try.prog 69 #[.slice A0 v0.length cap0, .func (.func gf1) #[] lb1] w fun e w' => e = .returned (.int .i64 r) ∧ Below w.heap.size w w' := by
  have HR0 := Lib.hid hr0; clear hr0
  have HP1 := Lib.hid hp1; clear hp1
  have HD := Lib.hid (Below.refl w.heap.size w)
  have HOA := Lib.hid (HP.nil (W := w) (B := w.heap.size))
  unfold slices_IndexFunc_rows at h
  have HM := Lib.hid h; clear h
  go_enter Try.func69, Try.ntmps69
  go_wp2_with fail
  obtain ⟨o1, ho, hm⟩ := obind HM.out
  replace HM := Lib.hid hm; have HL1 := Lib.hid ho; clear hm ho
  go_loopg [8] F (fun gg uj wr => ∃ (j2 : Int), uj = .int .i64 j2 ∧ Hid (Below w.heap.size w wr) ∧ Hid (slices_IndexFunc_rows_L1 F (v0) (v1) gg j2 = some o1))
  case atStart => exact ⟨0, rfl, (Lib.hid (Below.refl _ _)), HL1⟩
  case round =>
    obtain ⟨j2, rfl, HW1, HL1⟩ := hrel
    rename World => W3
    have hd := HW1.out
    replace HOA := Lib.hid (HOA.out.below hd)
    replace HD := Lib.hid (HD.out.trans (hd.mono HD.out.size))
    clear hd
    cases gk with
    | zero => exact absurd ((slices_IndexFunc_rows_L1_0 ..).symm.trans HL1.out) (by intro h; cases h)
    | succ g1 =>
      replace HL1 := Lib.hid ((slices_IndexFunc_rows_L1_s ..).symm.trans HL1.out)
      by_cases hc4 : j2 < ((v0).length : Int)
      · replace HL1 := Lib.hid (ifT hc4 HL1.out)
        have HK5 := Lib.hid hc4
        obtain ⟨y6, hy7, hm⟩ := obind HL1.out
        replace HL1 := Lib.hid hm; clear hm
        obtain ⟨b8, o9, A15, cap16, ea10, _, f11, f12, f13, hrr, hrc⟩ := ReadsR.ixc (rdR HD.out HR0.out) hy7
        cases ea10
        have HR17c := Lib.hid hrc; clear hrc
        try simp only [Nat.zero_add, Nat.add_zero, Int.toNat_natCast, Int.toNat_zero, Int.toNat_one] at f13
        have HR17 := Lib.hid hrr; clear hrr
        have HY18 := Lib.hid hy7; clear hy7
        obtain ⟨y21, hy19, hm⟩ := obind HL1.out
        replace HL1 := Lib.hid hm; clear hm
        have HC20 := Lib.hid (HP1.out W3 _ cap16 _ _ HD.out HR17.out hy19); clear hy19
        go_wp2_with fail
        go_at_fn gf1
        refine HC20.out.mono ?_; rintro e W22 ⟨rfl, hd⟩
        try clear hc4 f11 f12 f13
        replace HOA := Lib.hid (HOA.out.below hd)
        replace HR17 := Lib.hid (rdI hd HR17.out)
        replace HD := Lib.hid (HD.out.trans (hd.mono HD.out.size))
        replace HW1 := Lib.hid (HW1.out.trans (hd.mono HW1.out.size))
        clear hd
        cases y21
        · replace HL1 := Lib.hid (ifF Bool.false_ne_true HL1.out)
          go_wp2_with fail
          go_roundg g1
          case measure => omega
          case rel => exact ⟨(wrap64 (j2 + 1)), rfl, HW1, HL1⟩
        · replace HL1 := Lib.hid (ifT rfl HL1.out)
          obtain rfl := Option.some.inj HL1.out
          have hm := HM.out; try dsimp only at hm
          replace HM := Lib.hid hm; clear hm
          obtain rfl := Option.some.inj HM.out
          go_wp2_with fail
          go_ret
          exact ⟨rfl, HD.out⟩
      · replace HL1 := Lib.hid (ifF hc4 HL1.out)
        have hc4d := decide_eq_false hc4
        have HK5 := Lib.hid hc4
        obtain rfl := Option.some.inj HL1.out
        have hm := HM.out; try dsimp only at hm
        replace HM := Lib.hid hm; clear hm
        obtain rfl := Option.some.inj HM.out
        go_wp2_with fail
        try clear hc4 hc4d
        go_ret
        exact ⟨rfl, HD.out⟩
def slices_ContainsFunc_rows (F : Nat) (v0 : List (List Int)) (v1 : List Int → Option Bool) : Option (Bool) := ((slices_IndexFunc_rows F (v0) (v1)).bind fun y2 => if 0 ≤ y2 then some true else some false).bind fun b1 => some (b1)
set_option maxRecDepth 100000 in
set_option maxHeartbeats 4000000 in
theorem slices_ContainsFunc_rows_ok {F : Nat} {v0 : List (List Int)} {A0 : Option Addr} {v1 : List Int → Option Bool} {r : Bool} (w : World) (cap0 : Nat) (hr0 : ReadsR w w.heap.size A0 v0) (gf1 : Nat) (lb1 : Array Value) (eg1 : ∀ args w, (callFunc gf1 args).run Try.prog w = .ok (.enter gf1 args) w) (hp1 : PredR Try.prog gf1 lb1 v1 w) (h : slices_ContainsFunc_rows F v0 v1 = some r) :
    Calls Try.prog 61 #[.slice A0 v0.length cap0, .func (.func gf1) #[] lb1] w fun e w' => e = .returned (.bool r) ∧ Below w.heap.size w w' := by
  have HR0 := Lib.hid hr0; clear hr0
  have HP1 := Lib.hid hp1; clear hp1
  have HD := Lib.hid (Below.refl w.heap.size w)
  have HOA := Lib.hid (HP.nil (W := w) (B := w.heap.size))
  unfold slices_ContainsFunc_rows at h
  have HM := Lib.hid h; clear h
  go_enter Try.func61, Try.ntmps61
  obtain ⟨b1, hb, hm⟩ := obind HM.out
  replace HM := Lib.hid hm; have HB2 := Lib.hid hb; clear hm hb
  obtain ⟨y5, hy3, hm⟩ := obind HB2.out
  replace HB2 := Lib.hid hm; clear hm
  have HC4 := slices_IndexFunc_rows_ok w cap0 (rdR HD.out HR0.out) gf1 lb1 eg1 (HP1.out.at HD.out) hy3
  clear hy3
  replace HC4 := Lib.hid HC4
  go_wp2_with fail
  refine HC4.out.mono ?_; rintro e W6 ⟨rfl, hd⟩
  replace HOA := Lib.hid (HOA.out.below hd)
  replace HD := Lib.hid (HD.out.trans (hd.mono HD.out.size))
  clear hd
  by_cases hc7 : 0 ≤ y5
  · replace HB2 := Lib.hid (ifT hc7 HB2.out)
    have HK8 := Lib.hid hc7
    obtain rfl := Option.some.inj HB2.out
    obtain rfl := Option.some.inj HM.out
    go_wp2_with fail
    go_ret
    exact ⟨(by first | rfl | (refine congrArg (fun b => Ending.returned (Value.bool b)) ?_; first | (exact decide_eq_true (by omega)) | (exact decide_eq_false (by omega)) | (have q := hc7; rw [bne_iff_ne] at q ⊢; omega) | (have q := hc7; rw [bne_eq_false_iff_eq] at q ⊢; omega) | (have q := hc7; rw [beq_iff_eq] at q ⊢; omega) | (have q := hc7; rw [beq_eq_false_iff_ne] at q ⊢; omega))), HD.out⟩
  · replace HB2 := Lib.hid (ifF hc7 HB2.out)
    have hc7d := decide_eq_false hc7
    have HK8 := Lib.hid hc7
    obtain rfl := Option.some.inj HB2.out
    obtain rfl := Option.some.inj HM.out
    go_wp2_with fail
    go_ret
    exact ⟨(by first | rfl | (refine congrArg (fun b => Ending.returned (Value.bool b)) ?_; first | (exact decide_eq_true (by omega)) | (exact decide_eq_false (by omega)) | (have q := hc7; rw [bne_iff_ne] at q ⊢; omega) | (have q := hc7; rw [bne_eq_false_iff_eq] at q ⊢; omega) | (have q := hc7; rw [beq_iff_eq] at q ⊢; omega) | (have q := hc7; rw [beq_eq_false_iff_ne] at q ⊢; omega) | (have q := hc7d; rw [bne_iff_ne] at q ⊢; omega) | (have q := hc7d; rw [bne_eq_false_iff_eq] at q ⊢; omega) | (have q := hc7d; rw [beq_iff_eq] at q ⊢; omega) | (have q := hc7d; rw [beq_eq_false_iff_ne] at q ⊢; omega))), HD.out⟩
def rank_Check_L2 (F : Nat) (v4 : List Int) : Nat → (Int) → Option ((Unit) ⊕ (Int))
  | 0, _ => none
  | g+1, j => if j < ((v4).length : Int) then (ix v4 j).bind fun y => ((tk v4 j).bind fun y3 => (slices_Contains_int_int F (y3) (y)).bind fun y4 => if y4 = true then some (.inr (6)) else rank_Check_L2 F v4 g (wrap64 (j + 1))) else some (.inl ())
theorem rank_Check_L2_0 (F : Nat) (v4 : List Int) (j : Int) : rank_Check_L2 F v4 0 j = none := by rw [rank_Check_L2]
theorem rank_Check_L2_s (F g : Nat) (v4 : List Int) (j : Int) : rank_Check_L2 F v4 (g+1) j = (if j < ((v4).length : Int) then (ix v4 j).bind fun y => ((tk v4 j).bind fun y3 => (slices_Contains_int_int F (y3) (y)).bind fun y4 => if y4 = true then some (.inr (6)) else rank_Check_L2 F v4 g (wrap64 (j + 1))) else some (.inl ())) := by rw [rank_Check_L2]
def rank_Check_L1 (F : Nat) (v0 : Int) (v1 : List (List Int)) : Nat → (Int) → Option ((Unit) ⊕ (Int))
  | 0, _ => none
  | g+1, j => if j < ((v1).length : Int) then (ix v1 j).bind fun y => ((core_All F (y) (0) ((wrap64 (v0 - 1)))).bind fun y2 => if y2 = true then (rank_Check_L2 F (y) F (0)).bind fun o5 => match o5 with | .inr r => some (.inr (r)) | .inl o5 => rank_Check_L1 F v0 v1 g (wrap64 (j + 1)) else some (.inr (1))) else some (.inl ())
theorem rank_Check_L1_0 (F : Nat) (v0 : Int) (v1 : List (List Int)) (j : Int) : rank_Check_L1 F v0 v1 0 j = none := by rw [rank_Check_L1]
theorem rank_Check_L1_s (F g : Nat) (v0 : Int) (v1 : List (List Int)) (j : Int) : rank_Check_L1 F v0 v1 (g+1) j = (if j < ((v1).length : Int) then (ix v1 j).bind fun y => ((core_All F (y) (0) ((wrap64 (v0 - 1)))).bind fun y2 => if y2 = true then (rank_Check_L2 F (y) F (0)).bind fun o5 => match o5 with | .inr r => some (.inr (r)) | .inl o5 => rank_Check_L1 F v0 v1 g (wrap64 (j + 1)) else some (.inr (1))) else some (.inl ())) := by rw [rank_Check_L1]
def rank_Check (F : Nat) (v0 : Int) (v1 : List (List Int)) : Option (Int) := ((core_Within F (v0) (1) (6)).bind fun y1 => if y1 = true then (if 24 < ((v1).length : Int) then some (4) else (rank_Check_L1 F (v0) (v1) F (0)).bind fun o6 => match o6 with | .inr r => some (r) | .inl o6 => some (0)) else some (1))
set_option maxRecDepth 100000 in
set_option maxHeartbeats 4000000 in
theorem rank_Check_ok {F : Nat} {v0 : Int} {v1 : List (List Int)} {A1 : Option Addr} {r : Int} (w : World) (cap1 : Nat) (hr1 : ReadsR w w.heap.size A1 v1) (h : rank_Check F v0 v1 = some r) :
    Calls Try.prog 37 #[.int .i64 v0, .slice A1 v1.length cap1] w fun e w' => e = .returned (errV 66 r) ∧ w = w' := by
  have HR1 := Lib.hid hr1; clear hr1
  unfold rank_Check at h
  have HM := Lib.hid h; clear h
  go_enter Try.func37, Try.ntmps37
  obtain ⟨y3, hy1, hm⟩ := obind HM.out
  replace HM := Lib.hid hm; clear hm
  have HC2 := core_Within_ok w  hy1
  clear hy1
  replace HC2 := Lib.hid HC2
  cases y3
  · replace HM := Lib.hid (ifF Bool.false_ne_true HM.out)
    obtain rfl := Option.some.inj HM.out
    go_wp2_with fail
    refine HC2.out.mono ?_; rintro e w' ⟨rfl, rfl⟩
    go_wp2_with fail
    go_ret
    exact ⟨rfl, rfl⟩
  · replace HM := Lib.hid (ifT rfl HM.out)
    by_cases hc4 : 24 < ((v1).length : Int)
    · replace HM := Lib.hid (ifT hc4 HM.out)
      have HK5 := Lib.hid hc4
      have hc4n := hc4; try norm_cast at hc4n
      obtain rfl := Option.some.inj HM.out
      go_wp2_with fail
      refine HC2.out.mono ?_; rintro e w' ⟨rfl, rfl⟩
      go_wp2_with fail
      try clear hc4 hc4n
      go_ret
      exact ⟨rfl, rfl⟩
    · replace HM := Lib.hid (ifF hc4 HM.out)
      have hc4d := decide_eq_false hc4
      have HK5 := Lib.hid hc4
      have hc4n := hc4; try norm_cast at hc4n
      go_wp2_with fail
      refine HC2.out.mono ?_; rintro e w' ⟨rfl, rfl⟩
      go_wp2_with fail
      try clear hc4 hc4n hc4d
      obtain ⟨o6, ho, hm⟩ := obind HM.out
      replace HM := Lib.hid hm; have HL1 := Lib.hid ho; clear hm ho
      go_loopg [19] F (fun gg uj wr => ∃ (j7 : Int), uj = .int .i64 j7 ∧ w = wr ∧ Hid (rank_Check_L1 F (v0) (v1) gg j7 = some o6))
      case atStart => exact ⟨0, rfl, rfl, HL1⟩
      case round =>
        obtain ⟨j7, rfl, rfl, HL1⟩ := hrel
        cases gk with
        | zero => exact absurd ((rank_Check_L1_0 ..).symm.trans HL1.out) (by intro h; cases h)
        | succ g1 =>
          replace HL1 := Lib.hid ((rank_Check_L1_s ..).symm.trans HL1.out)
          by_cases hc8 : j7 < ((v1).length : Int)
          · replace HL1 := Lib.hid (ifT hc8 HL1.out)
            have HK9 := Lib.hid hc8
            obtain ⟨y10, hy11, hm⟩ := obind HL1.out
            replace HL1 := Lib.hid hm; clear hm
            obtain ⟨b12, o13, A19, cap20, ea14, _, f15, f16, f17, hrr, hrc⟩ := ReadsR.ixc HR1.out hy11
            cases ea14
            have HR21c := Lib.hid hrc; clear hrc
            try simp only [Nat.zero_add, Nat.add_zero, Int.toNat_natCast, Int.toNat_zero, Int.toNat_one] at f17
            have HR21 := Lib.hid hrr; clear hrr
            have HY22 := Lib.hid hy11; clear hy11
            obtain ⟨y25, hy23, hm⟩ := obind HL1.out
            replace HL1 := Lib.hid hm; clear hm
            have HC24 := core_All_ok w cap20 HR21.out hy23
            clear hy23
            replace HC24 := Lib.hid HC24
            cases y25
            · replace HL1 := Lib.hid (ifF Bool.false_ne_true HL1.out)
              obtain rfl := Option.some.inj HL1.out
              have hm := HM.out; try dsimp only at hm
              replace HM := Lib.hid hm; clear hm
              obtain rfl := Option.some.inj HM.out
              go_wp2_with fail
              refine HC24.out.mono ?_; rintro e w' ⟨rfl, rfl⟩
              go_wp2_with fail
              try clear hc8 f15 f16 f17
              go_ret
              exact ⟨rfl, rfl⟩
            · replace HL1 := Lib.hid (ifT rfl HL1.out)
              go_wp2_with fail
              refine HC24.out.mono ?_; rintro e w' ⟨rfl, rfl⟩
              go_wp2_with fail
              try clear hc8 f15 f16 f17
              obtain ⟨o26, ho, hm⟩ := obind HL1.out
              replace HL1 := Lib.hid hm; have HL2 := Lib.hid ho; clear hm ho
              go_loopg [31] F (fun gg uj wr => ∃ (j27 : Int), uj = .int .i64 j27 ∧ w = wr ∧ Hid (rank_Check_L2 F (y10) gg j27 = some o26))
              case atStart => exact ⟨0, rfl, rfl, HL2⟩
              case round =>
                obtain ⟨j27, rfl, rfl, HL2⟩ := hrel
                cases gk with
                | zero => exact absurd ((rank_Check_L2_0 ..).symm.trans HL2.out) (by intro h; cases h)
                | succ g2 =>
                  replace HL2 := Lib.hid ((rank_Check_L2_s ..).symm.trans HL2.out)
                  by_cases hc28 : j27 < ((y10).length : Int)
                  · replace HL2 := Lib.hid (ifT hc28 HL2.out)
                    have HK29 := Lib.hid hc28
                    obtain ⟨y30, hy31, hm⟩ := obind HL2.out
                    replace HL2 := Lib.hid hm; clear hm
                    obtain ⟨b32, o33, ea34, _, f35, f36, f37⟩ := ReadsI.ix HR21.out hy31
                    cases ea34
                    try simp only [Nat.zero_add, Nat.add_zero, Int.toNat_natCast, Int.toNat_zero, Int.toNat_one] at f37
                    have HY39 := Lib.hid hy31; clear hy31
                    obtain ⟨y40, hy41, hm⟩ := obind HL2.out
                    replace HL2 := Lib.hid hm; clear hm
                    obtain ⟨f42, hy41⟩ := tk_some hy41; subst hy41
                    obtain ⟨A43, n48, cap44, hsl45, hrs, hcs, hns⟩ := ReadsI.sliceU HR21.out HR21c.out f42
                    have HR46 := Lib.hid hrs; have HCAP47 := Lib.hid hcs; have HN49 := Lib.hid hns; clear hrs hcs hns f42
                    obtain ⟨y52, hy50, hm⟩ := obind HL2.out
                    replace HL2 := Lib.hid hm; clear hm
                    have HC51 := slices_Contains_int_int_ok w cap44 HR46.out hy50
                    clear hy50
                    simp only [← HN49.out] at HC51
                    replace HC51 := Lib.hid HC51
                    cases y52
                    · replace HL2 := Lib.hid (ifF Bool.false_ne_true HL2.out)
                      go_wp2_with fail
                      refine HC51.out.mono ?_; rintro e w' ⟨rfl, rfl⟩
                      go_wp2_with fail
                      try clear hc28 f35 f36 f37 hsl45
                      go_roundg g2
                      case measure => omega
                      case rel => exact ⟨(wrap64 (j27 + 1)), rfl, rfl, HL2⟩
                    · replace HL2 := Lib.hid (ifT rfl HL2.out)
                      obtain rfl := Option.some.inj HL2.out
                      have hm := HL1.out; try dsimp only at hm
                      replace HL1 := Lib.hid hm; clear hm
                      obtain rfl := Option.some.inj HL1.out
                      have hm := HM.out; try dsimp only at hm
                      replace HM := Lib.hid hm; clear hm
                      obtain rfl := Option.some.inj HM.out
                      go_wp2_with fail
                      refine HC51.out.mono ?_; rintro e w' ⟨rfl, rfl⟩
                      go_wp2_with fail
                      try clear hc28 f35 f36 f37 hsl45
                      go_ret
                      exact ⟨rfl, rfl⟩
                  · replace HL2 := Lib.hid (ifF hc28 HL2.out)
                    have hc28d := decide_eq_false hc28
                    have HK29 := Lib.hid hc28
                    obtain rfl := Option.some.inj HL2.out
                    have hm := HL1.out; try dsimp only at hm
                    replace HL1 := Lib.hid hm; clear hm
                    go_wp2_with fail
                    try clear hc28 hc28d
                    go_roundg g1
                    case measure => omega
                    case rel => exact ⟨(wrap64 (j7 + 1)), rfl, rfl, HL1⟩
          · replace HL1 := Lib.hid (ifF hc8 HL1.out)
            have hc8d := decide_eq_false hc8
            have HK9 := Lib.hid hc8
            obtain rfl := Option.some.inj HL1.out
            have hm := HM.out; try dsimp only at hm
            replace HM := Lib.hid hm; clear hm
            obtain rfl := Option.some.inj HM.out
            go_wp2_with fail
            try clear hc8 hc8d
            go_ret
            exact ⟨rfl, rfl⟩
def rank_worth (F : Nat) (v0 : Int) (v1 : List (List Int)) (v2 : List Int) : Option (Int) := (rank_Check F (v0) (v1)).bind fun y1 => (if (y1 != 0) = true then some (y1) else (if (((v2).length : Int) != v0) = true then some (3) else ((core_All F (v2) (0) (20)).bind fun y2 => if y2 = true then some (0) else some (1))))
set_option maxRecDepth 100000 in
set_option maxHeartbeats 4000000 in
theorem rank_worth_ok {F : Nat} {v0 : Int} {v1 : List (List Int)} {A1 : Option Addr} {v2 : List Int} {A2 : Option Addr} {r : Int} (w : World) (cap1 : Nat) (hr1 : ReadsR w w.heap.size A1 v1) (cap2 : Nat) (hr2 : ReadsI w w.heap.size A2 v2) (h : rank_worth F v0 v1 v2 = some r) :
    Calls Try.prog 45 #[.int .i64 v0, .slice A1 v1.length cap1, .slice A2 v2.length cap2] w fun e w' => e = .returned (errV 66 r) ∧ w = w' := by
  have HR1 := Lib.hid hr1; clear hr1
  have HR2 := Lib.hid hr2; clear hr2
  unfold rank_worth at h
  have HM := Lib.hid h; clear h
  go_enter Try.func45, Try.ntmps45
  obtain ⟨y3, hy1, hm⟩ := obind HM.out
  replace HM := Lib.hid hm; clear hm
  have HC2 := rank_Check_ok w cap1 HR1.out hy1
  clear hy1
  replace HC2 := Lib.hid HC2
  go_wp2_with fail
  refine HC2.out.mono ?_; rintro e w' ⟨rfl, rfl⟩
  go_wp2_with fail
  by_cases hz4 : y3 = 0
  · subst hz4
    try simp only [errV_zero]
    replace HM := Lib.hid (ifF (by decide) HM.out)
    rcases Bool.eq_false_or_eq_true (((v2).length : Int) != v0) with hc6 | hc6
    · replace HM := Lib.hid (ifT hc6 HM.out)
      have HK7 := Lib.hid hc6
      obtain rfl := Option.some.inj HM.out
      go_wp2_with fail
      try clear hc6
      go_ret
      exact ⟨rfl, rfl⟩
    · replace HM := Lib.hid (ifF (bF hc6) HM.out)
      have HK7 := Lib.hid hc6
      obtain ⟨y10, hy8, hm⟩ := obind HM.out
      replace HM := Lib.hid hm; clear hm
      have HC9 := core_All_ok w cap2 HR2.out hy8
      clear hy8
      replace HC9 := Lib.hid HC9
      cases y10
      · replace HM := Lib.hid (ifF Bool.false_ne_true HM.out)
        obtain rfl := Option.some.inj HM.out
        go_wp2_with fail
        refine HC9.out.mono ?_; rintro e w' ⟨rfl, rfl⟩
        go_wp2_with fail
        try clear hc6
        go_ret
        exact ⟨rfl, rfl⟩
      · replace HM := Lib.hid (ifT rfl HM.out)
        obtain rfl := Option.some.inj HM.out
        go_wp2_with fail
        refine HC9.out.mono ?_; rintro e w' ⟨rfl, rfl⟩
        go_wp2_with fail
        try clear hc6
        go_ret
        exact ⟨rfl, rfl⟩
  · try rw [errV_pos _ hz4]
    have HZ5 := Lib.hid hz4; clear hz4
    replace HM := Lib.hid (ifT (bne_iff_ne.2 HZ5.out) HM.out)
    obtain rfl := Option.some.inj HM.out
    go_wp2_with fail
    go_ret
    exact ⟨(by first | (rw [errV_pos _ HZ5.out]; rfl) | rw [errV_pos _ HZ5.out]), rfl⟩
end Go.Proofs.Ytfabhdadckohdaa
set_option linter.all false
set_option maxRecDepth 100000
namespace Go.Proofs.Ytfabhdadckohdaa
open Go.RowKit
attribute [local go_sem] Oper.semAt_some
def rank_may (F : Nat) (v0 : List (List Int)) (v1 : Nat) : Option (Bool) := (if (v1 == 0) = true then some true else (slices_ContainsFunc_rows F (v0) ((fun z2 => brambleweir_rank_may_1 F (v1) z2))).bind fun y3 => if y3 = true then some true else some false).bind fun b1 => some (b1)
set_option maxRecDepth 100000 in
set_option maxHeartbeats 4000000 in
theorem rank_may_ok {F : Nat} {v0 : List (List Int)} {A0 : Option Addr} {v1 : Nat} {r : Bool} (w : World) (cap0 : Nat) (hr0 : ReadsR w w.heap.size A0 v0) (h : rank_may F v0 v1 = some r) :
    Calls Try.prog 39 #[.slice A0 v0.length cap0, .int .u64 ((v1 : Nat) : Int)] w fun e w' => e = .returned (.bool r) ∧ Below w.heap.size w w' := by
  have HR0 := Lib.hid hr0; clear hr0
  have HD := Lib.hid (Below.refl w.heap.size w)
  have HOA := Lib.hid (HP.nil (W := w) (B := w.heap.size))
  unfold rank_may at h
  have HM := Lib.hid h; clear h
  go_enter Try.func39, Try.ntmps39
  go_upto_region 1 with (fail)
  have hd : Below w.heap.size w (w.alloc (.cells #[.int .u64 (((v1) : Nat) : Int)] 60)) := (Below.refl _ _).alloc (Nat.le_refl _) _
  have ho := owX_ok w 60 (.int .u64 (((v1) : Nat) : Int))
  generalize hW : World.alloc w _ = W1 at *
  clear hW
  replace HOA := Lib.hid (HOA.out.call hd HD.out.size ho); clear ho
  replace HD := Lib.hid (HD.out.trans (hd.mono HD.out.size))
  clear hd
  obtain ⟨b3, hb, hm⟩ := obind HM.out
  replace HM := Lib.hid hm; have HB4 := Lib.hid hb; clear hm hb
  have fb5 := HP.bx HOA.out (List.Mem.head _)
  rcases Bool.eq_false_or_eq_true (v1 == 0) with hc6 | hc6
  · replace HB4 := Lib.hid (ifT hc6 HB4.out)
    have HK7 := Lib.hid hc6
    have hc6z := (natBeq0 v1).trans hc6
    obtain rfl := Option.some.inj HB4.out
    obtain rfl := Option.some.inj HM.out
    go_wp2_with fail
    try clear fb5
    go_ret
    exact ⟨(by first | rfl | (refine congrArg (fun b => Ending.returned (Value.bool b)) ?_; first | (exact decide_eq_true (by omega)) | (exact decide_eq_false (by omega)) | (have q := hc6; rw [bne_iff_ne] at q ⊢; omega) | (have q := hc6; rw [bne_eq_false_iff_eq] at q ⊢; omega) | (have q := hc6; rw [beq_iff_eq] at q ⊢; omega) | (have q := hc6; rw [beq_eq_false_iff_ne] at q ⊢; omega))), HD.out⟩
  · replace HB4 := Lib.hid (ifF (bF hc6) HB4.out)
    have HK7 := Lib.hid hc6
    have hc6z := (natBeq0 v1).trans hc6
    obtain ⟨y10, hy8, hm⟩ := obind HB4.out
    replace HB4 := Lib.hid hm; clear hm
    have HC9 := slices_ContainsFunc_rows_ok W1 cap0 (rdR HD.out HR0.out) 62 #[.pointer (some ⟨w.heap.size, 0, none⟩)] (enters_of Try.func62 (by kernel_rfl) rfl) (fun W_ A_ c_ l_ b_ hB_ hr_ hq_ => (brambleweir_rank_may_1_ok W_ c_ hr_ (HP.bx (HOA.out.below hB_) (List.Mem.head _)) hq_).mono fun e_ w_ h_ => ⟨h_.1, h_.2 ▸ Below.refl _ _⟩) hy8
    clear hy8
    replace HC9 := Lib.hid HC9
    go_wp2_with fail
    refine HC9.out.mono ?_; rintro e W11 ⟨rfl, hd⟩
    try clear fb5 hc6
    replace HOA := Lib.hid (HOA.out.below hd)
    replace HD := Lib.hid (HD.out.trans (hd.mono HD.out.size))
    clear hd
    cases y10
    · replace HB4 := Lib.hid (ifF Bool.false_ne_true HB4.out)
      obtain rfl := Option.some.inj HB4.out
      obtain rfl := Option.some.inj HM.out
      go_wp2_with fail
      go_ret
      exact ⟨rfl, HD.out⟩
    · replace HB4 := Lib.hid (ifT rfl HB4.out)
      obtain rfl := Option.some.inj HB4.out
      obtain rfl := Option.some.inj HM.out
      go_wp2_with fail
      go_ret
      exact ⟨rfl, HD.out⟩
end Go.Proofs.Ytfabhdadckohdaa
set_option linter.all false
set_option maxRecDepth 100000
namespace Go.Proofs.Ytfabhdadckohdaa
open Go.RowKit
attribute [local go_sem] Oper.semAt_some
def brambleweir_rank_Fair_1 (F : Nat) (v1000 : List (List Int)) (v1001 : Nat) (v0 : Int) : Option (Bool) := (sWith (v1001) (v0)).bind fun y1 => (rank_may F (v1000) (y1)).bind fun y2 => some (y2)
set_option maxRecDepth 100000 in
set_option maxHeartbeats 4000000 in
theorem brambleweir_rank_Fair_1_ok {F : Nat} {v0 : Int} {v1000 : List (List Int)} {g1000 : Nat} {A1000 : Option Addr} {v1001 : Nat} {g1001 : Nat} {r : Bool} (w : World) (cap1000 : Nat) (hr1000 : ReadsR w w.heap.size A1000 v1000) (hx1000 : w.cell? ⟨g1000, 0, none⟩ = some (.slice A1000 v1000.length cap1000)) (hx1001 : w.cell? ⟨g1001, 0, none⟩ = some (.int .u64 ((v1001 : Nat) : Int))) (h : brambleweir_rank_Fair_1 F v1000 v1001 v0 = some r) :
    Calls Try.prog 41 #[.int .i64 v0, .pointer (some ⟨g1000, 0, none⟩), .pointer (some ⟨g1001, 0, none⟩)] w fun e w' => e = .returned (.bool r) ∧ Below w.heap.size w w' := by
  have HR1000 := Lib.hid hr1000; clear hr1000
  have HX1000 := Lib.hid hx1000; clear hx1000
  have HX1001 := Lib.hid hx1001; clear hx1001
  have HD := Lib.hid (Below.refl w.heap.size w)
  have HOA := Lib.hid (HP.nil (W := w) (B := w.heap.size))
  unfold brambleweir_rank_Fair_1 at h
  have HM := Lib.hid h; clear h
  go_enter Try.func41, Try.ntmps41
  try go_wp2_with fail
  have fb1 := (HD.out.cell (p := ⟨g1000, 0, none⟩) (World.block_lt_of_cell? _ _ HX1000.out)).trans HX1000.out
  have fb2 := (HD.out.cell (p := ⟨g1001, 0, none⟩) (World.block_lt_of_cell? _ _ HX1001.out)).trans HX1001.out
  obtain ⟨y5, hy3, hm⟩ := obind HM.out
  replace HM := Lib.hid hm; clear hm
  have HC4 := Lib.hid (fun d_ os_ => Calls.regrown_of (v := .int .u64 ((y5 : Nat) : Int)) ((sWith_ok (Go.Sort.grow (redrawn w d_) os_)  hy3).mono fun _ _ h_ => ⟨h_.1, h_.2 ▸ Below.refl _ _⟩)); clear hy3
  obtain ⟨y8, hy6, hm⟩ := obind HM.out
  replace HM := Lib.hid hm; clear hm
  have HC7 := Lib.hid (fun d_ os_ => Calls.regrown_of (v := .bool y8) ((rank_may_ok (Go.Sort.grow (redrawn w d_) os_) cap1000 (rdR (below_regrown w d_ os_) (rdR HD.out HR1000.out)) hy6))); clear hy6
  try (have fb1_r := cell_regrown fb1)
  try (have fb2_r := cell_regrown fb2)
  refine wp_region_quiet_belowH (by kernel_rfl) (by kernel_rfl) ?_
  repeat (refine wpQH_step (fun K hK => ?_); go_simp; first | (refine hK _ ?_; clear hK K) | (apply Exists.intro; refine ⟨fun _ => ?_, hK _ ?_⟩; (first | (go_at_call 34; with_reducible exact (HC4.out _ _)) | (go_at_call 39; with_reducible exact (HC7.out _ _))); clear hK K))
  refine wpQH_nil ?_
  intro _ hw_
  obtain ⟨⟨dq, osq⟩, hw_⟩ := hw_
  subst hw_
  have hd := below_regrown w dq osq
  generalize Go.Sort.grow (redrawn w _) _ = W9 at *
  try clear fb1_r fb2_r
  try clear fb1 fb2
  replace HOA := Lib.hid (HOA.out.below hd)
  replace HD := Lib.hid (HD.out.trans (hd.mono HD.out.size))
  clear hd
  obtain rfl := Option.some.inj HM.out
  go_wp2_with fail
  go_ret
  exact ⟨rfl, HD.out⟩
def rank_Fair_L2 (F : Nat) (v1 : List (List Int)) (v5 : Nat) (v8 : Nat) : Nat → (Nat) → Option ((Unit) ⊕ (Bool × Int))
  | 0, _ => none
  | g+1, j => if j < v8 then ((((sLen (v5)).bind fun y8 => (sLen (j)).bind fun y9 => if y9 ≤ y8 then some true else (rank_may F (v1) (v5)).bind fun y10 => if y10 = true then some false else some true).bind fun b7 => if b7 = true then some true else (rank_may F (v1) (j)).bind fun y11 => if y11 = true then some false else some true).bind fun b6 => if b6 = true then (sInc j 1).bind fun jn => rank_Fair_L2 F v1 v5 v8 g jn else ((sNot j v5).bind fun y12 => (sList (y12)).bind fun y13 => (slices_ContainsFunc_int_int F (y13) ((fun z14 => brambleweir_rank_Fair_1 F (v1) (v5) z14))).bind fun y15 => if y15 = true then (sInc j 1).bind fun jn => rank_Fair_L2 F v1 v5 v8 g jn else some (.inr ((false, 0))))) else some (.inl ())
theorem rank_Fair_L2_0 (F : Nat) (v1 : List (List Int)) (v5 : Nat) (v8 : Nat) (j : Nat) : rank_Fair_L2 F v1 v5 v8 0 j = none := by rw [rank_Fair_L2]
theorem rank_Fair_L2_s (F g : Nat) (v1 : List (List Int)) (v5 : Nat) (v8 : Nat) (j : Nat) : rank_Fair_L2 F v1 v5 v8 (g+1) j = (if j < v8 then ((((sLen (v5)).bind fun y8 => (sLen (j)).bind fun y9 => if y9 ≤ y8 then some true else (rank_may F (v1) (v5)).bind fun y10 => if y10 = true then some false else some true).bind fun b7 => if b7 = true then some true else (rank_may F (v1) (j)).bind fun y11 => if y11 = true then some false else some true).bind fun b6 => if b6 = true then (sInc j 1).bind fun jn => rank_Fair_L2 F v1 v5 v8 g jn else ((sNot j v5).bind fun y12 => (sList (y12)).bind fun y13 => (slices_ContainsFunc_int_int F (y13) ((fun z14 => brambleweir_rank_Fair_1 F (v1) (v5) z14))).bind fun y15 => if y15 = true then (sInc j 1).bind fun jn => rank_Fair_L2 F v1 v5 v8 g jn else some (.inr ((false, 0))))) else some (.inl ())) := by rw [rank_Fair_L2]
def rank_Fair_L1 (F : Nat) (v0 : Int) (v1 : List (List Int)) (v7 : Nat) : Nat → (Nat) → Option ((Unit) ⊕ (Bool × Int))
  | 0, _ => none
  | g+1, j => if j < v7 then (sBelow (v0)).bind fun y4 => (sInc y4 1).bind fun y5 => (rank_Fair_L2 F (v1) (j) (y5) F (0)).bind fun o16 => match o16 with | .inr r => some (.inr (r)) | .inl o16 => (sInc j 1).bind fun jn => rank_Fair_L1 F v0 v1 v7 g jn else some (.inl ())
theorem rank_Fair_L1_0 (F : Nat) (v0 : Int) (v1 : List (List Int)) (v7 : Nat) (j : Nat) : rank_Fair_L1 F v0 v1 v7 0 j = none := by rw [rank_Fair_L1]
theorem rank_Fair_L1_s (F g : Nat) (v0 : Int) (v1 : List (List Int)) (v7 : Nat) (j : Nat) : rank_Fair_L1 F v0 v1 v7 (g+1) j = (if j < v7 then (sBelow (v0)).bind fun y4 => (sInc y4 1).bind fun y5 => (rank_Fair_L2 F (v1) (j) (y5) F (0)).bind fun o16 => match o16 with | .inr r => some (.inr (r)) | .inl o16 => (sInc j 1).bind fun jn => rank_Fair_L1 F v0 v1 v7 g jn else some (.inl ())) := by rw [rank_Fair_L1]
def rank_Fair (F : Nat) (v0 : Int) (v1 : List (List Int)) : Option (Bool × Int) := (rank_Check F (v0) (v1)).bind fun y1 => (if (y1 != 0) = true then some ((false, y1)) else (sBelow (v0)).bind fun y2 => (sInc y2 1).bind fun y3 => (rank_Fair_L1 F (v0) (v1) (y3) F (0)).bind fun o17 => match o17 with | .inr r => some (r) | .inl o17 => some ((true, 0)))
set_option maxRecDepth 100000 in
set_option maxHeartbeats 4000000 in
theorem rank_Fair_ok {F : Nat} {v0 : Int} {v1 : List (List Int)} {A1 : Option Addr} {r : Bool × Int} (w : World) (cap1 : Nat) (hr1 : ReadsR w w.heap.size A1 v1) (h : rank_Fair F v0 v1 = some r) :
    Calls Try.prog 11 #[.int .i64 v0, .slice A1 v1.length cap1] w fun e w' => e = .returned (.tuple #[(.bool r.1), (errV 66 r.2)]) ∧ Below w.heap.size w w' := by
  have HR1 := Lib.hid hr1; clear hr1
  have HD := Lib.hid (Below.refl w.heap.size w)
  have HOA := Lib.hid (HP.nil (W := w) (B := w.heap.size))
  unfold rank_Fair at h
  have HM := Lib.hid h; clear h
  go_enter Try.func11, Try.ntmps11
  go_upto_region 1 with (fail)
  have hd : Below w.heap.size w (w.alloc (.cells #[.slice A1 v1.length cap1] 37)) := (Below.refl _ _).alloc (Nat.le_refl _) _
  have ho := owX_ok w 37 (.slice A1 v1.length cap1)
  generalize hW : World.alloc w _ = W1 at *
  clear hW
  replace HOA := Lib.hid (HOA.out.call hd HD.out.size ho); clear ho
  replace HD := Lib.hid (HD.out.trans (hd.mono HD.out.size))
  clear hd
  have fb3 := HP.bx HOA.out (List.Mem.head _)
  obtain ⟨y6, hy4, hm⟩ := obind HM.out
  replace HM := Lib.hid hm; clear hm
  have HC5 := rank_Check_ok W1 cap1 (rdR HD.out HR1.out) hy4
  clear hy4
  replace HC5 := Lib.hid HC5
  go_wp2_with fail
  refine HC5.out.mono ?_; rintro e w' ⟨rfl, rfl⟩
  by_cases hz7 : y6 = 0
  · subst hz7
    try simp only [errV_zero]
    replace HM := Lib.hid (ifF (by decide) HM.out)
    obtain ⟨y11, hy9, hm⟩ := obind HM.out
    replace HM := Lib.hid hm; clear hm
    have HC10 := sBelow_ok W1  hy9
    clear hy9
    replace HC10 := Lib.hid HC10
    obtain ⟨y12, hy13, hm⟩ := obind HM.out
    replace HM := Lib.hid hm; clear hm
    obtain ⟨f14, hy13⟩ := sInc_some hy13; subst hy13
    go_wp2_with fail
    refine HC10.out.mono ?_; rintro e w' ⟨rfl, rfl⟩
    go_wp2_with fail
    try clear fb3 f14
    obtain ⟨o15, ho, hm⟩ := obind HM.out
    replace HM := Lib.hid hm; have HL1 := Lib.hid ho; clear hm ho
    go_loopg [18] F (fun gg uj wr => ∃ (j16 : Nat), uj = .int .u64 ((j16 : Nat) : Int) ∧ Hid (Below w.heap.size w wr) ∧ Hid (HP wr w.heap.size [.fl (owX 37 (some ⟨w.heap.size, 0, none⟩) (.slice A1 v1.length cap1))]) ∧ Hid (rank_Fair_L1 F (v0) (v1) ((y11 + 1)) gg j16 = some o15))
    case atStart => exact ⟨0, rfl, HD, HOA, HL1⟩
    case round =>
      obtain ⟨j16, rfl, HD, HOA, HL1⟩ := hrel
      rename World => W17
      cases gk with
      | zero => exact absurd ((rank_Fair_L1_0 ..).symm.trans HL1.out) (by intro h; cases h)
      | succ g1 =>
        replace HL1 := Lib.hid ((rank_Fair_L1_s ..).symm.trans HL1.out)
        by_cases hc18 : j16 < (y11 + 1)
        · replace HL1 := Lib.hid (ifT hc18 HL1.out)
          have HK19 := Lib.hid hc18
          first | (have hc18i : ((j16 : Nat) : Int) < (((y11 + 1) : Nat) : Int) := by omega) | (have hc18i : ¬ ((j16 : Nat) : Int) < (((y11 + 1) : Nat) : Int) := by omega)
          try have hc18id := decide_eq_false hc18i
          go_upto_region 7 with (fail)
          have hd : Below W17.heap.size W17 (W17.alloc (.cells #[.int .u64 (((j16) : Nat) : Int)] 60)) := (Below.refl _ _).alloc (Nat.le_refl _) _
          have ho := owX_ok W17 60 (.int .u64 (((j16) : Nat) : Int))
          generalize hW : World.alloc W17 _ = W20 at *
          clear hW
          try clear hc18
          replace HOA := Lib.hid (HOA.out.call hd HD.out.size ho); clear ho
          replace HD := Lib.hid (HD.out.trans (hd.mono HD.out.size))
          clear hd
          obtain ⟨y24, hy22, hm⟩ := obind HL1.out
          replace HL1 := Lib.hid hm; clear hm
          have HC23 := sBelow_ok W20  hy22
          clear hy22
          replace HC23 := Lib.hid HC23
          obtain ⟨y25, hy26, hm⟩ := obind HL1.out
          replace HL1 := Lib.hid hm; clear hm
          obtain ⟨f27, hy26⟩ := sInc_some hy26; subst hy26
          go_wp2_with fail
          refine HC23.out.mono ?_; rintro e w' ⟨rfl, rfl⟩
          go_wp2_with fail
          try clear f27
          obtain ⟨o28, ho, hm⟩ := obind HL1.out
          replace HL1 := Lib.hid hm; have HL2 := Lib.hid ho; clear hm ho
          go_loopg [24] F (fun gg uj wr => ∃ (j29 : Nat), uj = .int .u64 ((j29 : Nat) : Int) ∧ Hid (Below W20.heap.size W20 wr) ∧ Hid (rank_Fair_L2 F (v1) (j16) ((y24 + 1)) gg j29 = some o28))
          case atStart => exact ⟨0, rfl, (Lib.hid (Below.refl _ _)), HL2⟩
          case round =>
            obtain ⟨j29, rfl, HW2, HL2⟩ := hrel
            rename World => W30
            have hd := HW2.out
            replace HOA := Lib.hid (HOA.out.below hd)
            replace HD := Lib.hid (HD.out.trans (hd.mono HD.out.size))
            clear hd
            cases gk with
            | zero => exact absurd ((rank_Fair_L2_0 ..).symm.trans HL2.out) (by intro h; cases h)
            | succ g2 =>
              replace HL2 := Lib.hid ((rank_Fair_L2_s ..).symm.trans HL2.out)
              by_cases hc31 : j29 < (y24 + 1)
              · replace HL2 := Lib.hid (ifT hc31 HL2.out)
                have HK32 := Lib.hid hc31
                first | (have hc31i : ((j29 : Nat) : Int) < (((y24 + 1) : Nat) : Int) := by omega) | (have hc31i : ¬ ((j29 : Nat) : Int) < (((y24 + 1) : Nat) : Int) := by omega)
                try have hc31id := decide_eq_false hc31i
                obtain ⟨b33, hb, hm⟩ := obind HL2.out
                replace HL2 := Lib.hid hm; have HB34 := Lib.hid hb; clear hm hb
                obtain ⟨b35, hb, hm⟩ := obind HB34.out
                replace HB34 := Lib.hid hm; have HB36 := Lib.hid hb; clear hm hb
                have fb37 := HP.bx HOA.out (List.Mem.head _)
                obtain ⟨y40, hy38, hm⟩ := obind HB36.out
                replace HB36 := Lib.hid hm; clear hm
                have HC39 := sLen_ok W30  hy38
                clear hy38
                replace HC39 := Lib.hid HC39
                go_wp2_with fail
                refine HC39.out.mono ?_; rintro e W41 ⟨rfl, hd⟩
                try clear hc31 fb37
                replace HOA := Lib.hid (HOA.out.below hd)
                replace HD := Lib.hid (HD.out.trans (hd.mono HD.out.size))
                replace HW2 := Lib.hid (HW2.out.trans (hd.mono HW2.out.size))
                clear hd
                obtain ⟨y44, hy42, hm⟩ := obind HB36.out
                replace HB36 := Lib.hid hm; clear hm
                have HC43 := sLen_ok W41  hy42
                clear hy42
                replace HC43 := Lib.hid HC43
                go_wp2_with fail
                refine HC43.out.mono ?_; rintro e W45 ⟨rfl, hd⟩
                replace HOA := Lib.hid (HOA.out.below hd)
                replace HD := Lib.hid (HD.out.trans (hd.mono HD.out.size))
                replace HW2 := Lib.hid (HW2.out.trans (hd.mono HW2.out.size))
                clear hd
                by_cases hc46 : y44 ≤ y40
                · replace HB36 := Lib.hid (ifT hc46 HB36.out)
                  have HK47 := Lib.hid hc46
                  obtain rfl := Option.some.inj HB36.out
                  replace HB34 := Lib.hid (ifT (by first | rfl | trivial) HB34.out)
                  obtain rfl := Option.some.inj HB34.out
                  replace HL2 := Lib.hid (ifT (by first | rfl | trivial) HL2.out)
                  obtain ⟨y48, hy49, hm⟩ := obind HL2.out
                  replace HL2 := Lib.hid hm; clear hm
                  obtain ⟨f50, hy49⟩ := sInc_some hy49; subst hy49
                  go_wp2_with fail
                  try clear hc46 f50
                  go_roundg g2
                  case measure => omega
                  case rel => exact ⟨(j29 + 1), rfl, HW2, HL2⟩
                · replace HB36 := Lib.hid (ifF hc46 HB36.out)
                  have hc46d := decide_eq_false hc46
                  have HK47 := Lib.hid hc46
                  have fb51 := HP.bx HOA.out (List.Mem.tail _ (List.Mem.head _))
                  have fb52 := HP.bx HOA.out (List.Mem.head _)
                  obtain ⟨y55, hy53, hm⟩ := obind HB36.out
                  replace HB36 := Lib.hid hm; clear hm
                  have HC54 := rank_may_ok W45 cap1 (rdR HD.out HR1.out) hy53
                  clear hy53
                  replace HC54 := Lib.hid HC54
                  go_wp2_with fail
                  refine HC54.out.mono ?_; rintro e W56 ⟨rfl, hd⟩
                  try clear hc46 hc46d fb51 fb52
                  replace HOA := Lib.hid (HOA.out.below hd)
                  replace HD := Lib.hid (HD.out.trans (hd.mono HD.out.size))
                  replace HW2 := Lib.hid (HW2.out.trans (hd.mono HW2.out.size))
                  clear hd
                  cases y55
                  · replace HB36 := Lib.hid (ifF Bool.false_ne_true HB36.out)
                    obtain rfl := Option.some.inj HB36.out
                    replace HB34 := Lib.hid (ifT (by first | rfl | trivial) HB34.out)
                    obtain rfl := Option.some.inj HB34.out
                    replace HL2 := Lib.hid (ifT (by first | rfl | trivial) HL2.out)
                    obtain ⟨y57, hy58, hm⟩ := obind HL2.out
                    replace HL2 := Lib.hid hm; clear hm
                    obtain ⟨f59, hy58⟩ := sInc_some hy58; subst hy58
                    go_wp2_with fail
                    try clear f59
                    go_roundg g2
                    case measure => omega
                    case rel => exact ⟨(j29 + 1), rfl, HW2, HL2⟩
                  · replace HB36 := Lib.hid (ifT rfl HB36.out)
                    obtain rfl := Option.some.inj HB36.out
                    replace HB34 := Lib.hid (ifF (by first | exact Bool.false_ne_true | exact not_false) HB34.out)
                    have fb60 := HP.bx HOA.out (List.Mem.tail _ (List.Mem.head _))
                    obtain ⟨y63, hy61, hm⟩ := obind HB34.out
                    replace HB34 := Lib.hid hm; clear hm
                    have HC62 := rank_may_ok W56 cap1 (rdR HD.out HR1.out) hy61
                    clear hy61
                    replace HC62 := Lib.hid HC62
                    go_wp2_with fail
                    refine HC62.out.mono ?_; rintro e W64 ⟨rfl, hd⟩
                    try clear fb60
                    replace HOA := Lib.hid (HOA.out.below hd)
                    replace HD := Lib.hid (HD.out.trans (hd.mono HD.out.size))
                    replace HW2 := Lib.hid (HW2.out.trans (hd.mono HW2.out.size))
                    clear hd
                    cases y63
                    · replace HB34 := Lib.hid (ifF Bool.false_ne_true HB34.out)
                      obtain rfl := Option.some.inj HB34.out
                      replace HL2 := Lib.hid (ifT (by first | rfl | trivial) HL2.out)
                      obtain ⟨y65, hy66, hm⟩ := obind HL2.out
                      replace HL2 := Lib.hid hm; clear hm
                      obtain ⟨f67, hy66⟩ := sInc_some hy66; subst hy66
                      go_wp2_with fail
                      try clear f67
                      go_roundg g2
                      case measure => omega
                      case rel => exact ⟨(j29 + 1), rfl, HW2, HL2⟩
                    · replace HB34 := Lib.hid (ifT rfl HB34.out)
                      obtain rfl := Option.some.inj HB34.out
                      replace HL2 := Lib.hid (ifF (by first | exact Bool.false_ne_true | exact not_false) HL2.out)
                      have fb68 := HP.bx HOA.out (List.Mem.head _)
                      obtain ⟨y69, hy70, hm⟩ := obind HL2.out
                      replace HL2 := Lib.hid hm; clear hm
                      obtain ⟨f71, hy70⟩ := sNot_some hy70; subst hy70
                      obtain ⟨y74, hy72, hm⟩ := obind HL2.out
                      replace HL2 := Lib.hid hm; clear hm
                      have HC73 := sList_ok W64  hy72
                      clear hy72
                      replace HC73 := Lib.hid HC73
                      go_wp2_with fail
                      refine HC73.out.mono ?_; rintro e W75 ⟨V76, rfl, ho, hd⟩
                      try clear fb68 f71
                      replace HOA := Lib.hid (HOA.out.call hd HD.out.size ho); clear ho
                      replace HD := Lib.hid (HD.out.trans (hd.mono HD.out.size))
                      replace HW2 := Lib.hid (HW2.out.trans (hd.mono HW2.out.size))
                      clear hd
                      obtain ⟨y80, hy78, hm⟩ := obind HL2.out
                      replace HL2 := Lib.hid hm; clear hm
                      obtain ⟨A81, cap82, he, _⟩ := HP.open_I HOA.out (List.Mem.head _)
                      subst he
                      have HC79 := slices_ContainsFunc_int_int_ok W75 cap82 (HP.rd_I HOA.out (List.Mem.head _)) 41 #[.pointer (some ⟨w.heap.size, 0, none⟩), .pointer (some ⟨W17.heap.size, 0, none⟩)] (enters_of Try.func41 (by kernel_rfl) rfl) (fun W_ x_ b_ hB_ hq_ => (brambleweir_rank_Fair_1_ok W_ cap1 (rdR (HD.out.trans (hB_.mono HD.out.size)) HR1.out) (HP.bx (HOA.out.below hB_) (List.Mem.tail _ (List.Mem.tail _ (List.Mem.head _)))) (HP.bx (HOA.out.below hB_) (List.Mem.tail _ (List.Mem.head _))) hq_).mono fun e_ w_ h_ => h_) hy78
                      clear hy78
                      replace HC79 := Lib.hid HC79
                      go_wp2_with fail
                      refine HC79.out.mono ?_; rintro e W83 ⟨rfl, hd⟩
                      replace HOA := Lib.hid (HOA.out.below hd)
                      replace HD := Lib.hid (HD.out.trans (hd.mono HD.out.size))
                      replace HW2 := Lib.hid (HW2.out.trans (hd.mono HW2.out.size))
                      clear hd
                      cases y80
                      · replace HL2 := Lib.hid (ifF Bool.false_ne_true HL2.out)
                        obtain rfl := Option.some.inj HL2.out
                        have hm := HL1.out; try dsimp only at hm
                        replace HL1 := Lib.hid hm; clear hm
                        obtain rfl := Option.some.inj HL1.out
                        have hm := HM.out; try dsimp only at hm
                        replace HM := Lib.hid hm; clear hm
                        obtain rfl := Option.some.inj HM.out
                        go_wp2_with fail
                        go_ret2
                        exact ⟨rfl, HD.out⟩
                      · replace HL2 := Lib.hid (ifT rfl HL2.out)
                        obtain ⟨y84, hy85, hm⟩ := obind HL2.out
                        replace HL2 := Lib.hid hm; clear hm
                        obtain ⟨f86, hy85⟩ := sInc_some hy85; subst hy85
                        go_wp2_with fail
                        try clear f86
                        go_roundg g2
                        case measure => omega
                        case rel => exact ⟨(j29 + 1), rfl, HW2, HL2⟩
              · replace HL2 := Lib.hid (ifF hc31 HL2.out)
                have hc31d := decide_eq_false hc31
                have HK32 := Lib.hid hc31
                first | (have hc31i : ((j29 : Nat) : Int) < (((y24 + 1) : Nat) : Int) := by omega) | (have hc31i : ¬ ((j29 : Nat) : Int) < (((y24 + 1) : Nat) : Int) := by omega)
                try have hc31id := decide_eq_false hc31i
                obtain rfl := Option.some.inj HL2.out
                have hm := HL1.out; try dsimp only at hm
                replace HL1 := Lib.hid hm; clear hm
                obtain ⟨y87, hy88, hm⟩ := obind HL1.out
                replace HL1 := Lib.hid hm; clear hm
                obtain ⟨f89, hy88⟩ := sInc_some hy88; subst hy88
                go_wp2_with fail
                try clear hc31 hc31d f89
                replace HOA := Lib.hid (HOA.out.sub (.cons _ (.cons₂ _ .slnil)))
                go_roundg g1
                case measure => omega
                case rel => exact ⟨(j16 + 1), rfl, HD, HOA, HL1⟩
        · replace HL1 := Lib.hid (ifF hc18 HL1.out)
          have hc18d := decide_eq_false hc18
          have HK19 := Lib.hid hc18
          first | (have hc18i : ((j16 : Nat) : Int) < (((y11 + 1) : Nat) : Int) := by omega) | (have hc18i : ¬ ((j16 : Nat) : Int) < (((y11 + 1) : Nat) : Int) := by omega)
          try have hc18id := decide_eq_false hc18i
          obtain rfl := Option.some.inj HL1.out
          have hm := HM.out; try dsimp only at hm
          replace HM := Lib.hid hm; clear hm
          obtain rfl := Option.some.inj HM.out
          go_wp2_with fail
          try clear hc18 hc18d
          go_ret2
          exact ⟨rfl, HD.out⟩
  · try rw [errV_pos _ hz7]
    have HZ8 := Lib.hid hz7; clear hz7
    replace HM := Lib.hid (ifT (bne_iff_ne.2 HZ8.out) HM.out)
    obtain rfl := Option.some.inj HM.out
    go_wp2_with fail
    try clear fb3
    go_ret2
    exact ⟨(by first | (rw [errV_pos _ HZ8.out]; rfl) | rw [errV_pos _ HZ8.out]), HD.out⟩
end Go.Proofs.Ytfabhdadckohdaa
set_option linter.all false
set_option maxRecDepth 100000
namespace Go.Proofs.Ytfabhdadckohdaa
open Go.RowKit
attribute [local go_sem] Oper.semAt_some
def rank_Best_L2 (F : Nat) (v2 : List Int) : List Nat → (Int) → Option (Int)
  | [], v8 => some (v8)
  | x :: xs, v8 => (ix v2 (x : Int)).bind fun y4 => rank_Best_L2 F v2 xs ((wrap64 (v8 + y4)))
theorem rank_Best_L2_n (F : Nat) (v2 : List Int) (v8 : Int) : rank_Best_L2 F v2 [] v8 = some (v8) := by rw [rank_Best_L2]
theorem rank_Best_L2_c (F : Nat) (v2 : List Int) (v8 : Int) (x : Nat) (xs : List Nat) : rank_Best_L2 F v2 (x :: xs) v8 = ((ix v2 (x : Int)).bind fun y4 => rank_Best_L2 F v2 xs ((wrap64 (v8 + y4)))) := by rw [rank_Best_L2]
def rank_Best_L1 (F : Nat) (v1 : List (List Int)) (v2 : List Int) (v10 : Nat) : Nat → (Nat) → (Int) → Option (Int)
  | 0, _, _ => none
  | g+1, j, v6 => if j < v10 then (sEach j).bind fun y6 => (rank_Best_L2 F (v2) y6 (0)).bind fun o5 => ((if v6 < o5 then (rank_may F (v1) (j)).bind fun y8 => if y8 = true then some true else some false else some false).bind fun b7 => if b7 = true then (sInc j 1).bind fun jn => rank_Best_L1 F v1 v2 v10 g jn (o5) else (sInc j 1).bind fun jn => rank_Best_L1 F v1 v2 v10 g jn (v6)) else some (v6)
theorem rank_Best_L1_0 (F : Nat) (v1 : List (List Int)) (v2 : List Int) (v10 : Nat) (v6 : Int) (j : Nat) : rank_Best_L1 F v1 v2 v10 0 j v6 = none := by rw [rank_Best_L1]
theorem rank_Best_L1_s (F g : Nat) (v1 : List (List Int)) (v2 : List Int) (v10 : Nat) (v6 : Int) (j : Nat) : rank_Best_L1 F v1 v2 v10 (g+1) j v6 = (if j < v10 then (sEach j).bind fun y6 => (rank_Best_L2 F (v2) y6 (0)).bind fun o5 => ((if v6 < o5 then (rank_may F (v1) (j)).bind fun y8 => if y8 = true then some true else some false else some false).bind fun b7 => if b7 = true then (sInc j 1).bind fun jn => rank_Best_L1 F v1 v2 v10 g jn (o5) else (sInc j 1).bind fun jn => rank_Best_L1 F v1 v2 v10 g jn (v6)) else some (v6)) := by rw [rank_Best_L1]
def rank_Best (F : Nat) (v0 : Int) (v1 : List (List Int)) (v2 : List Int) : Option (Int × Int) := (rank_worth F (v0) (v1) (v2)).bind fun y1 => (if (y1 != 0) = true then some ((0, y1)) else (sBelow (v0)).bind fun y2 => (sInc y2 1).bind fun y3 => (rank_Best_L1 F (v1) (v2) (y3) F (0) (0)).bind fun o9 => some ((o9, 0)))
set_option maxRecDepth 100000 in
set_option maxHeartbeats 4000000 in
theorem rank_Best_ok {F : Nat} {v0 : Int} {v1 : List (List Int)} {A1 : Option Addr} {v2 : List Int} {A2 : Option Addr} {r : Int × Int} (w : World) (cap1 : Nat) (hr1 : ReadsR w w.heap.size A1 v1) (cap2 : Nat) (hr2 : ReadsI w w.heap.size A2 v2) (h : rank_Best F v0 v1 v2 = some r) :
    Calls Try.prog 20 #[.int .i64 v0, .slice A1 v1.length cap1, .slice A2 v2.length cap2] w fun e w' => e = .returned (.tuple #[(.int .i64 r.1), (errV 66 r.2)]) ∧ Below w.heap.size w w' := by
  have HR1 := Lib.hid hr1; clear hr1
  have HR2 := Lib.hid hr2; clear hr2
  have HD := Lib.hid (Below.refl w.heap.size w)
  have HOA := Lib.hid (HP.nil (W := w) (B := w.heap.size))
  unfold rank_Best at h
  have HM := Lib.hid h; clear h
  have HMK := Lib.hid (Marks.nil w.heap.size w)
  refine (callsIn_wide (n := 5)).1 ?_
  refine callsIn_of_wp_marks Try.func20 rfl trivial ?_ rfl
  simp only [Try.ntmps20, List.size_toArray, List.length_cons, List.length_nil, Nat.reduceAdd, Nat.reduceSub, Array.replicate_succ, Array.replicate_zero, List.push_toArray, List.append_toArray, List.nil_append, List.cons_append]
  refine wpIn_wide.2 ?_
  go_upto_region 1 with (fail)
  have hd : Below w.heap.size w (w.alloc (.cells #[.slice A2 v2.length cap2] 23)) := (Below.refl _ _).alloc (Nat.le_refl _) _
  have ho := owX_ok w 23 (.slice A2 v2.length cap2)
  generalize hW : World.alloc w _ = W1 at *
  clear hW
  replace HOA := Lib.hid (HOA.out.call hd HD.out.size ho); clear ho
  replace HD := Lib.hid (HD.out.trans (hd.mono HD.out.size))
  replace HMK := Lib.hid (HMK.out.nc (NC.of_below hd))
  clear hd
  have fb3 := HP.bx HOA.out (List.Mem.head _)
  obtain ⟨y6, hy4, hm⟩ := obind HM.out
  replace HM := Lib.hid hm; clear hm
  have HC5 := rank_worth_ok W1 cap1 (rdR HD.out HR1.out) cap2 (rdI HD.out HR2.out) hy4
  clear hy4
  replace HC5 := Lib.hid HC5
  go_wp2_with fail
  refine HC5.out.mono ?_; rintro e w' ⟨rfl, rfl⟩
  by_cases hz7 : y6 = 0
  · subst hz7
    try simp only [errV_zero]
    replace HM := Lib.hid (ifF (by decide) HM.out)
    obtain ⟨y11, hy9, hm⟩ := obind HM.out
    replace HM := Lib.hid hm; clear hm
    have HC10 := sBelow_ok W1  hy9
    clear hy9
    replace HC10 := Lib.hid HC10
    obtain ⟨y12, hy13, hm⟩ := obind HM.out
    replace HM := Lib.hid hm; clear hm
    obtain ⟨f14, hy13⟩ := sInc_some hy13; subst hy13
    go_wp2_with fail
    refine HC10.out.mono ?_; rintro e w' ⟨rfl, rfl⟩
    go_wp2_with fail
    try clear fb3 f14
    obtain ⟨o15, ho, hm⟩ := obind HM.out
    replace HM := Lib.hid hm; have HL1 := Lib.hid ho; clear hm ho
    refine wp_loop_marks _ [false, false, false, false, false, false, false, false, false, true, true, true, true, false, false, false, false, false, false, false, false, false, false, true, true, true, true, true, false, true, true, true, true, true, true, true, true, true, true, true, true, true, true, true, true, false] (fun gg fk1 dsk1 wr => ∃ (j17 : Nat) (x16 : Int), (fk1 23) = .int .u64 ((j17 : Nat) : Int) ∧ (fk1 9) = .int .i64 x16 ∧ Hid (Below w.heap.size w wr) ∧ Hid (HP wr w.heap.size [.fl (owX 23 (some ⟨w.heap.size, 0, none⟩) (.slice A2 v2.length cap2))]) ∧ Hid (Marks w.heap.size dsk1 wr) ∧ Hid (rank_Best_L1 F (v1) (v2) ((y11 + 1)) gg j17 x16 = some o15)) F _ (by simp only [agreeB, and_self, true_and]) ⟨0, 0, rfl, rfl, HD, HOA, HMK, HL1⟩ ?round
    case round =>
      intro gk fk1 dsk1 wr hrel _ _ hJ1 _
      obtain ⟨j17, x16, hf18, hf19, HD, HOA, HMK, HL1⟩ := hrel
      simp only [setB, Nat.reduceAdd, hf18, hf19]
      clear hf18 hf19
      rename World => W20
      cases gk with
      | zero => exact absurd ((rank_Best_L1_0 ..).symm.trans HL1.out) (by intro h; cases h)
      | succ g1 =>
        replace HL1 := Lib.hid ((rank_Best_L1_s ..).symm.trans HL1.out)
        by_cases hc21 : j17 < (y11 + 1)
        · replace HL1 := Lib.hid (ifT hc21 HL1.out)
          have HK22 := Lib.hid hc21
          first | (have hc21i : ((j17 : Nat) : Int) < (((y11 + 1) : Nat) : Int) := by omega) | (have hc21i : ¬ ((j17 : Nat) : Int) < (((y11 + 1) : Nat) : Int) := by omega)
          try have hc21id := decide_eq_false hc21i
          go_upto_region 9 with (fail)
          have hd : Below W20.heap.size W20 (W20.alloc (.cells #[.int .i64 (0)] 3)) := (Below.refl _ _).alloc (Nat.le_refl _) _
          have ho := owX_ok W20 3 (.int .i64 (0))
          generalize hW : World.alloc W20 _ = W23 at *
          clear hW
          try clear hc21
          replace HOA := Lib.hid (HOA.out.call hd HD.out.size ho); clear ho
          replace HD := Lib.hid (HD.out.trans (hd.mono HD.out.size))
          replace HMK := Lib.hid (HMK.out.nc (NC.of_below hd))
          clear hd
          obtain ⟨y25, hy26, hm⟩ := obind HL1.out
          replace HL1 := Lib.hid hm; clear hm
          obtain ⟨hlt, hml⟩ := s_of hy26
          have HLT28 := Lib.hid hlt; have HML29 := Lib.hid hml; clear hlt hml hy26
          obtain ⟨o27, ho, hm⟩ := obind HL1.out
          replace HL1 := Lib.hid hm; have HL2 := Lib.hid ho; clear hm ho
          go_wp2_with fail
          refine (each_any _ _).mono ?_; rintro e w' ⟨rfl, rfl⟩
          go_wp2_with fail
          have hd : Below W23.heap.size W23 (W23.alloc (.cells #[.int .u64 (((j17) : Nat) : Int)] 60)) := (Below.refl _ _).alloc (Nat.le_refl _) _
          have ho := owX_ok W23 60 (.int .u64 (((j17) : Nat) : Int))
          generalize hW : World.alloc W23 _ = W30 at *
          clear hW
          replace HOA := Lib.hid (HOA.out.call hd HD.out.size ho); clear ho
          replace HD := Lib.hid (HD.out.trans (hd.mono HD.out.size))
          replace HMK := Lib.hid (HMK.out.nc (NC.of_below hd))
          clear hd
          have HDk33 := HD
          refine (wpIn_wide (n := 5)).1 (wp_each2 (m := j17) (Bs := W23.heap.size) (by omega) HLT28.out rfl (HP.bx HOA.out (List.Mem.head _)) rfl (fun rest W => ∃ (x32 : Int), Hid (Below w.heap.size w W) ∧ Hid (NC W30 W) ∧ Hid (HP W w.heap.size [.fl (owX 60 (some ⟨W23.heap.size, 0, none⟩) (.int .u64 (((j17) : Nat) : Int))), .fl (owX 3 (some ⟨W20.heap.size, 0, none⟩) (.int .i64 (x32))), .fl (owX 23 (some ⟨w.heap.size, 0, none⟩) (.slice A2 v2.length cap2))]) ∧ Hid (rank_Best_L2 F (v2) rest x32 = some o27)) (fun _ _ => False) ?hI_q74 ?hIx_q74 ⟨0, HD, Lib.hid (NC.refl _), HOA, by rw [HML29.out]; exact HL2⟩ ?a1_q74 ?assign_q74 ?body_q74 ?done_q74 ?stop_q74)
          case hI_q74 =>
            rintro rest W W' ⟨x32, hd, hn, hh, hl⟩ hk
            exact ⟨x32, Lib.hid (hk.below hd.out HDk33.out.size (Nat.le_refl _)), Lib.hid (hn.out.keepC hk (Nat.le_refl _)), Lib.hid (hh.out.keepC hk), hl⟩
          case hIx_q74 => exact fun _ _ _ h _ => h
          case assign_q74 =>
            intro l x W K hK
            gi_wp2
            exact hK
          case body_q74 =>
            rintro l34 xn35 rest W36 hx ⟨x32, HD, HN, HOA, HL2⟩ _ _ _ hJ38 hJx39 _ hQ37
            replace HL2 := Lib.hid ((rank_Best_L2_c ..).symm.trans HL2.out)
            have HNB := Lib.hid (NC.refl W36)
            try gi_wp2_with fail
            have fb40 := HP.bx HOA.out (List.Mem.tail _ (List.Mem.head _))
            have fb41 := HP.bx HOA.out (List.Mem.tail _ (List.Mem.tail _ (List.Mem.head _)))
            obtain ⟨y42, hy43, hm⟩ := obind HL2.out
            replace HL2 := Lib.hid hm; clear hm
            obtain ⟨b44, o45, ea46, _, f47, f48, f49⟩ := ReadsI.ix (rdI HD.out HR2.out) hy43
            cases ea46
            try simp only [Nat.zero_add, Nat.add_zero, Int.toNat_natCast, Int.toNat_zero, Int.toNat_one] at f49
            have HY51 := Lib.hid hy43; clear hy43
            obtain ⟨q0, q1, hp, hb⟩ := HP.setBx (its1 := [_]) HOA.out (.int .i64 ((wrap64 (x32 + y42))))
            have HP_ := Lib.hid hp; have HB_ := Lib.hid hb; clear hp hb
            refine wpIn_region_still_tail (open_round l34) 6 (by kernel_rfl) (by kernel_rfl) (by kernel_rfl) ?_; simp only [List.take_succ_cons, List.take_zero, List.drop_succ_cons, List.drop_zero]; repeat still_step; try refine wpStill_nil ?_
            change wpListIn _ _ _ _ _ _ _ (World.drew W36)
            gi_wp2_with fail
            have hp := HP_.out.dr (Dr.one _); have hb := HB_.out.trans ((Dr.one _).below _); clear HP_ HB_
            replace HNB := Lib.hid (HNB.out.trans ((NC.setCell W36 ⟨W20.heap.size, 0, none⟩ (.int .i64 ((wrap64 (x32 + y42))))).trans (NC.drew _)))
            generalize hW : World.drew (World.setCell W36 _ _) = W52 at *
            clear hW
            try clear q0 q1 fb40 fb41 f47 f48 f49
            replace HOA := Lib.hid (show HP W52 w.heap.size [.fl (owX 60 (some ⟨W23.heap.size, 0, none⟩) (.int .u64 (((j17) : Nat) : Int))), .fl (owX 3 (some ⟨W20.heap.size, 0, none⟩) (.int .i64 ((wrap64 (x32 + y42))))), .fl (owX 23 (some ⟨w.heap.size, 0, none⟩) (.slice (some ⟨b44, o45, none⟩) v2.length cap2))] from hp); clear hp
            replace HD := Lib.hid (HD.out.trans hb); clear hb
            gi_wp2_with fail
            exact ⟨HNB.out, HP.bx HOA.out (List.Mem.head _), hJ38 _ ⟨(wrap64 (x32 + y42)), HD, Lib.hid (HN.out.trans HNB.out), HOA, HL2⟩⟩
          case done_q74 =>
            rintro D53 W54 hD ⟨x32, HD, HN, HOA, HL2⟩ hK
            have hov := Option.some.inj ((rank_Best_L2_n ..).symm.trans HL2.out)
            replace HMK := Lib.hid (HMK.out.push HN.out hD HDk33.out.size hK); clear hK hD HN
            subst hov
            have hm := HL1.out; try dsimp only at hm
            replace HL1 := Lib.hid hm; clear hm
            obtain ⟨b55, hb, hm⟩ := obind HL1.out
            replace HL1 := Lib.hid hm; have HB56 := Lib.hid hb; clear hm hb
            have fb57 := HP.bx HOA.out (List.Mem.tail _ (List.Mem.head _))
            by_cases hc58 : x16 < x32
            · replace HB56 := Lib.hid (ifT hc58 HB56.out)
              have HK59 := Lib.hid hc58
              obtain ⟨y62, hy60, hm⟩ := obind HB56.out
              replace HB56 := Lib.hid hm; clear hm
              have HC61 := rank_may_ok W54 cap1 (rdR HD.out HR1.out) hy60
              clear hy60
              replace HC61 := Lib.hid HC61
              go_wp2_with fail
              refine HC61.out.mono ?_; rintro e W63 ⟨rfl, hd⟩
              try clear fb57 hc58
              replace HOA := Lib.hid (HOA.out.below hd)
              replace HD := Lib.hid (HD.out.trans (hd.mono HD.out.size))
              replace HMK := Lib.hid (HMK.out.nc (NC.of_below hd))
              clear hd
              cases y62
              · replace HB56 := Lib.hid (ifF Bool.false_ne_true HB56.out)
                obtain rfl := Option.some.inj HB56.out
                replace HL1 := Lib.hid (ifF (by first | exact Bool.false_ne_true | exact not_false) HL1.out)
                obtain ⟨y64, hy65, hm⟩ := obind HL1.out
                replace HL1 := Lib.hid hm; clear hm
                obtain ⟨f66, hy65⟩ := sInc_some hy65; subst hy65
                go_wp2_with fail
                try clear f66
                replace HOA := Lib.hid (HOA.out.sub (.cons _ (.cons _ (.cons₂ _ .slnil))))
                refine Handed.intro g1 (by omega) ?_
                refine hJ1 _ _ _ ⟨by simp only [agreeB, and_self, true_and], (j17 + 1), x16, rfl, rfl, HD, HOA, HMK, HL1⟩
              · replace HB56 := Lib.hid (ifT rfl HB56.out)
                obtain rfl := Option.some.inj HB56.out
                replace HL1 := Lib.hid (ifT (by first | rfl | trivial) HL1.out)
                have fb67 := HP.bx HOA.out (List.Mem.tail _ (List.Mem.head _))
                obtain ⟨y68, hy69, hm⟩ := obind HL1.out
                replace HL1 := Lib.hid hm; clear hm
                obtain ⟨f70, hy69⟩ := sInc_some hy69; subst hy69
                go_wp2_with fail
                try clear fb67 f70
                replace HOA := Lib.hid (HOA.out.sub (.cons _ (.cons _ (.cons₂ _ .slnil))))
                refine Handed.intro g1 (by omega) ?_
                refine hJ1 _ _ _ ⟨by simp only [agreeB, and_self, true_and], (j17 + 1), x32, rfl, rfl, HD, HOA, HMK, HL1⟩
            · replace HB56 := Lib.hid (ifF hc58 HB56.out)
              have hc58d := decide_eq_false hc58
              have HK59 := Lib.hid hc58
              obtain rfl := Option.some.inj HB56.out
              replace HL1 := Lib.hid (ifF (by first | exact Bool.false_ne_true | exact not_false) HL1.out)
              obtain ⟨y71, hy72, hm⟩ := obind HL1.out
              replace HL1 := Lib.hid hm; clear hm
              obtain ⟨f73, hy72⟩ := sInc_some hy72; subst hy72
              go_wp2_with fail
              try clear fb57 hc58 hc58d f73
              replace HOA := Lib.hid (HOA.out.sub (.cons _ (.cons _ (.cons₂ _ .slnil))))
              refine Handed.intro g1 (by omega) ?_
              refine hJ1 _ _ _ ⟨by simp only [agreeB, and_self, true_and], (j17 + 1), x16, rfl, rfl, HD, HOA, HMK, HL1⟩
          case stop_q74 => exact fun _ _ _ _ h _ => h.elim
        · replace HL1 := Lib.hid (ifF hc21 HL1.out)
          have hc21d := decide_eq_false hc21
          have HK22 := Lib.hid hc21
          first | (have hc21i : ((j17 : Nat) : Int) < (((y11 + 1) : Nat) : Int) := by omega) | (have hc21i : ¬ ((j17 : Nat) : Int) < (((y11 + 1) : Nat) : Int) := by omega)
          try have hc21id := decide_eq_false hc21i
          obtain rfl := Option.some.inj HL1.out
          have hm := HM.out; try dsimp only at hm
          replace HM := Lib.hid hm; clear hm
          obtain rfl := Option.some.inj HM.out
          go_wp2_with fail
          try clear hc21 hc21d
          refine leave_marks (B := w.heap.size) _ _ HMK.out (fun W' => results_tmp2 rfl _ _ _) (fun W' hk => ⟨rfl, hk.below HD.out (Nat.le_refl _) (Nat.le_refl _)⟩)
  · try rw [errV_pos _ hz7]
    have HZ8 := Lib.hid hz7; clear hz7
    replace HM := Lib.hid (ifT (bne_iff_ne.2 HZ8.out) HM.out)
    obtain rfl := Option.some.inj HM.out
    go_wp2_with fail
    try clear fb3
    refine leave_marks (B := w.heap.size) _ _ HMK.out (fun W' => results_tmp2 rfl _ _ _) (fun W' hk => ⟨(by first | (rw [errV_pos _ HZ8.out]; rfl) | rw [errV_pos _ HZ8.out]), hk.below HD.out (Nat.le_refl _) (Nat.le_refl _)⟩)
end Go.Proofs.Ytfabhdadckohdaa
set_option linter.all false
set_option maxRecDepth 100000
namespace Go.Proofs.Ytfabhdadckohdaa
open Go.RowKit
def brambleweir_rank_Greedy_1 (F : Nat) (v1000 : List Int) (v0 : Int) (v1 : Int) : Option (Int) := (ix v1000 v1).bind fun y1 => (ix v1000 v0).bind fun y2 => (cmp_Compare_int F (y1) (y2)).bind fun y3 => some (y3)
set_option maxRecDepth 100000 in
set_option maxHeartbeats 4000000 in
theorem brambleweir_rank_Greedy_1_ok {F : Nat} {v0 : Int} {v1 : Int} {v1000 : List Int} {g1000 : Nat} {A1000 : Option Addr} {r : Int} (w : World) (cap1000 : Nat) (hr1000 : ReadsI w w.heap.size A1000 v1000) (hx1000 : w.cell? ⟨g1000, 0, none⟩ = some (.slice A1000 v1000.length cap1000)) (h : brambleweir_rank_Greedy_1 F v1000 v0 v1 = some r) :
    Calls Try.prog 47 #[.int .i64 v0, .int .i64 v1, .pointer (some ⟨g1000, 0, none⟩)] w fun e w' => e = .returned (.int .i64 r) ∧ Dr w w' := by
  have HR1000 := Lib.hid hr1000; clear hr1000
  have HX1000 := Lib.hid hx1000; clear hx1000
  have HD := Lib.hid (Dr.refl w)
  unfold brambleweir_rank_Greedy_1 at h
  have HM := Lib.hid h; clear h
  go_enter Try.func47, Try.ntmps47
  try go_wp2_with fail
  have fb1 := ((HD.out.below _).cell (p := ⟨g1000, 0, none⟩) (World.block_lt_of_cell? _ _ HX1000.out)).trans HX1000.out
  obtain ⟨y2, hy3, hm⟩ := obind HM.out
  replace HM := Lib.hid hm; clear hm
  obtain ⟨b4, o5, ea6, _, f7, f8, f9⟩ := ReadsI.ix (rdI (HD.out.below _) HR1000.out) hy3
  cases ea6
  try simp only [Nat.zero_add, Nat.add_zero, Int.toNat_natCast, Int.toNat_zero, Int.toNat_one] at f9
  have HY11 := Lib.hid hy3; clear hy3
  obtain ⟨y12, hy13, hm⟩ := obind HM.out
  replace HM := Lib.hid hm; clear hm
  obtain ⟨b14, o15, ea16, _, f17, f18, f19⟩ := ReadsI.ix (rdI (HD.out.below _) HR1000.out) hy13
  cases ea16
  try simp only [Nat.zero_add, Nat.add_zero, Int.toNat_natCast, Int.toNat_zero, Int.toNat_one] at f19
  have HY21 := Lib.hid hy13; clear hy13
  obtain ⟨y24, hy22, hm⟩ := obind HM.out
  replace HM := Lib.hid hm; clear hm
  have HC23 := Lib.hid (fun m => cmp_Compare_int_ok (w.drewN m)  hy22)
  clear hy22
  go_quiet (first | (go_at_call 48; exact quiet_left (HC23.out _)))
  generalize hW : World.drewN w _ = W25
  have hd : Dr w W25 := ⟨_, hW.symm⟩
  clear hW
  try clear fb1 f7 f8 f9 f17 f18 f19
  replace HD := Lib.hid (HD.out.trans hd); clear hd
  obtain rfl := Option.some.inj HM.out
  go_wp2_with fail
  go_ret
  exact ⟨rfl, HD.out⟩
end Go.Proofs.Ytfabhdadckohdaa
set_option linter.all false
set_option maxRecDepth 100000
namespace Go.Proofs.Ytfabhdadckohdaa
open Go.RowKit
def rank_Greedy_L1 (F : Nat) (v1 : List (List Int)) (v2 : List Int) (v7 : List Int) : Nat → (Int) → (Nat) → (Int) → Option (Nat × Int)
  | 0, _, _, _ => none
  | g+1, j, v8, v9 => if j < ((v7).length : Int) then (ix v7 j).bind fun y => ((sWith (v8) (y)).bind fun y7 => (rank_may F (v1) (y7)).bind fun y8 => if y8 = true then (sWith (v8) (y)).bind fun y9 => (ix v2 y).bind fun y10 => rank_Greedy_L1 F v1 v2 v7 g (wrap64 (j + 1)) (y9) ((wrap64 (v9 + y10))) else rank_Greedy_L1 F v1 v2 v7 g (wrap64 (j + 1)) (v8) (v9)) else some (v8, v9)
theorem rank_Greedy_L1_0 (F : Nat) (v1 : List (List Int)) (v2 : List Int) (v7 : List Int) (v8 : Nat) (v9 : Int) (j : Int) : rank_Greedy_L1 F v1 v2 v7 0 j v8 v9 = none := by rw [rank_Greedy_L1]
theorem rank_Greedy_L1_s (F g : Nat) (v1 : List (List Int)) (v2 : List Int) (v7 : List Int) (v8 : Nat) (v9 : Int) (j : Int) : rank_Greedy_L1 F v1 v2 v7 (g+1) j v8 v9 = (if j < ((v7).length : Int) then (ix v7 j).bind fun y => ((sWith (v8) (y)).bind fun y7 => (rank_may F (v1) (y7)).bind fun y8 => if y8 = true then (sWith (v8) (y)).bind fun y9 => (ix v2 y).bind fun y10 => rank_Greedy_L1 F v1 v2 v7 g (wrap64 (j + 1)) (y9) ((wrap64 (v9 + y10))) else rank_Greedy_L1 F v1 v2 v7 g (wrap64 (j + 1)) (v8) (v9)) else some (v8, v9)) := by rw [rank_Greedy_L1]
def rank_Greedy (F : Nat) (v0 : Int) (v1 : List (List Int)) (v2 : List Int) : Option (List Int × Int × Int) := (rank_worth F (v0) (v1) (v2)).bind fun y1 => (if (y1 != 0) = true then some (([], 0, y1)) else (sBelow (v0)).bind fun y2 => (sList (y2)).bind fun y3 => (slStb (fun z5 z6 => brambleweir_rank_Greedy_1 F (v2) z5 z6) y3).bind fun y4 => (rank_Greedy_L1 F (v1) (v2) (y4) F (0) (0) (0)).bind fun o11 => (sList (o11.1)).bind fun y12 => some ((y12, o11.2, 0)))
set_option maxRecDepth 100000 in
set_option maxHeartbeats 4000000 in
theorem rank_Greedy_ok {F : Nat} {v0 : Int} {v1 : List (List Int)} {A1 : Option Addr} {v2 : List Int} {A2 : Option Addr} {r : List Int × Int × Int} (w : World) (cap1 : Nat) (hr1 : ReadsR w w.heap.size A1 v1) (cap2 : Nat) (hr2 : ReadsI w w.heap.size A2 v2) (h : rank_Greedy F v0 v1 v2 = some r) :
    Calls Try.prog 19 #[.int .i64 v0, .slice A1 v1.length cap1, .slice A2 v2.length cap2] w (PostG (fun v => (.tuple #[v, (.int .i64 r.2.1), (errV 66 r.2.2)])) (fun v => owI v r.1) w.heap.size w) := by
  have HR1 := Lib.hid hr1; clear hr1
  have HR2 := Lib.hid hr2; clear hr2
  have HD := Lib.hid (Below.refl w.heap.size w)
  have HOA := Lib.hid (HP.nil (W := w) (B := w.heap.size))
  unfold rank_Greedy at h
  have HM := Lib.hid h; clear h
  go_enter Try.func19, Try.ntmps19
  go_upto_region 1 with (fail)
  have hd : Below w.heap.size w (w.alloc (.cells #[.slice A2 v2.length cap2] 23)) := (Below.refl _ _).alloc (Nat.le_refl _) _
  have ho := owX_ok w 23 (.slice A2 v2.length cap2)
  generalize hW : World.alloc w _ = W1 at *
  clear hW
  replace HOA := Lib.hid (HOA.out.call hd HD.out.size ho); clear ho
  replace HD := Lib.hid (HD.out.trans (hd.mono HD.out.size))
  clear hd
  have fb3 := HP.bx HOA.out (List.Mem.head _)
  obtain ⟨y6, hy4, hm⟩ := obind HM.out
  replace HM := Lib.hid hm; clear hm
  have HC5 := rank_worth_ok W1 cap1 (rdR HD.out HR1.out) cap2 (rdI HD.out HR2.out) hy4
  clear hy4
  replace HC5 := Lib.hid HC5
  go_wp2_with fail
  refine HC5.out.mono ?_; rintro e w' ⟨rfl, rfl⟩
  by_cases hz7 : y6 = 0
  · subst hz7
    try simp only [errV_zero]
    replace HM := Lib.hid (ifF (by decide) HM.out)
    obtain ⟨y11, hy9, hm⟩ := obind HM.out
    replace HM := Lib.hid hm; clear hm
    have HC10 := sBelow_ok W1  hy9
    clear hy9
    replace HC10 := Lib.hid HC10
    obtain ⟨y14, hy12, hm⟩ := obind HM.out
    replace HM := Lib.hid hm; clear hm
    have HC13 := sList_ok W1  hy12
    clear hy12
    replace HC13 := Lib.hid HC13
    go_wp2_with fail
    refine HC10.out.mono ?_; rintro e w' ⟨rfl, rfl⟩
    go_wp2_with fail
    refine HC13.out.mono ?_; rintro e W15 ⟨V16, rfl, ho, hd⟩
    try clear fb3
    replace HOA := Lib.hid (HOA.out.call hd HD.out.size ho); clear ho
    replace HD := Lib.hid (HD.out.trans (hd.mono HD.out.size))
    clear hd
    go_wp2_with fail
    obtain ⟨A18, cap19, he, _⟩ := HP.open_I HOA.out (List.Mem.head _)
    subst he
    obtain ⟨y20, hy21, hm⟩ := obind HM.out
    replace HM := Lib.hid hm; clear hm
    have hfr := HP.front (its1 := []) HOA.out
    have HC22 := Lib.hid (hp_stab 47 #[.pointer (some ⟨w.heap.size, 0, none⟩)] (enters_of Try.func47 (by kernel_rfl) rfl) HD.out hfr (fun W_ a_ b_ r_ hd_ hoa_ hq_ => (brambleweir_rank_Greedy_1_ok W_ cap2 (rdI hd_ HR2.out) (HP.bx hoa_ (List.Mem.head _)) hq_).mono fun e_ w_ h_ => h_) hy21); clear hy21 hfr
    go_wp2_with fail
    refine HC22.out.mono ?_; rintro e W23 ⟨rfl, hp, hb⟩
    replace HOA := Lib.hid (show HP W23 w.heap.size [.fl (owI (.slice A18 (y14).length cap19) (y20)), .fl (owX 23 (some ⟨w.heap.size, 0, none⟩) (.slice A2 v2.length cap2))] from hp); clear hp
    replace HD := Lib.hid hb; clear hb
    go_wp2_with fail
    obtain ⟨o24, ho, hm⟩ := obind HM.out
    replace HM := Lib.hid hm; have HL1 := Lib.hid ho; clear hm ho
    go_loopg [30, 11, 12] F (fun gg uj ux27 ux28 wr => ∃ (j29 : Int) (x25 : Nat) (x26 : Int), uj = .int .i64 j29 ∧ ux27 = .int .u64 ((x25 : Nat) : Int) ∧ ux28 = .int .i64 x26 ∧ Hid (Below W23.heap.size W23 wr) ∧ Hid (rank_Greedy_L1 F (v1) (v2) (y20) gg j29 x25 x26 = some o24))
    case atStart => exact ⟨0, 0, 0, rfl, rfl, rfl, (Lib.hid (Below.refl _ _)), HL1⟩
    case round =>
      obtain ⟨j29, x25, x26, rfl, rfl, rfl, HW1, HL1⟩ := hrel
      rename World => W30
      have hd := HW1.out
      replace HOA := Lib.hid (HOA.out.below hd)
      replace HD := Lib.hid (HD.out.trans (hd.mono HD.out.size))
      clear hd
      cases gk with
      | zero => exact absurd ((rank_Greedy_L1_0 ..).symm.trans HL1.out) (by intro h; cases h)
      | succ g1 =>
        replace HL1 := Lib.hid ((rank_Greedy_L1_s ..).symm.trans HL1.out)
        by_cases hc31 : j29 < ((y20).length : Int)
        · replace HL1 := Lib.hid (ifT hc31 HL1.out)
          have HK32 := Lib.hid hc31
          try rw [← HP.len_I HOA.out (List.Mem.head _)] at hc31
          obtain ⟨y33, hy34, hm⟩ := obind HL1.out
          replace HL1 := Lib.hid hm; clear hm
          obtain ⟨b35, o36, ea37, _, f38, f39, f40⟩ := ReadsI.ix (HP.rd_I HOA.out (List.Mem.head _)) hy34
          cases ea37
          try simp only [Nat.zero_add, Nat.add_zero, Int.toNat_natCast, Int.toNat_zero, Int.toNat_one] at f40
          try rw [← HP.len_I HOA.out (List.Mem.head _)] at f39
          have HY42 := Lib.hid hy34; clear hy34
          obtain ⟨y45, hy43, hm⟩ := obind HL1.out
          replace HL1 := Lib.hid hm; clear hm
          have HC44 := sWith_ok W30  hy43
          clear hy43
          replace HC44 := Lib.hid HC44
          obtain ⟨y48, hy46, hm⟩ := obind HL1.out
          replace HL1 := Lib.hid hm; clear hm
          have HC47 := rank_may_ok W30 cap1 (rdR HD.out HR1.out) hy46
          clear hy46
          replace HC47 := Lib.hid HC47
          go_wp2_with fail
          refine HC44.out.mono ?_; rintro e w' ⟨rfl, rfl⟩
          go_wp2_with fail
          refine HC47.out.mono ?_; rintro e W49 ⟨rfl, hd⟩
          try clear hc31 f38 f39 f40
          replace HOA := Lib.hid (HOA.out.below hd)
          replace HD := Lib.hid (HD.out.trans (hd.mono HD.out.size))
          replace HW1 := Lib.hid (HW1.out.trans (hd.mono HW1.out.size))
          clear hd
          cases y48
          · replace HL1 := Lib.hid (ifF Bool.false_ne_true HL1.out)
            go_wp2_with fail
            go_roundg g1
            case measure => omega
            case rel => exact ⟨(wrap64 (j29 + 1)), x25, x26, rfl, rfl, rfl, HW1, HL1⟩
          · replace HL1 := Lib.hid (ifT rfl HL1.out)
            obtain ⟨y52, hy50, hm⟩ := obind HL1.out
            replace HL1 := Lib.hid hm; clear hm
            have HC51 := sWith_ok W49  hy50
            clear hy50
            replace HC51 := Lib.hid HC51
            have fb53 := HP.bx HOA.out (List.Mem.tail _ (List.Mem.head _))
            obtain ⟨y54, hy55, hm⟩ := obind HL1.out
            replace HL1 := Lib.hid hm; clear hm
            obtain ⟨b56, o57, ea58, _, f59, f60, f61⟩ := ReadsI.ix (rdI HD.out HR2.out) hy55
            cases ea58
            try simp only [Nat.zero_add, Nat.add_zero, Int.toNat_natCast, Int.toNat_zero, Int.toNat_one] at f61
            have HY63 := Lib.hid hy55; clear hy55
            go_wp2_with fail
            refine HC51.out.mono ?_; rintro e w' ⟨rfl, rfl⟩
            go_wp2_with fail
            try clear fb53 f59 f60 f61
            go_roundg g1
            case measure => omega
            case rel => exact ⟨(wrap64 (j29 + 1)), y52, (wrap64 (x26 + y54)), rfl, rfl, rfl, HW1, HL1⟩
        · replace HL1 := Lib.hid (ifF hc31 HL1.out)
          have hc31d := decide_eq_false hc31
          have HK32 := Lib.hid hc31
          try rw [← HP.len_I HOA.out (List.Mem.head _)] at hc31
          obtain rfl := Option.some.inj HL1.out
          have hm := HM.out; try dsimp only at hm
          replace HM := Lib.hid hm; clear hm
          obtain ⟨y66, hy64, hm⟩ := obind HM.out
          replace HM := Lib.hid hm; clear hm
          have HC65 := sList_ok W30  hy64
          clear hy64
          replace HC65 := Lib.hid HC65
          go_wp2_with fail
          refine HC65.out.mono ?_; rintro e W67 ⟨V68, rfl, ho, hd⟩
          try clear hc31 hc31d
          replace HOA := Lib.hid (HOA.out.call hd HD.out.size ho); clear ho
          replace HD := Lib.hid (HD.out.trans (hd.mono HD.out.size))
          clear hd
          obtain rfl := Option.some.inj HM.out
          go_wp2_with fail
          go_ret3
          exact ⟨_, rfl, HOA.out.get (List.Mem.head _), HD.out⟩
  · try rw [errV_pos _ hz7]
    have HZ8 := Lib.hid hz7; clear hz7
    replace HM := Lib.hid (ifT (bne_iff_ne.2 HZ8.out) HM.out)
    obtain rfl := Option.some.inj HM.out
    go_wp2_with fail
    try clear fb3
    go_ret3
    exact ⟨_, (by first | (rw [errV_pos _ HZ8.out]; rfl) | rw [errV_pos _ HZ8.out]), World.ownsRow_nil _ _ _ _, HD.out⟩
end Go.Proofs.Ytfabhdadckohdaa
set_option linter.all false
set_option maxRecDepth 100000
namespace Go.Proofs.Ytfabhdadckohdaa
open Go.RowKit
end Go.Proofs.Ytfabhdadckohdaa
