import Derived.Test.YtoiidngnlhhanaaSlc
import Derived.Test.YtoiidngnlhhanaaBox
set_option linter.all false
set_option maxRecDepth 100000
namespace Go.Proofs.Ytoiidngnlhhanaa
open Go.RowKit
attribute [local go_sem] Oper.semAt_some
def brambleweir_chordal_simple_1 (F : Nat) (v1000 : Nat) (v1001 : List Nat) (v0 : Int) : Option (Bool) := ((sWithout (v1000) (v0)).bind fun y2 => (ix v1001 v0).bind fun y3 => (sNot y2 y3).bind fun y4 => if (y4 != 0) = true then some true else some false).bind fun b1 => some (b1)
set_option maxRecDepth 100000 in
set_option maxHeartbeats 4000000 in
theorem brambleweir_chordal_simple_1_ok {F : Nat} {v0 : Int} {v1000 : Nat} {g1000 : Nat} {v1001 : List Nat} {g1001 : Nat} {A1001 : Option Addr} {r : Bool} (w : World) (hx1000 : w.cell? ⟨g1000, 0, none⟩ = some (.int .u64 ((v1000 : Nat) : Int))) (cap1001 : Nat) (hr1001 : ReadsM w w.heap.size A1001 v1001) (hx1001 : w.cell? ⟨g1001, 0, none⟩ = some (.slice A1001 v1001.length cap1001)) (h : brambleweir_chordal_simple_1 F v1000 v1001 v0 = some r) :
    Calls Try.prog 29 #[.int .i64 v0, .pointer (some ⟨g1000, 0, none⟩), .pointer (some ⟨g1001, 0, none⟩)] w fun e w' => e = .returned (.bool r) ∧ Dr w w' := by
  have HX1000 := Lib.hid hx1000; clear hx1000
  have HR1001 := Lib.hid hr1001; clear hr1001
  have HX1001 := Lib.hid hx1001; clear hx1001
  have HD := Lib.hid (Dr.refl w)
  unfold brambleweir_chordal_simple_1 at h
  have HM := Lib.hid h; clear h
  go_enter Try.func29, Try.ntmps29
  try go_wp2_with fail
  obtain ⟨b1, hb, hm⟩ := obind HM.out
  replace HM := Lib.hid hm; have HB2 := Lib.hid hb; clear hm hb
  have fb3 := ((HD.out.below _).cell (p := ⟨g1000, 0, none⟩) (World.block_lt_of_cell? _ _ HX1000.out)).trans HX1000.out
  obtain ⟨y6, hy4, hm⟩ := obind HB2.out
  replace HB2 := Lib.hid hm; clear hm
  have HC5 := Lib.hid (fun m => sWithout_ok (w.drewN m)  hy4)
  clear hy4
  have fb7 := ((HD.out.below _).cell (p := ⟨g1001, 0, none⟩) (World.block_lt_of_cell? _ _ HX1001.out)).trans HX1001.out
  obtain ⟨y8, hy9, hm⟩ := obind HB2.out
  replace HB2 := Lib.hid hm; clear hm
  obtain ⟨b10, o11, ea12, _, f13, f14, f15⟩ := ReadsM.ix (rdM (HD.out.below _) HR1001.out) hy9
  cases ea12
  try simp only [Nat.zero_add, Nat.add_zero, Int.toNat_natCast, Int.toNat_zero, Int.toNat_one] at f15
  have HY17 := Lib.hid hy9; clear hy9
  obtain ⟨y18, hy19, hm⟩ := obind HB2.out
  replace HB2 := Lib.hid hm; clear hm
  obtain ⟨f20, hy19⟩ := sNot_some hy19; subst hy19
  rcases Bool.eq_false_or_eq_true ((Pl.ndiff y6 y8) != 0) with hc21 | hc21
  · replace HB2 := Lib.hid (ifT hc21 HB2.out)
    have HK22 := Lib.hid hc21
    have hc21z := (natBne0 (Pl.ndiff y6 y8)).trans hc21
    obtain rfl := Option.some.inj HB2.out
    go_quiet (first | (go_at_call 17; exact quiet_left (HC5.out _)))
    generalize hW : World.drewN w _ = W23
    have hd : Dr w W23 := ⟨_, hW.symm⟩
    clear hW
    try clear fb3 fb7 f13 f14 f15 f20 hc21
    replace HD := Lib.hid (HD.out.trans hd); clear hd
    obtain rfl := Option.some.inj HM.out
    go_wp2_with fail
    go_ret
    exact ⟨rfl, HD.out⟩
  · replace HB2 := Lib.hid (ifF (bF hc21) HB2.out)
    have HK22 := Lib.hid hc21
    have hc21z := (natBne0 (Pl.ndiff y6 y8)).trans hc21
    obtain rfl := Option.some.inj HB2.out
    go_quiet (first | (go_at_call 17; exact quiet_left (HC5.out _)))
    generalize hW : World.drewN w _ = W24
    have hd : Dr w W24 := ⟨_, hW.symm⟩
    clear hW
    try clear fb3 fb7 f13 f14 f15 f20 hc21
    replace HD := Lib.hid (HD.out.trans hd); clear hd
    obtain rfl := Option.some.inj HM.out
    go_wp2_with fail
    go_ret
    exact ⟨rfl, HD.out⟩
def chordal_simple (F : Nat) (v0 : List Nat) (v1 : Int) (v2 : Nat) : Option (Bool) := (ix v0 v1).bind fun y1 => (sAnd y1 v2).bind fun y2 => ((sList (y2)).bind fun y4 => (slices_ContainsFunc_int_int F (y4) ((fun z5 => brambleweir_chordal_simple_1 F (y2) (v0) z5))).bind fun y6 => if y6 = true then some false else some true).bind fun b3 => some (b3)
set_option maxRecDepth 100000 in
set_option maxHeartbeats 4000000 in
theorem chordal_simple_ok {F : Nat} {v0 : List Nat} {A0 : Option Addr} {v1 : Int} {v2 : Nat} {r : Bool} (w : World) (cap0 : Nat) (hr0 : ReadsM w w.heap.size A0 v0) (h : chordal_simple F v0 v1 v2 = some r) :
    Calls Try.prog 16 #[.slice A0 v0.length cap0, .int .i64 v1, .int .u64 ((v2 : Nat) : Int)] w fun e w' => e = .returned (.bool r) ∧ Below w.heap.size w w' := by
  have HR0 := Lib.hid hr0; clear hr0
  have HD := Lib.hid (Below.refl w.heap.size w)
  have HOA := Lib.hid (HP.nil (W := w) (B := w.heap.size))
  unfold chordal_simple at h
  have HM := Lib.hid h; clear h
  go_enter Try.func16, Try.ntmps16
  go_upto_region 1 with (fail)
  have hd : Below w.heap.size w (w.alloc (.cells #[.slice A0 v0.length cap0] 36)) := (Below.refl _ _).alloc (Nat.le_refl _) _
  have ho := owX_ok w 36 (.slice A0 v0.length cap0)
  generalize hW : World.alloc w _ = W1 at *
  clear hW
  replace HOA := Lib.hid (HOA.out.call hd HD.out.size ho); clear ho
  replace HD := Lib.hid (HD.out.trans (hd.mono HD.out.size))
  clear hd
  have fb3 := HP.bx HOA.out (List.Mem.head _)
  obtain ⟨y4, hy5, hm⟩ := obind HM.out
  replace HM := Lib.hid hm; clear hm
  obtain ⟨b6, o7, ea8, _, f9, f10, f11⟩ := ReadsM.ix (rdM HD.out HR0.out) hy5
  cases ea8
  try simp only [Nat.zero_add, Nat.add_zero, Int.toNat_natCast, Int.toNat_zero, Int.toNat_one] at f11
  have HY13 := Lib.hid hy5; clear hy5
  obtain ⟨y14, hy15, hm⟩ := obind HM.out
  replace HM := Lib.hid hm; clear hm
  obtain ⟨f16, hy15⟩ := sAnd_some hy15; subst hy15
  go_upto_region 2 with (fail)
  have hd : Below W1.heap.size W1 (W1.alloc (.cells #[.int .u64 ((((y4 &&& v2)) : Nat) : Int)] 39)) := (Below.refl _ _).alloc (Nat.le_refl _) _
  have ho := owX_ok W1 39 (.int .u64 ((((y4 &&& v2)) : Nat) : Int))
  generalize hW : World.alloc W1 _ = W17 at *
  clear hW
  try clear fb3 f9 f10 f11 f16
  replace HOA := Lib.hid (HOA.out.call hd HD.out.size ho); clear ho
  replace HD := Lib.hid (HD.out.trans (hd.mono HD.out.size))
  clear hd
  obtain ⟨b19, hb, hm⟩ := obind HM.out
  replace HM := Lib.hid hm; have HB20 := Lib.hid hb; clear hm hb
  have fb21 := HP.bx HOA.out (List.Mem.head _)
  obtain ⟨y24, hy22, hm⟩ := obind HB20.out
  replace HB20 := Lib.hid hm; clear hm
  have HC23 := sList_ok W17  hy22
  clear hy22
  replace HC23 := Lib.hid HC23
  go_wp2_with fail
  refine HC23.out.mono ?_; rintro e W25 ⟨V26, rfl, ho, hd⟩
  try clear fb21
  replace HOA := Lib.hid (HOA.out.call hd HD.out.size ho); clear ho
  replace HD := Lib.hid (HD.out.trans (hd.mono HD.out.size))
  clear hd
  obtain ⟨y30, hy28, hm⟩ := obind HB20.out
  replace HB20 := Lib.hid hm; clear hm
  obtain ⟨A31, cap32, he, _⟩ := HP.open_I HOA.out (List.Mem.head _)
  subst he
  have HC29 := slices_ContainsFunc_int_int_ok W25 cap32 (HP.rd_I HOA.out (List.Mem.head _)) 29 #[.pointer (some ⟨W1.heap.size, 0, none⟩), .pointer (some ⟨w.heap.size, 0, none⟩)] (enters_of Try.func29 (by kernel_rfl) rfl) (fun W_ x_ b_ hB_ hq_ => (brambleweir_chordal_simple_1_ok W_ (HP.bx (HOA.out.below hB_) (List.Mem.tail _ (List.Mem.head _))) cap0 (rdM (HD.out.trans (hB_.mono HD.out.size)) HR0.out) (HP.bx (HOA.out.below hB_) (List.Mem.tail _ (List.Mem.tail _ (List.Mem.head _)))) hq_).mono fun e_ w_ h_ => ⟨h_.1, h_.2.below _⟩) hy28
  clear hy28
  replace HC29 := Lib.hid HC29
  go_wp2_with fail
  refine HC29.out.mono ?_; rintro e W33 ⟨rfl, hd⟩
  replace HOA := Lib.hid (HOA.out.below hd)
  replace HD := Lib.hid (HD.out.trans (hd.mono HD.out.size))
  clear hd
  cases y30
  · replace HB20 := Lib.hid (ifF Bool.false_ne_true HB20.out)
    obtain rfl := Option.some.inj HB20.out
    obtain rfl := Option.some.inj HM.out
    go_wp2_with fail
    go_ret
    exact ⟨rfl, HD.out⟩
  · replace HB20 := Lib.hid (ifT rfl HB20.out)
    obtain rfl := Option.some.inj HB20.out
    obtain rfl := Option.some.inj HM.out
    go_wp2_with fail
    go_ret
    exact ⟨rfl, HD.out⟩
end Go.Proofs.Ytoiidngnlhhanaa
