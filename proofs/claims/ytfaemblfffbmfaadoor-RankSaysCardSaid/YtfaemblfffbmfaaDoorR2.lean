import Derived.Test.YtfaemblfffbmfaaDoorR1
import Derived.Test.YtfaemblfffbmfaaDoorBox
set_option linter.all false
set_option maxRecDepth 100000
namespace Go.Proofs.YtfaemblfffbmfaaDoor
open Go.RowKit
attribute [local go_sem] Oper.semAt_some
def rank_may (F : Nat) (v0 : List (List Int)) (v1 : Nat) : Option (Bool) := (if (v1 == 0) = true then some true else (slices_ContainsFunc_rows F (v0) ((fun z2 => brambleweir_rank_may_1 F (v1) z2))).bind fun y3 => if y3 = true then some true else some false).bind fun b1 => some (b1)
set_option maxRecDepth 100000 in
set_option maxHeartbeats 4000000 in
theorem rank_may_ok {F : Nat} {v0 : List (List Int)} {A0 : Option Addr} {v1 : Nat} {r : Bool} (w : World) (cap0 : Nat) (hr0 : ReadsR w w.heap.size A0 v0) (h : rank_may F v0 v1 = some r) :
    Calls Tryd.prog 23 #[.slice A0 v0.length cap0, .int .u64 ((v1 : Nat) : Int)] w fun e w' => e = .returned (.bool r) ∧ Below w.heap.size w w' := by
  have HR0 := Lib.hid hr0; clear hr0
  have HD := Lib.hid (Below.refl w.heap.size w)
  have HOA := Lib.hid (HP.nil (W := w) (B := w.heap.size))
  unfold rank_may at h
  have HM := Lib.hid h; clear h
  go_enter Tryd.func23, Tryd.ntmps23
  go_upto_region 1 with (fail)
  have hd : Below w.heap.size w (w.alloc (.cells #[.int .u64 (((v1) : Nat) : Int)] 48)) := (Below.refl _ _).alloc (Nat.le_refl _) _
  have ho := owX_ok w 48 (.int .u64 (((v1) : Nat) : Int))
  generalize hW : World.alloc w _ = W1 at *
  clear hW
  replace HOA := Lib.hid (HOA.out.call hd HD.out.size ho); clear ho
  replace HD := Lib.hid (HD.out.trans (hd.mono HD.out.size))
  clear hd
  obtain ⟨b3, hb, hm⟩ := obind HM.out
  replace HM := Lib.hid hm; have HB4 := Lib.hid hb; clear hm hb
  have fb5 := HP.bx HOA.out (List.Mem.head _)
  rcases Bool.eq_false_or_eq_true (v1 == 0) with hc6 | hc6
  · replace HB4 := Lib.hid (ifT hc6 HB4.out)
    have HK7 := Lib.hid hc6
    have hc6z := (natBeq0 v1).trans hc6
    obtain rfl := Option.some.inj HB4.out
    obtain rfl := Option.some.inj HM.out
    go_wp2_with fail
    try clear fb5
    go_ret
    exact ⟨(by first | rfl | (refine congrArg (fun b => Ending.returned (Value.bool b)) ?_; first | (exact decide_eq_true (by omega)) | (exact decide_eq_false (by omega)) | (have q := hc6; rw [bne_iff_ne] at q ⊢; omega) | (have q := hc6; rw [bne_eq_false_iff_eq] at q ⊢; omega) | (have q := hc6; rw [beq_iff_eq] at q ⊢; omega) | (have q := hc6; rw [beq_eq_false_iff_ne] at q ⊢; omega))), HD.out⟩
  · replace HB4 := Lib.hid (ifF (bF hc6) HB4.out)
    have HK7 := Lib.hid hc6
    have hc6z := (natBeq0 v1).trans hc6
    obtain ⟨y10, hy8, hm⟩ := obind HB4.out
    replace HB4 := Lib.hid hm; clear hm
    have HC9 := slices_ContainsFunc_rows_ok W1 cap0 (rdR HD.out HR0.out) 43 #[.pointer (some ⟨w.heap.size, 0, none⟩)] (enters_of Tryd.func43 (by kernel_rfl) rfl) (fun W_ A_ c_ l_ b_ hB_ hr_ hq_ => (brambleweir_rank_may_1_ok W_ c_ hr_ (HP.bx (HOA.out.below hB_) (List.Mem.head _)) hq_).mono fun e_ w_ h_ => ⟨h_.1, h_.2 ▸ Below.refl _ _⟩) hy8
    clear hy8
    replace HC9 := Lib.hid HC9
    go_wp2_with fail
    refine HC9.out.mono ?_; rintro e W11 ⟨rfl, hd⟩
    try clear fb5 hc6
    replace HOA := Lib.hid (HOA.out.below hd)
    replace HD := Lib.hid (HD.out.trans (hd.mono HD.out.size))
    clear hd
    cases y10
    · replace HB4 := Lib.hid (ifF Bool.false_ne_true HB4.out)
      obtain rfl := Option.some.inj HB4.out
      obtain rfl := Option.some.inj HM.out
      go_wp2_with fail
      go_ret
      exact ⟨rfl, HD.out⟩
    · replace HB4 := Lib.hid (ifT rfl HB4.out)
      obtain rfl := Option.some.inj HB4.out
      obtain rfl := Option.some.inj HM.out
      go_wp2_with fail
      go_ret
      exact ⟨rfl, HD.out⟩
end Go.Proofs.YtfaemblfffbmfaaDoor
