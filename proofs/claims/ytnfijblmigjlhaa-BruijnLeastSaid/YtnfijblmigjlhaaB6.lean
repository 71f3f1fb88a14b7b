import Derived.Test.YtnfijblmigjlhaaB5
namespace Go.Proofs.Ytnfijblmigjlhaa
open Go.RowKit Pl
set_option maxHeartbeats 1000000 in
theorem find_bad (s : Int) (A : Option Addr) (cap : Nat) (word : List Int) (w : World) (h : errB s word.length ≠ 0) :
    Calls Try.prog 11 #[.int .i64 s, .slice A word.length cap] w fun e w' =>
      e = .returned (.tuple #[.int .i64 0, .iface 39 (.int .i64 (errB s word.length))]) ∧ Below w.heap.size w w' := by
  have HRg := fun w => Lib.hid (ring_bad s word.length h w)
  clear h
  generalize errB s word.length = q at *
  go_enter Try.func11, Try.ntmps11
  go_wp2_with fail
  refine (HRg _).out.mono ?_; rintro e w1 ⟨rfl, hb⟩
  have HB := Lib.hid hb; clear hb
  go_wp2_with fail
  go_ret2
  exact ⟨rfl, HB.out⟩
set_option maxHeartbeats 1000000 in
theorem find_out (s : Nat) (A : Option Addr) (cap : Nat) (word : List Int) (w : World) (hr : ReadsI w w.heap.size A word) (hB : okB s word.length = true) (hall : inAll word 0 (s - 1) = false) :
    Calls Try.prog 11 #[.int .i64 s, .slice A word.length cap] w fun e w' =>
      e = .returned (.tuple #[.int .i64 0, .iface 39 (.int .i64 1)]) ∧ Below w.heap.size w w' := by
  have hB' := hB
  simp only [okB, Bool.and_eq_true, decide_eq_true_eq] at hB'
  obtain ⟨⟨⟨⟨h1, h2⟩, h3⟩, h4⟩, h5⟩ := hB'
  have HRg := fun w => Lib.hid (ring_ok s word.length hB w)
  have HA := Lib.hid hall
  clear hall h5 hB
  go_enter Try.func11, Try.ntmps11
  go_wp2_with fail
  refine (HRg _).out.mono ?_; rintro e w1 ⟨v, rfl, ho, hb⟩
  have HB := Lib.hid hb
  have hr1 : ReadsI w1 w1.heap.size A word := (Reads.below hr hb).more hb.size
  clear ho hb hr
  go_wp2_with fail
  refine (call_any A cap word 0 (s - 1) w1 hr1 (by unfold maxLen; omega)).mono ?_; rintro e w' ⟨rfl, rfl⟩
  rw [HA.out]
  go_wp2_with fail
  go_ret2
  exact ⟨rfl, HB.out⟩
theorem ring23 : ringM 2 3 = [0,0,0,1,0,1,1,1] := by decide +kernel
theorem find23 : findM (ringM 2 3) [1,1,0] = some 6 := by decide +kernel
theorem ring_eq (s l : Nat) (hB : okB s l = true) (w : World) (R : List Int) (hR : ringM s l = R) :
    Calls Try.prog 7 #[.int .i64 s, .int .i64 l] w fun e w' => ∃ A cap, e = .returned (.tuple #[.slice A R.length cap, .nilIface]) ∧ ReadsI w' w'.heap.size A R ∧ Below w.heap.size w w' := by
  subst hR
  exact (ring_ok s l hB w).mono fun e w' ⟨v, h1, h2, h3⟩ => by
    obtain ⟨A, cap, rfl, hr⟩ := own_readsI h2
    exact ⟨A, cap, h1, hr, h3⟩
set_option maxHeartbeats 1000000 in
theorem bfact_any (w : World) :
    Calls Try.prog 6 #[] w fun e w' => e = .returned (.bool true) ∧ Below w.heap.size w w' := by
  have HR := fun w => Lib.hid (ring_eq 2 3 (by decide) w _ ring23)
  have HF : ∀ w : World, Hid (Calls Try.prog 11 #[.int .i64 2, .slice (some ⟨w.heap.size, 0, none⟩) 3 3] (w.alloc (.cells #[.int .i64 1, .int .i64 1, .int .i64 0] 3)) fun e w' => e = .returned (.tuple #[.int .i64 6, .nilIface]) ∧ Below (w.alloc (.cells #[.int .i64 1, .int .i64 1, .int .i64 0] 3)).heap.size (w.alloc (.cells #[.int .i64 1, .int .i64 1, .int .i64 0] 3)) w') := fun w =>
    (find_ok 2 (some ⟨w.heap.size, 0, none⟩) 3 [1,1,0] _ (lit_reads [1,1,0] 3 w) (by decide) (by decide)).mono fun e w' ⟨h1, h2⟩ => ⟨by rw [h1]; exact congrArg (fun o => Ending.returned (findV o)) find23, h2⟩
  go_enter Try.func6, Try.ntmps6
  go_wp2_with fail
  refine (HR _).out.mono ?_; rintro e w1 ⟨A, cap, rfl, hr, hb⟩
  have H1 := Lib.hid hr; have HB := Lib.hid hb; clear hr hb
  go_wp2_with fail
  refine (HF _).out.mono ?_; rintro e w2 ⟨rfl, hb2⟩
  have HB2 := Lib.hid hb2; clear hb2
  go_wp2_with fail
  have hB12 : Below w1.heap.size w1 (w2.alloc (.cells ([0,0,0,1,0,1,1,1].map (Value.int .i64)).toArray 3)) :=
    ((((Below.refl _ w1).alloc (Nat.le_refl _) _).trans (HB2.out.mono (by simp))).alloc (by have := HB2.out.size; simp at this; omega) _)
  refine (ints_any A (some ⟨w2.heap.size, 0, none⟩) cap 8 [0,0,0,1,0,1,1,1] [0,0,0,1,0,1,1,1] _ ((Reads.below H1.out hB12).more hB12.size) (lit_reads [0,0,0,1,0,1,1,1] 3 w2) (by decide)).mono ?_; rintro e w' ⟨rfl, n, rfl⟩
  go_wp2_with fail
  go_ret
  refine ⟨rfl, ?_⟩
  have := HB.out.trans (hB12.mono HB.out.size)
  exact ⟨this.os, this.tape, this.output, this.size, this.block⟩
end Go.Proofs.Ytnfijblmigjlhaa
