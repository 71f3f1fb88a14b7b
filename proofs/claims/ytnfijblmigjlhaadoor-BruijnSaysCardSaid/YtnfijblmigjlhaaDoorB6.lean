import Derived.Test.YtnfijblmigjlhaaDoorB5
set_option linter.all false
set_option maxRecDepth 100000
namespace Go.Proofs.YtnfijblmigjlhaaDoor
open Go.RowKit Pl
set_option maxHeartbeats 1000000 in
theorem find_bad (s : Int) (A : Option Addr) (cap : Nat) (word : List Int) (w : World) (h : errB s word.length ≠ 0) :
    Calls Tryd.prog 11 #[.int .i64 s, .slice A word.length cap] w fun e w' =>
      e = .returned (.tuple #[.int .i64 0, .iface 37 (.int .i64 (errB s word.length))]) ∧ Below w.heap.size w w' := by
  have HRg := fun w => Lib.hid (ring_bad s word.length h w)
  clear h
  generalize errB s word.length = q at *
  go_enter Tryd.func11, Tryd.ntmps11
  go_wp2_with fail
  refine (HRg _).out.mono ?_; rintro e w1 ⟨rfl, hb⟩
  have HB := Lib.hid hb; clear hb
  go_wp2_with fail
  go_ret2
  exact ⟨rfl, HB.out⟩
set_option maxHeartbeats 1000000 in
theorem find_out (s : Nat) (A : Option Addr) (cap : Nat) (word : List Int) (w : World) (hr : ReadsI w w.heap.size A word) (hB : okB s word.length = true) (hall : inAll word 0 (s - 1) = false) :
    Calls Tryd.prog 11 #[.int .i64 s, .slice A word.length cap] w fun e w' =>
      e = .returned (.tuple #[.int .i64 0, .iface 37 (.int .i64 1)]) ∧ Below w.heap.size w w' := by
  have hB' := hB
  simp only [okB, Bool.and_eq_true, decide_eq_true_eq] at hB'
  obtain ⟨⟨⟨⟨h1, h2⟩, h3⟩, h4⟩, h5⟩ := hB'
  have HRg := fun w => Lib.hid (ring_ok s word.length hB w)
  have HA := Lib.hid hall
  clear hall h5 hB
  go_enter Tryd.func11, Tryd.ntmps11
  go_wp2_with fail
  refine (HRg _).out.mono ?_; rintro e w1 ⟨v, rfl, ho, hb⟩
  have HB := Lib.hid hb
  have hr1 : ReadsI w1 w1.heap.size A word := (Reads.below hr hb).more hb.size
  clear ho hb hr
  go_wp2_with fail
  refine (call_any A cap word 0 (s - 1) w1 hr1 (by unfold maxLen; omega)).mono ?_; rintro e w' ⟨rfl, rfl⟩
  rw [HA.out]
  go_wp2_with fail
  go_ret2
  exact ⟨rfl, HB.out⟩
theorem ring23 : ringM 2 3 = [0,0,0,1,0,1,1,1] := by decide +kernel
theorem find23 : findM (ringM 2 3) [1,1,0] = some 6 := by decide +kernel
theorem ring_eq (s l : Nat) (hB : okB s l = true) (w : World) (R : List Int) (hR : ringM s l = R) :
    Calls Tryd.prog 8 #[.int .i64 s, .int .i64 l] w fun e w' => ∃ A cap, e = .returned (.tuple #[.slice A R.length cap, .nilIface]) ∧ ReadsI w' w'.heap.size A R ∧ Below w.heap.size w w' := by
  subst hR
  exact (ring_ok s l hB w).mono fun e w' ⟨v, h1, h2, h3⟩ => by
    obtain ⟨A, cap, rfl, hr⟩ := own_readsI h2
    exact ⟨A, cap, h1, hr, h3⟩
end Go.Proofs.YtnfijblmigjlhaaDoor
