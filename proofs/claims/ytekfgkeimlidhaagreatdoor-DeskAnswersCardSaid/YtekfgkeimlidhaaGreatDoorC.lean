import Derived.Test.YtekfgkeimlidhaaGreatDoorRows
import Derived.Test.YtekfgkeimlidhaaGreatDoorWords
set_option linter.all false
set_option maxRecDepth 100000
namespace Go.Proofs.YtekfgkeimlidhaaGreatDoor
open Go.RowKit
set_option maxHeartbeats 400000 in
theorem within_any (n a b : Int) (w : World) :
    Calls Tryz.prog 79 #[.int .i64 n, .int .i64 a, .int .i64 b] w fun e w' => e = .returned (.bool (decide (a ≤ n ∧ n ≤ b))) ∧ w = w' := by
  go_enter Tryz.func79, Tryz.ntmps79
  go_wp2
  all_goals
    go_ret
    refine ⟨?_, rfl⟩
    congr 2
    simp; omega
theorem within_dec {n a b : Int} {t : Bool} (h : decide (a ≤ n ∧ n ≤ b) = t) (w : World) :
    Calls Tryz.prog 79 #[.int .i64 n, .int .i64 a, .int .i64 b] w fun e w' => e = .returned (.bool t) ∧ w = w' :=
  (within_any n a b w).mono fun e w' ⟨he, hw⟩ => ⟨by rw [he, h], hw⟩
set_option maxHeartbeats 400000 in
theorem inr4_any (n a b : Int) (w : World) :
    Calls Tryz.prog 51 #[.int .i64 n, .int .i64 a, .int .i64 b] w fun e w' => e = .returned (.bool (decide (a ≤ n ∧ n ≤ b))) ∧ w = w' := by
  go_enter Tryz.func51, Tryz.ntmps51
  go_wp2
  all_goals
    go_ret
    refine ⟨?_, rfl⟩
    congr 2
    simp; omega
theorem inr4_dec {n a b : Int} {t : Bool} (h : decide (a ≤ n ∧ n ≤ b) = t) (w : World) :
    Calls Tryz.prog 51 #[.int .i64 n, .int .i64 a, .int .i64 b] w fun e w' => e = .returned (.bool t) ∧ w = w' :=
  (inr4_any n a b w).mono fun e w' ⟨he, hw⟩ => ⟨by rw [he, h], hw⟩
def inAll (l : List Int) (a b : Int) : Bool := l.all fun x => decide (a ≤ x ∧ x ≤ b)
theorem inAll_stop {l : List Int} {a b : Int} {k : Nat} (hk : k < l.length) (h : decide (a ≤ l[k] ∧ l[k] ≤ b) = false) : inAll l a b = false := by
  unfold inAll
  rw [List.all_eq_false]
  exact ⟨l[k], List.getElem_mem hk, by simpa using h⟩
theorem inAll_snoc {l : List Int} {a b : Int} {k : Nat} (hk : k < l.length) (h0 : inAll (l.take k) a b = true) (h : decide (a ≤ l[k] ∧ l[k] ≤ b) = true) : inAll (l.take (k+1)) a b = true := by
  unfold inAll at *
  rw [List.take_succ_eq_append_getElem hk, List.all_append, h0]
  simpa using h
set_option maxHeartbeats 400000 in
theorem call_any (A : Option Addr) (cap : Nat) (l : List Int) (a b : Int) (w : World) (hr : ReadsI w w.heap.size A l) (hl : l.length ≤ maxLen) :
    Calls Tryz.prog 61 #[.slice A l.length cap, .int .i64 a, .int .i64 b] w fun e w' => e = .returned (.bool (inAll l a b)) ∧ w = w' := by
  unfold maxLen at hl
  go_enter Tryz.func61, Tryz.ntmps61
  go_wp2
  go_loop [8, 11] (fun _ i => ∃ k : Nat, k ≤ l.length ∧ i = .int .i64 k ∧ inAll (l.take k) a b = true) (fun _ i => l.length - (intOf i).toNat)
  case atStart => exact ⟨0, Nat.zero_le _, rfl, rfl⟩
  case round =>
    obtain ⟨k, hk, rfl, ha⟩ := hrel
    have HA := Lib.hid ha; clear ha
    by_cases hlt : k < l.length
    · obtain ⟨bl, o, rfl, _, hc⟩ := hr.at_ hlt
      cases hd : decide (a ≤ l[k] ∧ l[k] ≤ b)
      · have HD := Lib.hid hd; clear hd
        go_wp2_with (go_at_call 79; refine (within_dec HD.out _).mono ?_; rintro e w' ⟨rfl, rfl⟩)
        go_ret
        exact ⟨ret_bool (inAll_stop hlt HD.out).symm, rfl⟩
      · have HD := Lib.hid hd; clear hd
        go_wp2_with (go_at_call 79; refine (within_dec HD.out _).mono ?_; rintro e w' ⟨rfl, rfl⟩)
        go_round
        case rel => exact ⟨k + 1, by omega, by go_num, inAll_snoc hlt HA.out HD.out⟩
        case measure => simp [intOf] <;> omega
    · go_wp2_with fail
      go_ret
      exact ⟨ret_bool (by rw [← HA.out, List.take_of_length_le (by omega)]), rfl⟩
end Go.Proofs.YtekfgkeimlidhaaGreatDoor
