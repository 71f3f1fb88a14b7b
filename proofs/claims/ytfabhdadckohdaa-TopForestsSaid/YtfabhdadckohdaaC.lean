import Derived.Test.YtfabhdadckohdaaRows
import Derived.Test.YtfabhdadckohdaaWords
set_option linter.all false
set_option maxRecDepth 100000
namespace Go.Proofs.Ytfabhdadckohdaa
open Go.RowKit
set_option maxHeartbeats 400000 in
theorem within_any (n a b : Int) (w : World) :
    Calls Try.prog 55 #[.int .i64 n, .int .i64 a, .int .i64 b] w fun e w' => e = .returned (.bool (decide (a ≤ n ∧ n ≤ b))) ∧ w = w' := by
  go_enter Try.func55, Try.ntmps55
  go_wp2
  all_goals
    go_ret
    refine ⟨?_, rfl⟩
    congr 2
    simp; omega
theorem within_dec {n a b : Int} {t : Bool} (h : decide (a ≤ n ∧ n ≤ b) = t) (w : World) :
    Calls Try.prog 55 #[.int .i64 n, .int .i64 a, .int .i64 b] w fun e w' => e = .returned (.bool t) ∧ w = w' :=
  (within_any n a b w).mono fun e w' ⟨he, hw⟩ => ⟨by rw [he, h], hw⟩
set_option maxHeartbeats 400000 in
theorem inr1_any (n a b : Int) (w : World) :
    Calls Try.prog 42 #[.int .i64 n, .int .i64 a, .int .i64 b] w fun e w' => e = .returned (.bool (decide (a ≤ n ∧ n ≤ b))) ∧ w = w' := by
  go_enter Try.func42, Try.ntmps42
  go_wp2
  all_goals
    go_ret
    refine ⟨?_, rfl⟩
    congr 2
    simp; omega
theorem inr1_dec {n a b : Int} {t : Bool} (h : decide (a ≤ n ∧ n ≤ b) = t) (w : World) :
    Calls Try.prog 42 #[.int .i64 n, .int .i64 a, .int .i64 b] w fun e w' => e = .returned (.bool t) ∧ w = w' :=
  (inr1_any n a b w).mono fun e w' ⟨he, hw⟩ => ⟨by rw [he, h], hw⟩
def inAll (l : List Int) (a b : Int) : Bool := l.all fun x => decide (a ≤ x ∧ x ≤ b)
theorem inAll_stop {l : List Int} {a b : Int} {k : Nat} (hk : k < l.length) (h : decide (a ≤ l[k] ∧ l[k] ≤ b) = false) : inAll l a b = false := by
  unfold inAll
  rw [List.all_eq_false]
  exact ⟨l[k], List.getElem_mem hk, by simpa using h⟩
theorem inAll_snoc {l : List Int} {a b : Int} {k : Nat} (hk : k < l.length) (h0 : inAll (l.take k) a b = true) (h : decide (a ≤ l[k] ∧ l[k] ≤ b) = true) : inAll (l.take (k+1)) a b = true := by
  unfold inAll at *
  rw [List.take_succ_eq_append_getElem hk, List.all_append, h0]
  simpa using h
set_option maxHeartbeats 400000 in
theorem call_any (A : Option Addr) (cap : Nat) (l : List Int) (a b : Int) (w : World) (hr : ReadsI w w.heap.size A l) (hl : l.length ≤ maxLen) :
    Calls Try.prog 30 #[.slice A l.length cap, .int .i64 a, .int .i64 b] w fun e w' => e = .returned (.bool (inAll l a b)) ∧ w = w' := by
  unfold maxLen at hl
  go_enter Try.func30, Try.ntmps30
  go_wp2
  go_loop [8, 11] (fun _ i => ∃ k : Nat, k ≤ l.length ∧ i = .int .i64 k ∧ inAll (l.take k) a b = true) (fun _ i => l.length - (intOf i).toNat)
  case atStart => exact ⟨0, Nat.zero_le _, rfl, rfl⟩
  case round =>
    obtain ⟨k, hk, rfl, ha⟩ := hrel
    have HA := Lib.hid ha; clear ha
    by_cases hlt : k < l.length
    · obtain ⟨bl, o, rfl, _, hc⟩ := hr.at_ hlt
      cases hd : decide (a ≤ l[k] ∧ l[k] ≤ b)
      · have HD := Lib.hid hd; clear hd
        go_wp2_with (go_at_call 55; refine (within_dec HD.out _).mono ?_; rintro e w' ⟨rfl, rfl⟩)
        go_ret
        exact ⟨ret_bool (inAll_stop hlt HD.out).symm, rfl⟩
      · have HD := Lib.hid hd; clear hd
        go_wp2_with (go_at_call 55; refine (within_dec HD.out _).mono ?_; rintro e w' ⟨rfl, rfl⟩)
        go_round
        case rel => exact ⟨k + 1, by omega, by go_num, inAll_snoc hlt HA.out HD.out⟩
        case measure => simp [intOf] <;> omega
    · go_wp2_with fail
      go_ret
      exact ⟨ret_bool (by rw [← HA.out, List.take_of_length_le (by omega)]), rfl⟩
set_option maxHeartbeats 400000 in
theorem rall_any (A : Option Addr) (cap : Nat) (l : List Int) (a b : Int) (w : World) (hr : ReadsI w w.heap.size A l) (hl : l.length ≤ maxLen) :
    Calls Try.prog 13 #[.slice A l.length cap, .int .i64 a, .int .i64 b] w fun e w' => e = .returned (.bool (inAll l a b)) ∧ w = w' := by
  unfold maxLen at hl
  go_enter Try.func13, Try.ntmps13
  go_wp2
  go_loop [7] (fun i => ∃ k : Nat, k ≤ l.length ∧ i = .int .i64 k ∧ inAll (l.take k) a b = true) (fun i => l.length - (intOf i).toNat)
  case atStart => exact ⟨0, Nat.zero_le _, rfl, rfl⟩
  case round =>
    obtain ⟨k, hk, rfl, ha⟩ := hrel
    have HA := Lib.hid ha; clear ha
    by_cases hlt : k < l.length
    · obtain ⟨bl, o, rfl, _, hc⟩ := hr.at_ hlt
      cases hd : decide (a ≤ l[k] ∧ l[k] ≤ b)
      · have HD := Lib.hid hd; clear hd
        go_wp2_with (go_at_call 42; refine (inr1_dec HD.out _).mono ?_; rintro e w' ⟨rfl, rfl⟩)
        go_ret
        exact ⟨ret_bool (inAll_stop hlt HD.out).symm, rfl⟩
      · have HD := Lib.hid hd; clear hd
        go_wp2_with (go_at_call 42; refine (inr1_dec HD.out _).mono ?_; rintro e w' ⟨rfl, rfl⟩)
        go_round
        case rel => exact ⟨k + 1, by omega, by go_num, inAll_snoc hlt HA.out HD.out⟩
        case measure => simp [intOf] <;> omega
    · go_wp2_with fail
      go_ret
      exact ⟨ret_bool (by rw [← HA.out, List.take_of_length_le (by omega)]), rfl⟩
theorem take_succ_eq {α} [DecidableEq α] {xs ys : List α} {k : Nat} (hx : k < xs.length) (hy : k < ys.length) (h : xs.take k = ys.take k) (e : xs[k] = ys[k]) : xs.take (k+1) = ys.take (k+1) := by
  rw [List.take_succ_eq_append_getElem hx, List.take_succ_eq_append_getElem hy, h, e]
set_option maxHeartbeats 400000 in
theorem ints_any (A B : Option Addr) (ca cb : Nat) (xs ys : List Int) (w : World) (ha : ReadsI w w.heap.size A xs) (hb : ReadsI w w.heap.size B ys)
   (hla : xs.length ≤ maxLen) :
    Calls Try.prog 6 #[.slice A xs.length ca, .slice B ys.length cb] w fun e w' => e = .returned (.bool (decide (xs = ys))) ∧ ∃ n, w' = w.drewN n := by
  unfold maxLen at hla
  by_cases hl : xs.length = ys.length
  · have hlb : ((xs.length : Int) != ys.length) = false := by simp [hl]
    have HL := Lib.hid hl; clear hl
    go_enter Try.func6, Try.ntmps6
    go_wp2
    go_loopw [5] (fun i wr => ∃ k n : Nat, k ≤ xs.length ∧ i = .int .i64 k ∧ xs.take k = ys.take k ∧ wr = w.drewN n) (fun i _ => xs.length - (intOf i).toNat)
    case atStart => exact ⟨0, 0, Nat.zero_le _, rfl, rfl, rfl⟩
    case round =>
      obtain ⟨k, n, hk, rfl, ht, rfl⟩ := hrel
      by_cases hlt : k < xs.length
      · obtain ⟨b, o, rfl, _, hc⟩ := ha.at_ hlt
        obtain ⟨b', o', rfl, _, hc'⟩ := hb.at_ (k := k) (HL.out ▸ hlt)
        have hlt2 : k < ys.length := HL.out ▸ hlt
        have HT := Lib.hid ht; clear ht
        by_cases he : xs[k] = ys[k]
        · have he' : (xs[k] != ys[k]) = false := by simp [he]
          have HE := Lib.hid he; clear he
          go_wp2
          go_quiet (fail)
          go_wp2
          go_roundw
          case rel => exact ⟨k+1, _, by omega, by go_num, take_succ_eq hlt hlt2 HT.out HE.out, rfl⟩
          case measure => simp [intOf]; omega
        · have he' : (xs[k] != ys[k]) = true := by simp [he]
          have HE := Lib.hid he; clear he
          go_wp2
          go_quiet (fail)
          go_wp2
          go_ret
          refine ⟨?_, _, World.drewN_drewN _ _ _⟩
          have : xs ≠ ys := by rintro rfl; exact HE.out rfl
          simp [this]
      · go_wp2
        go_ret
        refine ⟨?_, _, rfl⟩
        have : xs = ys := by
          have e1 : k = xs.length := by omega
          rw [e1, List.take_length, HL.out, List.take_length] at ht; exact ht
        simp [this]
  · have hlb : ((xs.length : Int) != ys.length) = true := by simp; omega
    have HL := Lib.hid hl; clear hl
    go_enter Try.func6, Try.ntmps6
    go_wp2
    go_ret
    refine ⟨?_, 0, rfl⟩
    have : xs ≠ ys := by rintro rfl; exact HL.out rfl
    simp [this]
end Go.Proofs.Ytfabhdadckohdaa
