import Derived.Test.YtecllcpjjllogaaGreatDoorBkD
import Derived.Test.YtecllcpjjllogaaGreatDoorEv2
import Derived.Test.YtecllcpjjllogaaGreatDoorQB
import Derived.Laws.Rows
import Derived.Test.YtecllcpjjllogaaGreatDoorGR
import Derived.Test.YtecllcpjjllogaaGreatDoorMSt
import Derived.Test.YtecllcpjjllogaaGreatDoorBox
/- the document's digits, its sum -/
set_option linter.all false
set_option maxRecDepth 100000
namespace Go.Proofs.YtecllcpjjllogaaGreatDoor
open Go.RowKit Go.Shelf
theorem dec_small : ∀ n, n < 10 → (⟨#[48, 49, 50, 51, 52, 53, 54, 55, 56, 57]⟩ : ByteArray).extract n (n + 1) = dec (n : Int) := by
  intro n hn
  have h : (⟨#[48, 49, 50, 51, 52, 53, 54, 55, 56, 57]⟩ : ByteArray).extract n (n + 1) = (⟨#[UInt8.ofNat (48 + n)]⟩ : ByteArray) := by
    have : ∀ n, n < 10 → (⟨#[48, 49, 50, 51, 52, 53, 54, 55, 56, 57]⟩ : ByteArray).extract n (n + 1) = (⟨#[UInt8.ofNat (48 + n)]⟩ : ByteArray) := by decide +kernel
    exact this n hn
  rw [h]; unfold dec Lib.itoa
  rw [if_neg (by omega), Int.toNat_natCast, Lib.decDigits_one hn]
theorem dec_big {n : Nat} (hn : ¬ n < 10) : dec (n : Int) = dec ((n / 10 : Nat) : Int) ++ dec ((n % 10 : Nat) : Int) := by
  unfold dec Lib.itoa
  rw [if_neg (by omega), if_neg (by omega), if_neg (by omega), Int.toNat_natCast, Int.toNat_natCast, Int.toNat_natCast, Lib.decDigits, dif_neg hn, Lib.decDigits_one (Nat.mod_lt n (by omega))]
  apply ByteArray.ext
  simp [ByteArray.data_append]
set_option maxHeartbeats 1000000 in
theorem digits_ok (w : World) : ∀ (k n : Nat), n < 10 ^ k → n ≤ 9223372036854775807 → Calls Tryz.prog 6 #[.int .i64 (n : Int)] w fun e w' => e = .returned (.string (dec (n : Int))) ∧ w = w' := by
  intro k
  induction k with
  | zero =>
    intro n hn _
    have h0 : n = 0 := by simpa using hn
    subst h0
    have hs := dec_small 0 (by omega)
    have HS := Lib.hid hs; clear hs hn
    go_enter Tryz.func6, Tryz.ntmps6
    go_wp2_with fail
    go_ret
    exact ⟨ret_v (congrArg Value.string HS.out), rfl⟩
  | succ k ih =>
    intro n hn hmax
    by_cases c : n < 10
    · have hs := dec_small n c
      have HS := Lib.hid hs; clear hs hn
      have c1 : ((n : Nat) : Int) < 10 := by omega
      have c2 : (0 : Int) ≤ ((n : Nat) : Int) := by omega
      have c3 : ((n : Nat) : Int) + 1 ≤ 10 := by omega
      go_enter Tryz.func6, Tryz.ntmps6
      go_wp2_with fail
      go_ret
      exact ⟨ret_v (congrArg Value.string (by first | exact HS.out | (simp; exact HS.out))), rfl⟩
    · have h1 := ih (n / 10) (by rw [Nat.pow_succ] at hn; omega) (by omega)
      have h2 : Calls Tryz.prog 6 #[.int .i64 ((n % 10 : Nat) : Int)] w fun e w' => e = .returned (.string (dec ((n % 10 : Nat) : Int))) ∧ w = w' := by
        rcases Nat.eq_zero_or_pos k with rfl | hk
        · exfalso; simp at hn; omega
        · exact ih (n % 10) (by have := Nat.mod_lt n (show 0 < 10 by omega); have := Nat.pow_le_pow_right (show 0 < 10 by omega) hk; omega) (by omega)
      have H1 := Lib.hid h1; have H2 := Lib.hid h2
      have hd1 := dec_le (n := ((n / 10 : Nat) : Int)) (by omega) (k := 19) (by omega) (by rw [Int.toNat_natCast]; omega)
      have hd2 := dec_le (n := ((n % 10 : Nat) : Int)) (by omega) (k := 1) (by omega) (by rw [Int.toNat_natCast]; omega)
      have hq : ((n : Nat) : Int).tdiv 10 = ((n / 10 : Nat) : Int) := rfl
      have hr : ((n : Nat) : Int).tmod 10 = ((n % 10 : Nat) : Int) := rfl
      have c1 : ¬ ((n : Nat) : Int) < 10 := by omega
      have HB := Lib.hid (dec_big c)
      have hc1 : ¬ (9223372036854775807 < (((dec ((n / 10 : Nat) : Int)).size : Int) + ((dec ((n % 10 : Nat) : Int)).size : Int))) := by omega
      clear h1 h2 hn c ih hd1 hd2
      generalize dec ((n / 10 : Nat) : Int) = y1 at *
      generalize dec ((n % 10 : Nat) : Int) = y2 at *
      go_enter Tryz.func6, Tryz.ntmps6
      go_wp2_with fail
      refine H1.out.mono ?_; rintro e w' ⟨rfl, rfl⟩
      go_wp2_with fail
      refine H2.out.mono ?_; rintro e w' ⟨rfl, rfl⟩
      go_wp2_with fail
      go_ret
      exact ⟨ret_v (congrArg Value.string HB.out.symm), rfl⟩
end Go.Proofs.YtecllcpjjllogaaGreatDoor
/- the document's book: a line is put down -/
set_option linter.all false
set_option maxRecDepth 100000
namespace Go.Proofs.YtecllcpjjllogaaGreatDoor
open Go.RowKit Go.Shelf
end Go.Proofs.YtecllcpjjllogaaGreatDoor
set_option linter.all false
set_option maxRecDepth 100000
namespace Go.Proofs.YtecllcpjjllogaaGreatDoor
open Go.RowKit
end Go.Proofs.YtecllcpjjllogaaGreatDoor
/- append of lines to a row that the call owns -/
set_option linter.all false
set_option maxRecDepth 100000
namespace Go.Proofs.YtecllcpjjllogaaGreatDoor
open Go.RowKit Go.Shelf Pl
end Go.Proofs.YtecllcpjjllogaaGreatDoor
