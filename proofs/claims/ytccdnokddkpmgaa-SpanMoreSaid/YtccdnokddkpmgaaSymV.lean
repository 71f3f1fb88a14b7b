import Derived.Test.YtccdnokddkpmgaaSym
import Derived.Test.YtccdnokddkpmgaaHP2
import Derived.Test.YtccdnokddkpmgaaTl
import Derived.Shelf.SlSortCmp.Insertion1
/- slices.swapRangeCmpFunc, rotateCmpFunc, symMergeCmpFunc at rows of numbers: printed by gen/sym.py -/
set_option linter.all false
set_option maxRecDepth 100000
namespace Go.Proofs.Ytccdnokddkpmgaa
open Go.RowKit Go.Shelf Go.Lib Go.Sort
section
variable {α : Type} [Inhabited α]

set_option maxHeartbeats 4000000 in
theorem swpR_walk (enc : α → Value) (g : Nat) (cb : Array Value) (blk off cap a b n : Nat) (d0 d : Array α) (w0 w : World) (R : Row1 enc w0 blk off d0) (hs : d0.size = d.size) (S : SW enc w0 blk off d w) (h1 : a + n ≤ d.size) (h2 : b + n ≤ d.size) (hsz : d.size < 4611686018427387904) :
    Calls Try.prog 41 #[.slice (some ⟨blk, off, none⟩) d.size cap, .int .i64 a, .int .i64 b, .int .i64 n, .func (.func g) #[] cb] w fun e w' => e = .returned (.tuple #[]) ∧ SW enc w0 blk off (swpR a b n 0 d) w' := by
  have hcl0 := R.hO.cells
  simp only [Value.cells] at hcl0
  have hst := R.hO.store Try.prog
  have mixed : (Try.prog).follows .mixedOrders = true := by kernel_rfl
  have S0 : Aside (SW enc w0 blk off d w) := S
  clear S
  go_enter Try.func41, Try.ntmps41
  go_wp2_with fail
  go_loopg [10] n (fun kx s5 wr => ∃ (i : Nat) (dk : Array α), s5 = .int .i64 i ∧ i ≤ n ∧ n - i ≤ kx ∧ dk.size = d.size ∧ Aside (SW enc w0 blk off dk wr) ∧ Hid (swpR a b n i dk = swpR a b n 0 d))
  case atStart => exact ⟨0, d, rfl, Nat.zero_le _, Nat.sub_le _ _, rfl, S0, rfl⟩
  case round =>
    clear S0
    obtain ⟨i, dk, rfl, hin, hkx, hds, S1, HQ⟩ := hrel
    by_cases hlt : i < n
    · have hltz : (i : Int) < (n : Int) := by omega
      go_wp2_with fail
      obtain ⟨iN1, hiN1⟩ : ∃ q, q = a + i := ⟨_, rfl⟩
      obtain ⟨jN1, hjN1⟩ : ∃ q, q = b + i := ⟨_, rfl⟩
      have ea1 : ((a : Int) + (i : Int)).toNat = iN1 := by omega
      have pa1 : (0 : Int) ≤ (a : Int) + (i : Int) := by omega
      have ba1 : (a : Int) + (i : Int) < (d.size : Int) := by omega
      have ra1 : IntKind.i64.wrap ((a : Int) + (i : Int)) = (a : Int) + (i : Int) := by rw [IntKind.wrap_i64]; omega
      have ec1 : ((b : Int) + (i : Int)).toNat = jN1 := by omega
      have pc1 : (0 : Int) ≤ (b : Int) + (i : Int) := by omega
      have bc1 : (b : Int) + (i : Int) < (d.size : Int) := by omega
      have rc1 : IntKind.i64.wrap ((b : Int) + (i : Int)) = (b : Int) + (i : Int) := by rw [IntKind.wrap_i64]; omega
      obtain ⟨x1, hx1⟩ : ∃ x, x = dk[a + i]! := ⟨_, rfl⟩
      obtain ⟨y1, hy1⟩ : ∃ x, x = dk[b + i]! := ⟨_, rfl⟩
      have S2 : Aside (SW enc w0 blk off (swp dk (a + i) (b + i)) ((wr.setCell ⟨blk, off + iN1, none⟩ (enc y1)).setCell ⟨blk, off + jN1, none⟩ (enc x1)).drew) := by rw [hiN1, hjN1, hx1, hy1]; exact S1.out.swapped R (a + i) (b + i) (by omega) (by omega)
      have c1a := S1.out.c1 R (by omega) (a + i) (by omega)
      have c1b := S1.out.c1 R (by omega) (b + i) (by omega)
      have f1a := S1.out.f1 R (by omega) (a + i) (by omega)
      have f1b := S1.out.f1 R (by omega) (b + i) (by omega)
      obtain ⟨u1, c1c⟩ := S1.out.c2 R (by omega) (a + i) (b + i) (by omega) (by omega) (enc y1)
      rw [← hjN1, ← hiN1] at c1c
      rw [← hx1, ← hiN1] at c1a
      rw [← hy1, ← hjN1] at c1b
      rw [← hiN1] at f1a
      rw [← hjN1] at f1b
      clear S1 hx1 hy1 hiN1 hjN1
      go_wp2_with fail
      go_big_region_o
      clear c1a c1b c1c f1a f1b
      generalize ((wr.setCell ⟨blk, off + iN1, none⟩ (enc y1)).setCell ⟨blk, off + jN1, none⟩ (enc x1)).drew = w2 at S2 ⊢
      clear ea1 ec1 pa1 ba1 ra1 pc1 bc1 rc1
      go_wp2_with fail
      go_roundg (n - (i + 1))
      case measure => omega
      case rel => exact ⟨i + 1, swp dk (a + i) (b + i), by first | rfl | go_num | (congr 1; omega), by omega, Nat.le_refl _, by rw [size_swp]; exact hds, S2, (show _ = _ from by rw [← HQ.out]; conv => rhs; rw [swpR, if_pos hlt])⟩
    · have hltz : ¬ (i : Int) < (n : Int) := by omega
      go_wp2_with fail
      go_end0
      have hq := HQ.out
      rw [swpR, if_neg hlt] at hq
      exact ⟨rfl, by rw [← hq]; exact S1.out⟩
set_option maxHeartbeats 4000000 in
theorem rotL_walk (enc : α → Value) (g : Nat) (cb : Array Value) (blk off cap a m b : Nat) (d0 d : Array α) (w0 w : World) (R : Row1 enc w0 blk off d0) (hs : d0.size = d.size) (S : SW enc w0 blk off d w) (h1 : a < m) (h2 : m < b) (h3 : b ≤ d.size) (hsz : d.size < 4611686018427387904) :
    Calls Try.prog 40 #[.slice (some ⟨blk, off, none⟩) d.size cap, .int .i64 a, .int .i64 m, .int .i64 b, .func (.func g) #[] cb] w fun e w' => e = .returned (.tuple #[]) ∧ SW enc w0 blk off (rotL m (m-a) (b-m) d) w' := by
  have hcl0 := R.hO.cells
  simp only [Value.cells] at hcl0
  have hst := R.hO.store Try.prog
  have mixed : (Try.prog).follows .mixedOrders = true := by kernel_rfl
  have S0 : Aside (SW enc w0 blk off d w) := S
  clear S
  go_enter Try.func40, Try.ntmps40
  go_wp2_with fail
  go_loopg [10, 11] (b - a) (fun kx s5 s6 wr => ∃ (i j : Nat) (dk : Array α), s5 = .int .i64 i ∧ s6 = .int .i64 j ∧ 0 < i ∧ 0 < j ∧ a + i ≤ m ∧ m + j ≤ b ∧ i + j ≤ kx ∧ dk.size = d.size ∧ Aside (SW enc w0 blk off dk wr) ∧ Hid (rotL m i j dk = rotL m (m-a) (b-m) d))
  case atStart => exact ⟨m - a, b - m, d, by first | rfl | go_num | (congr 1; omega), by first | rfl | go_num | (congr 1; omega), by omega, by omega, by omega, by omega, by omega, rfl, S0, rfl⟩
  case round =>
    clear S0
    obtain ⟨i, j, dk, rfl, rfl, hi0, hj0, him, hjb, hkx, hds, S1, HQ⟩ := hrel
    by_cases hne : i = j
    · subst hne
      have hC := swpR_walk enc g cb blk off cap (m - i) m i d0 dk w0 wr R (by omega) S1.out (by omega) (by omega) (by omega)
      rw [hds] at hC
      rw [Int.ofNat_sub (show i ≤ m by omega)] at hC
      have HCC := Lib.hid hC; clear hC
      go_wp2_with fail
      refine HCC.out.mono ?_; rintro e w2 ⟨rfl, hS⟩
      have S2 : Aside _ := hS; clear hS
      go_wp2_with fail
      go_end0
      have hq := HQ.out
      rw [rotL, if_neg (by omega), if_pos rfl] at hq
      exact ⟨rfl, by rw [← hq]; exact S2.out⟩
    · have hnez : ¬ (i : Int) = (j : Int) := by omega
      have hnez2 : (i : Int) ≠ (j : Int) := hnez
      by_cases hlt : j < i
      · have hltz : (j : Int) < (i : Int) := by omega
        have hC := swpR_walk enc g cb blk off cap (m - i) m j d0 dk w0 wr R (by omega) S1.out (by omega) (by omega) (by omega)
        have hz := (swpR_perm (lo := 0) (hi := dk.size) (a := m - i) (b := m) (n := j) _ 0 dk rfl (by omega) (by omega) (by omega) (by omega) (Nat.le_refl _)).1
        rw [hds] at hC
        rw [Int.ofNat_sub (show i ≤ m by omega)] at hC
        have HCC := Lib.hid hC; clear hC
        go_wp2_with fail
        refine HCC.out.mono ?_; rintro e w2 ⟨rfl, hS⟩
        have S2 : Aside _ := hS; clear hS
        go_wp2_with fail
        go_roundg (i - j + j)
        case measure => omega
        case rel => exact ⟨i - j, j, _, by first | rfl | go_num | (congr 1; omega), rfl, by omega, hj0, by omega, hjb, Nat.le_refl _, by rw [hz]; exact hds, S2, (show _ = _ from by rw [← HQ.out]; conv => rhs; rw [rotL, if_neg (by omega), if_neg hne, if_pos hlt])⟩
      · have hltz : ¬ (j : Int) < (i : Int) := by omega
        have hC := swpR_walk enc g cb blk off cap (m - i) (m + j - i) i d0 dk w0 wr R (by omega) S1.out (by omega) (by omega) (by omega)
        have hz := (swpR_perm (lo := 0) (hi := dk.size) (a := m - i) (b := m + j - i) (n := i) _ 0 dk rfl (by omega) (by omega) (by omega) (by omega) (Nat.le_refl _)).1
        rw [hds] at hC
        rw [Int.ofNat_sub (show i ≤ m by omega), Int.ofNat_sub (show i ≤ m + j by omega), Int.natCast_add] at hC
        have HCC := Lib.hid hC; clear hC
        go_wp2_with fail
        refine HCC.out.mono ?_; rintro e w2 ⟨rfl, hS⟩
        have S2 : Aside _ := hS; clear hS
        go_wp2_with fail
        go_roundg (i + (j - i))
        case measure => omega
        case rel => exact ⟨i, j - i, _, rfl, by first | rfl | go_num | (congr 1; omega), hi0, by omega, him, by omega, Nat.le_refl _, by rw [hz]; exact hds, S2, (show _ = _ from by rw [← HQ.out]; conv => rhs; rw [rotL, if_neg (by omega), if_neg hne, if_neg hlt])⟩
end
end Go.Proofs.Ytccdnokddkpmgaa
