import Derived.Test.YtfabhdadckohdaaSym
import Derived.Test.YtfabhdadckohdaaHP2
import Derived.Test.YtfabhdadckohdaaTl
import Derived.Shelf.SlSortCmp.Insertion1
/- slices.swapRangeCmpFunc, rotateCmpFunc, symMergeCmpFunc at rows of numbers: printed by gen/sym.py -/
set_option linter.all false
set_option maxRecDepth 100000
namespace Go.Proofs.Ytfabhdadckohdaa
open Go.RowKit Go.Shelf Go.Lib Go.Sort
section
variable {α : Type} [Inhabited α]

set_option maxHeartbeats 4000000 in
theorem swpR_walk (enc : α → Value) (g : Nat) (cb : Array Value) (blk off cap a b n : Nat) (d0 d : Array α) (w0 w : World) (R : Row1 enc w0 blk off d0) (hs : d0.size = d.size) (S : SW enc w0 blk off d w) (h1 : a + n ≤ d.size) (h2 : b + n ≤ d.size) (hsz : d.size < 4611686018427387904) :
    Calls Try.prog 73 #[.slice (some ⟨blk, off, none⟩) d.size cap, .int .i64 a, .int .i64 b, .int .i64 n, .func (.func g) #[] cb] w fun e w' => e = .returned (.tuple #[]) ∧ SW enc w0 blk off (swpR a b n 0 d) w' := by
  have hcl0 := R.hO.cells
  simp only [Value.cells] at hcl0
  have hst := R.hO.store Try.prog
  have mixed : (Try.prog).follows .mixedOrders = true := by kernel_rfl
  have S0 : Aside (SW enc w0 blk off d w) := S
  clear S
  go_enter Try.func73, Try.ntmps73
  go_wp2_with fail
  go_loopg [10] n (fun kx s5 wr => ∃ (i : Nat) (dk : Array α), s5 = .int .i64 i ∧ i ≤ n ∧ n - i ≤ kx ∧ dk.size = d.size ∧ Aside (SW enc w0 blk off dk wr) ∧ Hid (swpR a b n i dk = swpR a b n 0 d))
  case atStart => exact ⟨0, d, rfl, Nat.zero_le _, Nat.sub_le _ _, rfl, S0, rfl⟩
  case round =>
    clear S0
    obtain ⟨i, dk, rfl, hin, hkx, hds, S1, HQ⟩ := hrel
    by_cases hlt : i < n
    · have hltz : (i : Int) < (n : Int) := by omega
      go_wp2_with fail
      obtain ⟨iN1, hiN1⟩ : ∃ q, q = a + i := ⟨_, rfl⟩
      obtain ⟨jN1, hjN1⟩ : ∃ q, q = b + i := ⟨_, rfl⟩
      have ea1 : ((a : Int) + (i : Int)).toNat = iN1 := by omega
      have pa1 : (0 : Int) ≤ (a : Int) + (i : Int) := by omega
      have ba1 : (a : Int) + (i : Int) < (d.size : Int) := by omega
      have ra1 : IntKind.i64.wrap ((a : Int) + (i : Int)) = (a : Int) + (i : Int) := by rw [IntKind.wrap_i64]; omega
      have ec1 : ((b : Int) + (i : Int)).toNat = jN1 := by omega
      have pc1 : (0 : Int) ≤ (b : Int) + (i : Int) := by omega
      have bc1 : (b : Int) + (i : Int) < (d.size : Int) := by omega
      have rc1 : IntKind.i64.wrap ((b : Int) + (i : Int)) = (b : Int) + (i : Int) := by rw [IntKind.wrap_i64]; omega
      obtain ⟨x1, hx1⟩ : ∃ x, x = dk[a + i]! := ⟨_, rfl⟩
      obtain ⟨y1, hy1⟩ : ∃ x, x = dk[b + i]! := ⟨_, rfl⟩
      have S2 : Aside (SW enc w0 blk off (swp dk (a + i) (b + i)) ((wr.setCell ⟨blk, off + iN1, none⟩ (enc y1)).setCell ⟨blk, off + jN1, none⟩ (enc x1)).drew) := by rw [hiN1, hjN1, hx1, hy1]; exact S1.out.swapped R (a + i) (b + i) (by omega) (by omega)
      have c1a := S1.out.c1 R (by omega) (a + i) (by omega)
      have c1b := S1.out.c1 R (by omega) (b + i) (by omega)
      have f1a := S1.out.f1 R (by omega) (a + i) (by omega)
      have f1b := S1.out.f1 R (by omega) (b + i) (by omega)
      obtain ⟨u1, c1c⟩ := S1.out.c2 R (by omega) (a + i) (b + i) (by omega) (by omega) (enc y1)
      rw [← hjN1, ← hiN1] at c1c
      rw [← hx1, ← hiN1] at c1a
      rw [← hy1, ← hjN1] at c1b
      rw [← hiN1] at f1a
      rw [← hjN1] at f1b
      clear S1 hx1 hy1 hiN1 hjN1
      go_wp2_with fail
      go_big_region_o
      clear c1a c1b c1c f1a f1b
      generalize ((wr.setCell ⟨blk, off + iN1, none⟩ (enc y1)).setCell ⟨blk, off + jN1, none⟩ (enc x1)).drew = w2 at S2 ⊢
      clear ea1 ec1 pa1 ba1 ra1 pc1 bc1 rc1
      go_wp2_with fail
      go_roundg (n - (i + 1))
      case measure => omega
      case rel => exact ⟨i + 1, swp dk (a + i) (b + i), by first | rfl | go_num | (congr 1; omega), by omega, Nat.le_refl _, by rw [size_swp]; exact hds, S2, (show _ = _ from by rw [← HQ.out]; conv => rhs; rw [swpR, if_pos hlt])⟩
    · have hltz : ¬ (i : Int) < (n : Int) := by omega
      go_wp2_with fail
      go_end0
      have hq := HQ.out
      rw [swpR, if_neg hlt] at hq
      exact ⟨rfl, by rw [← hq]; exact S1.out⟩
set_option maxHeartbeats 4000000 in
theorem rotL_walk (enc : α → Value) (g : Nat) (cb : Array Value) (blk off cap a m b : Nat) (d0 d : Array α) (w0 w : World) (R : Row1 enc w0 blk off d0) (hs : d0.size = d.size) (S : SW enc w0 blk off d w) (h1 : a < m) (h2 : m < b) (h3 : b ≤ d.size) (hsz : d.size < 4611686018427387904) :
    Calls Try.prog 72 #[.slice (some ⟨blk, off, none⟩) d.size cap, .int .i64 a, .int .i64 m, .int .i64 b, .func (.func g) #[] cb] w fun e w' => e = .returned (.tuple #[]) ∧ SW enc w0 blk off (rotL m (m-a) (b-m) d) w' := by
  have hcl0 := R.hO.cells
  simp only [Value.cells] at hcl0
  have hst := R.hO.store Try.prog
  have mixed : (Try.prog).follows .mixedOrders = true := by kernel_rfl
  have S0 : Aside (SW enc w0 blk off d w) := S
  clear S
  go_enter Try.func72, Try.ntmps72
  go_wp2_with fail
  go_loopg [10, 11] (b - a) (fun kx s5 s6 wr => ∃ (i j : Nat) (dk : Array α), s5 = .int .i64 i ∧ s6 = .int .i64 j ∧ 0 < i ∧ 0 < j ∧ a + i ≤ m ∧ m + j ≤ b ∧ i + j ≤ kx ∧ dk.size = d.size ∧ Aside (SW enc w0 blk off dk wr) ∧ Hid (rotL m i j dk = rotL m (m-a) (b-m) d))
  case atStart => exact ⟨m - a, b - m, d, by first | rfl | go_num | (congr 1; omega), by first | rfl | go_num | (congr 1; omega), by omega, by omega, by omega, by omega, by omega, rfl, S0, rfl⟩
  case round =>
    clear S0
    obtain ⟨i, j, dk, rfl, rfl, hi0, hj0, him, hjb, hkx, hds, S1, HQ⟩ := hrel
    by_cases hne : i = j
    · subst hne
      have hC := swpR_walk enc g cb blk off cap (m - i) m i d0 dk w0 wr R (by omega) S1.out (by omega) (by omega) (by omega)
      rw [hds] at hC
      rw [Int.ofNat_sub (show i ≤ m by omega)] at hC
      have HCC := Lib.hid hC; clear hC
      go_wp2_with fail
      refine HCC.out.mono ?_; rintro e w2 ⟨rfl, hS⟩
      have S2 : Aside _ := hS; clear hS
      go_wp2_with fail
      go_end0
      have hq := HQ.out
      rw [rotL, if_neg (by omega), if_pos rfl] at hq
      exact ⟨rfl, by rw [← hq]; exact S2.out⟩
    · have hnez : ¬ (i : Int) = (j : Int) := by omega
      have hnez2 : (i : Int) ≠ (j : Int) := hnez
      by_cases hlt : j < i
      · have hltz : (j : Int) < (i : Int) := by omega
        have hC := swpR_walk enc g cb blk off cap (m - i) m j d0 dk w0 wr R (by omega) S1.out (by omega) (by omega) (by omega)
        have hz := (swpR_perm (lo := 0) (hi := dk.size) (a := m - i) (b := m) (n := j) _ 0 dk rfl (by omega) (by omega) (by omega) (by omega) (Nat.le_refl _)).1
        rw [hds] at hC
        rw [Int.ofNat_sub (show i ≤ m by omega)] at hC
        have HCC := Lib.hid hC; clear hC
        go_wp2_with fail
        refine HCC.out.mono ?_; rintro e w2 ⟨rfl, hS⟩
        have S2 : Aside _ := hS; clear hS
        go_wp2_with fail
        go_roundg (i - j + j)
        case measure => omega
        case rel => exact ⟨i - j, j, _, by first | rfl | go_num | (congr 1; omega), rfl, by omega, hj0, by omega, hjb, Nat.le_refl _, by rw [hz]; exact hds, S2, (show _ = _ from by rw [← HQ.out]; conv => rhs; rw [rotL, if_neg (by omega), if_neg hne, if_pos hlt])⟩
      · have hltz : ¬ (j : Int) < (i : Int) := by omega
        have hC := swpR_walk enc g cb blk off cap (m - i) (m + j - i) i d0 dk w0 wr R (by omega) S1.out (by omega) (by omega) (by omega)
        have hz := (swpR_perm (lo := 0) (hi := dk.size) (a := m - i) (b := m + j - i) (n := i) _ 0 dk rfl (by omega) (by omega) (by omega) (by omega) (Nat.le_refl _)).1
        rw [hds] at hC
        rw [Int.ofNat_sub (show i ≤ m by omega), Int.ofNat_sub (show i ≤ m + j by omega), Int.natCast_add] at hC
        have HCC := Lib.hid hC; clear hC
        go_wp2_with fail
        refine HCC.out.mono ?_; rintro e w2 ⟨rfl, hS⟩
        have S2 : Aside _ := hS; clear hS
        go_wp2_with fail
        go_roundg (i + (j - i))
        case measure => omega
        case rel => exact ⟨i, j - i, _, rfl, by first | rfl | go_num | (congr 1; omega), hi0, by omega, him, by omega, Nat.le_refl _, by rw [hz]; exact hds, S2, (show _ = _ from by rw [← HQ.out]; conv => rhs; rw [rotL, if_neg (by omega), if_neg hne, if_neg hlt])⟩
end
end Go.Proofs.Ytfabhdadckohdaa
/- slices.swapRangeCmpFunc, rotateCmpFunc, symMergeCmpFunc at rows of numbers: printed by gen/sym.py -/
set_option linter.all false
set_option maxRecDepth 100000
namespace Go.Proofs.Ytfabhdadckohdaa
open Go.RowKit Go.Shelf Go.Lib Go.Sort
section
variable {α : Type} [Inhabited α]

set_option maxHeartbeats 16000000 in
theorem symM_walk (enc : α → Value) (cf : α → α → Int) (g : Nat) (cb : Array Value) (blk off cap : Nat) (eg : ∀ args w, (callFunc g args).run Try.prog w = .ok (.enter g args) w) (d0 : Array α) (w0 : World) (hcmp : CmpLays1 Try.prog g cb enc cf blk off d0.size w0) (R : Row1 enc w0 blk off d0) (hsz : d0.size < 4611686018427387904) :
    ∀ (f a m b : Nat) (d : Array α) (w : World), d0.size = d.size → SW enc w0 blk off d w → b - a ≤ f → a < m → m < b → b ≤ d.size →
    Calls Try.prog 71 #[.slice (some ⟨blk, off, none⟩) d.size cap, .int .i64 a, .int .i64 m, .int .i64 b, .func (.func g) #[] cb] w fun e w' => e = .returned (.tuple #[]) ∧ SW enc w0 blk off (symM (ltOf cf) f a m b d) w' := by
  intro f
  induction f with
  | zero => intro a m b d w hs S hf h1 h2 h3; omega
  | succ f ih =>
  intro a m b d w hs S hf h1 h2 h3
  have HC : Aside _ := hcmp
  have IH : Aside _ := ih
  clear ih hcmp
  have hcl0 := R.hO.cells
  simp only [Value.cells] at hcl0
  have hst := R.hO.store Try.prog
  have mixed : (Try.prog).follows .mixedOrders = true := by kernel_rfl
  have S0 : Aside (SW enc w0 blk off d w) := S
  clear S
  have hsd : d.size < 4611686018427387904 := by omega
  go_enter Try.func71, Try.ntmps71
  by_cases c1 : m = a + 1
  · have c1z : (m : Int) - (a : Int) = 1 := by omega
    have HK1 := Lib.hid c1; clear c1
    go_wp2_with fail
    clear c1z
    try (rename ((m : Int) - (a : Int) == 1) = _ => hq1; clear hq1)
    try (rename ((b : Int) - (m : Int) == 1) = _ => hq2; clear hq2)
    go_loopg [10, 11] (b - m) (fun kx si sj wr => ∃ (i j : Nat), si = .int .i64 i ∧ sj = .int .i64 j ∧ m ≤ i ∧ i ≤ j ∧ j ≤ b ∧ j - i ≤ kx ∧ Aside (SW enc w0 blk off d wr) ∧ Hid (bsr (fun h => (ltOf cf) d[h]! d[a]!) i j = bsr (fun h => (ltOf cf) d[h]! d[a]!) (m) (b)))
    case atStart => exact ⟨m, b, by first | rfl | go_num | (congr 1; omega), by first | rfl | go_num | (congr 1; omega), Nat.le_refl _, by omega, Nat.le_refl _, Nat.le_refl _, S0, rfl⟩
    case round =>
      clear S0
      obtain ⟨i, j, rfl, rfl, hi0, hij, hj0, hkx, S1, HQ⟩ := hrel
      by_cases hlt : i < j
      · have hltz : (i : Int) < (j : Int) := by omega
        obtain ⟨c, hc⟩ : ∃ c, (i + j) / 2 = c := ⟨_, rfl⟩
        have hcz : ((i : Int) + (j : Int)) / 2 = (c : Int) := by omega
        go_wp2_with fail
        cases hlv : (ltOf cf) d[c]! d[a]! with
        | true =>
          obtain ⟨iN1, hiN1⟩ : ∃ q, q = c := ⟨_, rfl⟩
          obtain ⟨jN1, hjN1⟩ : ∃ q, q = a := ⟨_, rfl⟩
          have ea1 : ((c : Int)).toNat = iN1 := by omega
          have pa1 : (0 : Int) ≤ (c : Int) := by omega
          have ba1 : (c : Int) < (d.size : Int) := by omega
          have ra1 : IntKind.i64.wrap ((c : Int)) = (c : Int) := by rw [IntKind.wrap_i64]; omega
          have ec1 : ((a : Int)).toNat = jN1 := by omega
          have pc1 : (0 : Int) ≤ (a : Int) := by omega
          have bc1 : (a : Int) < (d.size : Int) := by omega
          have rc1 : IntKind.i64.wrap ((a : Int)) = (a : Int) := by rw [IntKind.wrap_i64]; omega
          obtain ⟨x1, hx1⟩ : ∃ x, x = d[c]! := ⟨_, rfl⟩
          obtain ⟨y1, hy1⟩ : ∃ x, x = d[a]! := ⟨_, rfl⟩
          have l1a := S1.out.cl R (by omega) (c) (by omega)
          have l1b := S1.out.cl R (by omega) (a) (by omega)
          rw [← hx1, ← hiN1] at l1a
          rw [← hy1, ← hjN1] at l1b
          have hc1 := S1.out.cmp HC.out (by omega) x1 y1
          have hv1 : cf x1 y1 < 0 := by rw [hx1, hy1]; exact of_decide_eq_true hlv
          have hd1 : decide (cf x1 y1 < 0) = true := decide_eq_true hv1
          clear hx1 hy1 hiN1 hjN1
          go_wp2_with fail
          go_quiet_grown (first | (go_at_fn g; refine Calls.grown_of (hc1 _ _)))
          have S2 : Aside (SW enc w0 blk off d (grow (wr.drewN nq) osq)) := S1.out.grown nq osq
          clear l1a l1b hc1 S1
          generalize grow (wr.drewN nq) osq = w2 at S2 ⊢
          clear nq osq
          clear ea1 ec1 pa1 ba1 ra1 pc1 bc1 rc1 hv1 hd1
          go_wp2_with fail
          go_roundg (j - (c + 1))
          case measure => omega
          case rel => exact ⟨c + 1, j, by first | rfl | go_num | (congr 1; omega), rfl, by omega, by omega, hj0, Nat.le_refl _, S2, (show _ = _ from by rw [← HQ.out]; conv => rhs; rw [bsr, if_pos hlt, hc, if_pos (by first | exact hlv | (rw [hlv]; rfl) | (show (!_) = true; rw [hlv]; rfl) | (show (!_) = true; rw [hq, hlv]; rfl))])⟩
        | false =>
          obtain ⟨iN1, hiN1⟩ : ∃ q, q = c := ⟨_, rfl⟩
          obtain ⟨jN1, hjN1⟩ : ∃ q, q = a := ⟨_, rfl⟩
          have ea1 : ((c : Int)).toNat = iN1 := by omega
          have pa1 : (0 : Int) ≤ (c : Int) := by omega
          have ba1 : (c : Int) < (d.size : Int) := by omega
          have ra1 : IntKind.i64.wrap ((c : Int)) = (c : Int) := by rw [IntKind.wrap_i64]; omega
          have ec1 : ((a : Int)).toNat = jN1 := by omega
          have pc1 : (0 : Int) ≤ (a : Int) := by omega
          have bc1 : (a : Int) < (d.size : Int) := by omega
          have rc1 : IntKind.i64.wrap ((a : Int)) = (a : Int) := by rw [IntKind.wrap_i64]; omega
          obtain ⟨x1, hx1⟩ : ∃ x, x = d[c]! := ⟨_, rfl⟩
          obtain ⟨y1, hy1⟩ : ∃ x, x = d[a]! := ⟨_, rfl⟩
          have l1a := S1.out.cl R (by omega) (c) (by omega)
          have l1b := S1.out.cl R (by omega) (a) (by omega)
          rw [← hx1, ← hiN1] at l1a
          rw [← hy1, ← hjN1] at l1b
          have hc1 := S1.out.cmp HC.out (by omega) x1 y1
          have hv1 : ¬ cf x1 y1 < 0 := by rw [hx1, hy1]; exact of_decide_eq_false hlv
          have hd1 : decide (cf x1 y1 < 0) = false := decide_eq_false hv1
          clear hx1 hy1 hiN1 hjN1
          go_wp2_with fail
          go_quiet_grown (first | (go_at_fn g; refine Calls.grown_of (hc1 _ _)))
          have S2 : Aside (SW enc w0 blk off d (grow (wr.drewN nq) osq)) := S1.out.grown nq osq
          clear l1a l1b hc1 S1
          generalize grow (wr.drewN nq) osq = w2 at S2 ⊢
          clear nq osq
          clear ea1 ec1 pa1 ba1 ra1 pc1 bc1 rc1 hv1 hd1
          go_wp2_with fail
          go_roundg (c - i)
          case measure => omega
          case rel => exact ⟨i, c, rfl, by first | rfl | go_num | (congr 1; omega), hi0, by omega, by omega, Nat.le_refl _, S2, (show _ = _ from by rw [← HQ.out]; conv => rhs; rw [bsr, if_pos hlt, hc, if_neg (by first | (rw [hlv]; decide) | (show ¬ (!_) = true; rw [hlv]; decide) | (show ¬ (!_) = true; rw [hq, hlv]; decide))])⟩
      · have hltz : ¬ (i : Int) < (j : Int) := by omega
        have hr0 : i = j := by omega
        subst hr0
        have hr : bsr (fun h => (ltOf cf) d[h]! d[a]!) (m) (b) = i := by rw [← HQ.out, bsr, if_neg hlt]
        clear HQ hkx
        have HR := Lib.hid hr; clear hr
        go_wp2_with fail
        go_loopg [13] (i - a) (fun kx s8 wk => ∃ (k : Nat) (dk : Array α), s8 = .int .i64 k ∧ a ≤ k ∧ k + 1 ≤ i ∧ i - k ≤ kx ∧ dk.size = d.size ∧ Aside (SW enc w0 blk off dk wk) ∧ Hid (ups i k dk = ups i a d))
        case atStart => exact ⟨a, d, rfl, Nat.le_refl _, by omega, Nat.le_refl _, rfl, S1, rfl⟩
        case round =>
          clear S1
          obtain ⟨k, dk, rfl, hk0, hki, hkx, hds, S3, HU⟩ := hrel
          by_cases hlk : k + 1 < i
          · have hlkz : (k : Int) < (i : Int) - 1 := by omega
            go_wp2_with fail
            obtain ⟨iN3, hiN3⟩ : ∃ q, q = k := ⟨_, rfl⟩
            obtain ⟨jN3, hjN3⟩ : ∃ q, q = k + 1 := ⟨_, rfl⟩
            have ea3 : ((k : Int)).toNat = iN3 := by omega
            have pa3 : (0 : Int) ≤ (k : Int) := by omega
            have ba3 : (k : Int) < (d.size : Int) := by omega
            have ra3 : IntKind.i64.wrap ((k : Int)) = (k : Int) := by rw [IntKind.wrap_i64]; omega
            have ec3 : ((k : Int) + 1).toNat = jN3 := by omega
            have pc3 : (0 : Int) ≤ (k : Int) + 1 := by omega
            have bc3 : (k : Int) + 1 < (d.size : Int) := by omega
            have rc3 : IntKind.i64.wrap ((k : Int) + 1) = (k : Int) + 1 := by rw [IntKind.wrap_i64]; omega
            obtain ⟨x3, hx3⟩ : ∃ x, x = dk[k]! := ⟨_, rfl⟩
            obtain ⟨y3, hy3⟩ : ∃ x, x = dk[k + 1]! := ⟨_, rfl⟩
            have S4 : Aside (SW enc w0 blk off (swp dk (k) (k + 1)) ((wr.setCell ⟨blk, off + iN3, none⟩ (enc y3)).setCell ⟨blk, off + jN3, none⟩ (enc x3)).drew) := by rw [hiN3, hjN3, hx3, hy3]; exact S3.out.swapped R (k) (k + 1) (by omega) (by omega)
            have c3a := S3.out.c1 R (by omega) (k) (by omega)
            have c3b := S3.out.c1 R (by omega) (k + 1) (by omega)
            have f3a := S3.out.f1 R (by omega) (k) (by omega)
            have f3b := S3.out.f1 R (by omega) (k + 1) (by omega)
            obtain ⟨u3, c3c⟩ := S3.out.c2 R (by omega) (k) (k + 1) (by omega) (by omega) (enc y3)
            rw [← hjN3, ← hiN3] at c3c
            rw [← hx3, ← hiN3] at c3a
            rw [← hy3, ← hjN3] at c3b
            rw [← hiN3] at f3a
            rw [← hjN3] at f3b
            clear S3 hx3 hy3 hiN3 hjN3
            go_wp2_with fail
            go_big_region_o
            clear c3a c3b c3c f3a f3b
            generalize ((wr.setCell ⟨blk, off + iN3, none⟩ (enc y3)).setCell ⟨blk, off + jN3, none⟩ (enc x3)).drew = w4 at S4 ⊢
            clear ea3 ec3 pa3 ba3 ra3 pc3 bc3 rc3
            go_wp2_with fail
            go_roundg (i - (k + 1))
            case measure => omega
            case rel => exact ⟨k + 1, swp dk k (k + 1), by first | rfl | go_num | (congr 1; omega), by omega, by omega, Nat.le_refl _, by rw [size_swp]; exact hds, S4, (show _ = _ from by rw [← HU.out]; conv => rhs; rw [ups, if_pos hlk])⟩
          · have hlkz : ¬ (k : Int) < (i : Int) - 1 := by omega
            go_wp2_with fail
            ((try simp only [Exit.inBlock, Exit.then]); refine bodyPost_ret (results_none rfl _ _ _) rfl ?_)
            have hu := HU.out
            rw [ups, if_neg hlk] at hu
            refine ⟨rfl, ?_⟩
            rw [symM, if_pos HK1.out, HR.out, ← hu]
            exact S3.out
  · have c1z : ¬ (m : Int) - (a : Int) = 1 := by omega
    have HN1 := Lib.hid c1; clear c1
    by_cases c2 : b = m + 1
    · have c2z : (b : Int) - (m : Int) = 1 := by omega
      have HK2 := Lib.hid c2; clear c2
      go_wp2_with fail
      clear c1z c2z
      try (rename ((m : Int) - (a : Int) == 1) = _ => hq1; clear hq1)
      try (rename ((b : Int) - (m : Int) == 1) = _ => hq2; clear hq2)
      go_loopg [14, 15] (m - a) (fun kx si sj wr => ∃ (i j : Nat), si = .int .i64 i ∧ sj = .int .i64 j ∧ a ≤ i ∧ i ≤ j ∧ j ≤ m ∧ j - i ≤ kx ∧ Aside (SW enc w0 blk off d wr) ∧ Hid (bsr (fun h => !(ltOf cf) d[m]! d[h]!) i j = bsr (fun h => !(ltOf cf) d[m]! d[h]!) (a) (m)))
      case atStart => exact ⟨a, m, by first | rfl | go_num | (congr 1; omega), by first | rfl | go_num | (congr 1; omega), Nat.le_refl _, by omega, Nat.le_refl _, Nat.le_refl _, S0, rfl⟩
      case round =>
        clear S0
        obtain ⟨i, j, rfl, rfl, hi0, hij, hj0, hkx, S1, HQ⟩ := hrel
        by_cases hlt : i < j
        · have hltz : (i : Int) < (j : Int) := by omega
          obtain ⟨c, hc⟩ : ∃ c, (i + j) / 2 = c := ⟨_, rfl⟩
          have hcz : ((i : Int) + (j : Int)) / 2 = (c : Int) := by omega
          go_wp2_with fail
          cases hlv : (ltOf cf) d[m]! d[c]! with
          | true =>
            obtain ⟨iN2, hiN2⟩ : ∃ q, q = m := ⟨_, rfl⟩
            obtain ⟨jN2, hjN2⟩ : ∃ q, q = c := ⟨_, rfl⟩
            have ea2 : ((m : Int)).toNat = iN2 := by omega
            have pa2 : (0 : Int) ≤ (m : Int) := by omega
            have ba2 : (m : Int) < (d.size : Int) := by omega
            have ra2 : IntKind.i64.wrap ((m : Int)) = (m : Int) := by rw [IntKind.wrap_i64]; omega
            have ec2 : ((c : Int)).toNat = jN2 := by omega
            have pc2 : (0 : Int) ≤ (c : Int) := by omega
            have bc2 : (c : Int) < (d.size : Int) := by omega
            have rc2 : IntKind.i64.wrap ((c : Int)) = (c : Int) := by rw [IntKind.wrap_i64]; omega
            obtain ⟨x2, hx2⟩ : ∃ x, x = d[m]! := ⟨_, rfl⟩
            obtain ⟨y2, hy2⟩ : ∃ x, x = d[c]! := ⟨_, rfl⟩
            have l2a := S1.out.cl R (by omega) (m) (by omega)
            have l2b := S1.out.cl R (by omega) (c) (by omega)
            rw [← hx2, ← hiN2] at l2a
            rw [← hy2, ← hjN2] at l2b
            have hc2 := S1.out.cmp HC.out (by omega) x2 y2
            have hv2 : cf x2 y2 < 0 := by rw [hx2, hy2]; exact of_decide_eq_true hlv
            have hd2 : decide (cf x2 y2 < 0) = true := decide_eq_true hv2
            clear hx2 hy2 hiN2 hjN2
            go_wp2_with fail
            go_quiet_grown (first | (go_at_fn g; refine Calls.grown_of (hc2 _ _)))
            have S2 : Aside (SW enc w0 blk off d (grow (wr.drewN nq) osq)) := S1.out.grown nq osq
            clear l2a l2b hc2 S1
            generalize grow (wr.drewN nq) osq = w2 at S2 ⊢
            clear nq osq
            clear ea2 ec2 pa2 ba2 ra2 pc2 bc2 rc2 hv2 hd2
            go_wp2_with fail
            go_roundg (c - i)
            case measure => omega
            case rel => exact ⟨i, c, rfl, by first | rfl | go_num | (congr 1; omega), hi0, by omega, by omega, Nat.le_refl _, S2, (show _ = _ from by rw [← HQ.out]; conv => rhs; rw [bsr, if_pos hlt, hc, if_neg (by first | (rw [hlv]; decide) | (show ¬ (!_) = true; rw [hlv]; decide) | (show ¬ (!_) = true; rw [hq, hlv]; decide))])⟩
          | false =>
            obtain ⟨iN2, hiN2⟩ : ∃ q, q = m := ⟨_, rfl⟩
            obtain ⟨jN2, hjN2⟩ : ∃ q, q = c := ⟨_, rfl⟩
            have ea2 : ((m : Int)).toNat = iN2 := by omega
            have pa2 : (0 : Int) ≤ (m : Int) := by omega
            have ba2 : (m : Int) < (d.size : Int) := by omega
            have ra2 : IntKind.i64.wrap ((m : Int)) = (m : Int) := by rw [IntKind.wrap_i64]; omega
            have ec2 : ((c : Int)).toNat = jN2 := by omega
            have pc2 : (0 : Int) ≤ (c : Int) := by omega
            have bc2 : (c : Int) < (d.size : Int) := by omega
            have rc2 : IntKind.i64.wrap ((c : Int)) = (c : Int) := by rw [IntKind.wrap_i64]; omega
            obtain ⟨x2, hx2⟩ : ∃ x, x = d[m]! := ⟨_, rfl⟩
            obtain ⟨y2, hy2⟩ : ∃ x, x = d[c]! := ⟨_, rfl⟩
            have l2a := S1.out.cl R (by omega) (m) (by omega)
            have l2b := S1.out.cl R (by omega) (c) (by omega)
            rw [← hx2, ← hiN2] at l2a
            rw [← hy2, ← hjN2] at l2b
            have hc2 := S1.out.cmp HC.out (by omega) x2 y2
            have hv2 : ¬ cf x2 y2 < 0 := by rw [hx2, hy2]; exact of_decide_eq_false hlv
            have hd2 : decide (cf x2 y2 < 0) = false := decide_eq_false hv2
            clear hx2 hy2 hiN2 hjN2
            go_wp2_with fail
            go_quiet_grown (first | (go_at_fn g; refine Calls.grown_of (hc2 _ _)))
            have S2 : Aside (SW enc w0 blk off d (grow (wr.drewN nq) osq)) := S1.out.grown nq osq
            clear l2a l2b hc2 S1
            generalize grow (wr.drewN nq) osq = w2 at S2 ⊢
            clear nq osq
            clear ea2 ec2 pa2 ba2 ra2 pc2 bc2 rc2 hv2 hd2
            go_wp2_with fail
            go_roundg (j - (c + 1))
            case measure => omega
            case rel => exact ⟨c + 1, j, by first | rfl | go_num | (congr 1; omega), rfl, by omega, by omega, hj0, Nat.le_refl _, S2, (show _ = _ from by rw [← HQ.out]; conv => rhs; rw [bsr, if_pos hlt, hc, if_pos (by first | exact hlv | (rw [hlv]; rfl) | (show (!_) = true; rw [hlv]; rfl) | (show (!_) = true; rw [hq, hlv]; rfl))])⟩
        · have hltz : ¬ (i : Int) < (j : Int) := by omega
          have hr0 : i = j := by omega
          subst hr0
          have hr : bsr (fun h => !(ltOf cf) d[m]! d[h]!) (a) (m) = i := by rw [← HQ.out, bsr, if_neg hlt]
          clear HQ hkx
          have HR := Lib.hid hr; clear hr
          go_wp2_with fail
          go_loopg [17] (m - i) (fun kx s12 wk => ∃ (k : Nat) (dk : Array α), s12 = .int .i64 k ∧ i ≤ k ∧ k ≤ m ∧ k - i ≤ kx ∧ dk.size = d.size ∧ Aside (SW enc w0 blk off dk wk) ∧ Hid (downs i k dk = downs i m d))
          case atStart => exact ⟨m, d, rfl, by omega, Nat.le_refl _, Nat.le_refl _, rfl, S1, rfl⟩
          case round =>
            clear S1
            obtain ⟨k, dk, rfl, hk0, hki, hkx, hds, S3, HU⟩ := hrel
            by_cases hlk : i < k
            · have hlkz : (i : Int) < (k : Int) := by omega
              obtain ⟨kp, hkp⟩ : ∃ q, q + 1 = k := ⟨k - 1, by omega⟩
              subst hkp
              have hkpz : ((kp + 1 : Nat) : Int) = (kp : Int) + 1 := by omega
              have hlkz' : (i : Int) < (kp : Int) + 1 := by omega
              go_wp2_with fail
              obtain ⟨iN3, hiN3⟩ : ∃ q, q = kp + 1 := ⟨_, rfl⟩
              obtain ⟨jN3, hjN3⟩ : ∃ q, q = kp := ⟨_, rfl⟩
              have ea3 : ((kp : Int) + 1).toNat = iN3 := by omega
              have pa3 : (0 : Int) ≤ (kp : Int) + 1 := by omega
              have ba3 : (kp : Int) + 1 < (d.size : Int) := by omega
              have ra3 : IntKind.i64.wrap ((kp : Int) + 1) = (kp : Int) + 1 := by rw [IntKind.wrap_i64]; omega
              have ec3 : ((kp : Int)).toNat = jN3 := by omega
              have pc3 : (0 : Int) ≤ (kp : Int) := by omega
              have bc3 : (kp : Int) < (d.size : Int) := by omega
              have rc3 : IntKind.i64.wrap ((kp : Int)) = (kp : Int) := by rw [IntKind.wrap_i64]; omega
              obtain ⟨x3, hx3⟩ : ∃ x, x = dk[kp + 1]! := ⟨_, rfl⟩
              obtain ⟨y3, hy3⟩ : ∃ x, x = dk[kp]! := ⟨_, rfl⟩
              have S4 : Aside (SW enc w0 blk off (swp dk (kp + 1) (kp)) ((wr.setCell ⟨blk, off + iN3, none⟩ (enc y3)).setCell ⟨blk, off + jN3, none⟩ (enc x3)).drew) := by rw [hiN3, hjN3, hx3, hy3]; exact S3.out.swapped R (kp + 1) (kp) (by omega) (by omega)
              have c3a := S3.out.c1 R (by omega) (kp + 1) (by omega)
              have c3b := S3.out.c1 R (by omega) (kp) (by omega)
              have f3a := S3.out.f1 R (by omega) (kp + 1) (by omega)
              have f3b := S3.out.f1 R (by omega) (kp) (by omega)
              obtain ⟨u3, c3c⟩ := S3.out.c2 R (by omega) (kp + 1) (kp) (by omega) (by omega) (enc y3)
              rw [← hiN3, ← hjN3] at c3c
              rw [← hx3, ← hiN3] at c3a
              rw [← hy3, ← hjN3] at c3b
              rw [← hiN3] at f3a
              rw [← hjN3] at f3b
              clear S3 hx3 hy3 hiN3 hjN3
              go_wp2_with fail
              go_big_region_o
              clear c3a c3b c3c f3a f3b
              generalize ((wr.setCell ⟨blk, off + iN3, none⟩ (enc y3)).setCell ⟨blk, off + jN3, none⟩ (enc x3)).drew = w4 at S4 ⊢
              clear ea3 ec3 pa3 ba3 ra3 pc3 bc3 rc3
              go_wp2_with fail
              go_roundg (kp - i)
              case measure => omega
              case rel => exact ⟨kp, swp dk (kp + 1) kp, by first | rfl | go_num | (congr 1; omega), by omega, by omega, Nat.le_refl _, by rw [size_swp]; exact hds, S4, (show _ = _ from by rw [← HU.out]; conv => rhs; rw [downs, if_pos hlk])⟩
            · have hlkz : ¬ (i : Int) < (k : Int) := by omega
              go_wp2_with fail
              ((try simp only [Exit.inBlock, Exit.then]); refine bodyPost_ret (results_none rfl _ _ _) rfl ?_)
              have hki : k = i := by omega
              subst hki
              have hu : downs k k dk = dk := by cases k with | zero => rfl | succ k => rw [downs, if_neg (by omega)]
              refine ⟨rfl, ?_⟩
              rw [symM, if_neg HN1.out, if_pos HK2.out, HR.out, ← HU.out, hu]
              exact S3.out
    · have c2z : ¬ (b : Int) - (m : Int) = 1 := by omega
      have HN2 := Lib.hid c2; clear c2
      obtain ⟨mid, hmid⟩ : ∃ mid, (a + b) / 2 = mid := ⟨_, rfl⟩
      have hmidz : ((a : Int) + (b : Int)) / 2 = (mid : Int) := by omega
      obtain ⟨pN, hpN⟩ : ∃ q, mid + m - 1 = q := ⟨_, rfl⟩
      have hpz : (mid : Int) + (m : Int) - 1 = (pN : Int) := by omega
      have hab1 : a ≤ mid := by omega
      have hab2 : mid < b := by omega
      by_cases c3 : mid < m
      · obtain ⟨s0, hs0⟩ : ∃ q, mid + m - b = q := ⟨_, rfl⟩
        have hs0z : (mid : Int) + (m : Int) - (b : Int) = (s0 : Int) := by omega
        have c3z : ((a : Int) + (b : Int)) / 2 < (m : Int) := by omega
        have HK3 := Lib.hid c3; clear c3
        go_wp2_with fail
        try rw [hmidz]
        try rw [hpz]
        try rw [hs0z]
        clear hmidz hpz hs0z c1z c2z c3z
        try (rename ((m : Int) - (a : Int) == 1) = _ => hq1; clear hq1)
        try (rename ((b : Int) - (m : Int) == 1) = _ => hq2; clear hq2)
        try (rename mid < m => hq3; clear hq3)
        try (rename ¬ (mid < m) => hq3; clear hq3)
        try (rename m ≤ mid => hq3; clear hq3)
        go_loopg [20, 21] (mid - s0) (fun kx si sj wr => ∃ (i j : Nat), si = .int .i64 i ∧ sj = .int .i64 j ∧ s0 ≤ i ∧ i ≤ j ∧ j ≤ mid ∧ j - i ≤ kx ∧ Aside (SW enc w0 blk off d wr) ∧ Hid (bsr (fun c => !(ltOf cf) d[pN - c]! d[c]!) i j = bsr (fun c => !(ltOf cf) d[pN - c]! d[c]!) (s0) (mid)))
        case atStart => exact ⟨s0, mid, by first | rfl | go_num | (congr 1; omega), by first | rfl | go_num | (congr 1; omega), Nat.le_refl _, by omega, Nat.le_refl _, Nat.le_refl _, S0, rfl⟩
        case round =>
          clear S0
          obtain ⟨i, j, rfl, rfl, hi0, hij, hj0, hkx, S1, HQ⟩ := hrel
          by_cases hlt : i < j
          · have hltz : (i : Int) < (j : Int) := by omega
            obtain ⟨c, hc⟩ : ∃ c, (i + j) / 2 = c := ⟨_, rfl⟩
            have hcz : ((i : Int) + (j : Int)) / 2 = (c : Int) := by omega
            go_wp2_with fail
            obtain ⟨qc, hq⟩ : ∃ z, pN - c = z := ⟨_, rfl⟩
            have hqz : (pN : Int) - (c : Int) = (qc : Int) := by omega
            have hqb : qc < d.size := by have := HK3.out; omega
            cases hlv : (ltOf cf) d[qc]! d[c]! with
            | true =>
              obtain ⟨iN1, hiN1⟩ : ∃ q, q = qc := ⟨_, rfl⟩
              obtain ⟨jN1, hjN1⟩ : ∃ q, q = c := ⟨_, rfl⟩
              have ea1 : ((qc : Int)).toNat = iN1 := by omega
              have pa1 : (0 : Int) ≤ (qc : Int) := by omega
              have ba1 : (qc : Int) < (d.size : Int) := by omega
              have ra1 : IntKind.i64.wrap ((qc : Int)) = (qc : Int) := by rw [IntKind.wrap_i64]; omega
              have ec1 : ((c : Int)).toNat = jN1 := by omega
              have pc1 : (0 : Int) ≤ (c : Int) := by omega
              have bc1 : (c : Int) < (d.size : Int) := by omega
              have rc1 : IntKind.i64.wrap ((c : Int)) = (c : Int) := by rw [IntKind.wrap_i64]; omega
              obtain ⟨x1, hx1⟩ : ∃ x, x = d[qc]! := ⟨_, rfl⟩
              obtain ⟨y1, hy1⟩ : ∃ x, x = d[c]! := ⟨_, rfl⟩
              have l1a := S1.out.cl R (by omega) (qc) (by omega)
              have l1b := S1.out.cl R (by omega) (c) (by omega)
              rw [← hx1, ← hiN1] at l1a
              rw [← hy1, ← hjN1] at l1b
              have hc1 := S1.out.cmp HC.out (by omega) x1 y1
              have hv1 : cf x1 y1 < 0 := by rw [hx1, hy1]; exact of_decide_eq_true hlv
              have hd1 : decide (cf x1 y1 < 0) = true := decide_eq_true hv1
              clear hx1 hy1 hiN1 hjN1
              go_wp2_with fail
              go_quiet_grown (first | (go_at_fn g; refine Calls.grown_of (hc1 _ _)))
              have S2 : Aside (SW enc w0 blk off d (grow (wr.drewN nq) osq)) := S1.out.grown nq osq
              clear l1a l1b hc1 S1
              generalize grow (wr.drewN nq) osq = w2 at S2 ⊢
              clear nq osq
              clear ea1 ec1 pa1 ba1 ra1 pc1 bc1 rc1 hv1 hd1
              go_wp2_with fail
              go_roundg (c - i)
              case measure => omega
              case rel => exact ⟨i, c, rfl, by first | rfl | go_num | (congr 1; omega), hi0, by omega, by omega, Nat.le_refl _, S2, (show _ = _ from by rw [← HQ.out]; conv => rhs; rw [bsr, if_pos hlt, hc, if_neg (by first | (rw [hlv]; decide) | (show ¬ (!_) = true; rw [hlv]; decide) | (show ¬ (!_) = true; rw [hq, hlv]; decide))])⟩
            | false =>
              obtain ⟨iN1, hiN1⟩ : ∃ q, q = qc := ⟨_, rfl⟩
              obtain ⟨jN1, hjN1⟩ : ∃ q, q = c := ⟨_, rfl⟩
              have ea1 : ((qc : Int)).toNat = iN1 := by omega
              have pa1 : (0 : Int) ≤ (qc : Int) := by omega
              have ba1 : (qc : Int) < (d.size : Int) := by omega
              have ra1 : IntKind.i64.wrap ((qc : Int)) = (qc : Int) := by rw [IntKind.wrap_i64]; omega
              have ec1 : ((c : Int)).toNat = jN1 := by omega
              have pc1 : (0 : Int) ≤ (c : Int) := by omega
              have bc1 : (c : Int) < (d.size : Int) := by omega
              have rc1 : IntKind.i64.wrap ((c : Int)) = (c : Int) := by rw [IntKind.wrap_i64]; omega
              obtain ⟨x1, hx1⟩ : ∃ x, x = d[qc]! := ⟨_, rfl⟩
              obtain ⟨y1, hy1⟩ : ∃ x, x = d[c]! := ⟨_, rfl⟩
              have l1a := S1.out.cl R (by omega) (qc) (by omega)
              have l1b := S1.out.cl R (by omega) (c) (by omega)
              rw [← hx1, ← hiN1] at l1a
              rw [← hy1, ← hjN1] at l1b
              have hc1 := S1.out.cmp HC.out (by omega) x1 y1
              have hv1 : ¬ cf x1 y1 < 0 := by rw [hx1, hy1]; exact of_decide_eq_false hlv
              have hd1 : decide (cf x1 y1 < 0) = false := decide_eq_false hv1
              clear hx1 hy1 hiN1 hjN1
              go_wp2_with fail
              go_quiet_grown (first | (go_at_fn g; refine Calls.grown_of (hc1 _ _)))
              have S2 : Aside (SW enc w0 blk off d (grow (wr.drewN nq) osq)) := S1.out.grown nq osq
              clear l1a l1b hc1 S1
              generalize grow (wr.drewN nq) osq = w2 at S2 ⊢
              clear nq osq
              clear ea1 ec1 pa1 ba1 ra1 pc1 bc1 rc1 hv1 hd1
              go_wp2_with fail
              go_roundg (j - (c + 1))
              case measure => omega
              case rel => exact ⟨c + 1, j, by first | rfl | go_num | (congr 1; omega), rfl, by omega, by omega, hj0, Nat.le_refl _, S2, (show _ = _ from by rw [← HQ.out]; conv => rhs; rw [bsr, if_pos hlt, hc, if_pos (by first | exact hlv | (rw [hlv]; rfl) | (show (!_) = true; rw [hlv]; rfl) | (show (!_) = true; rw [hq, hlv]; rfl))])⟩
          · have hltz : ¬ (i : Int) < (j : Int) := by omega
            have hr0 : i = j := by omega
            subst hr0
            have hr : bsr (fun c => !(ltOf cf) d[pN - c]! d[c]!) (s0) (mid) = i := by rw [← HQ.out, bsr, if_neg hlt]
            clear HQ hkx
            have HR := Lib.hid hr; clear hr
            subst hs0
            have hst2 : symSt (ltOf cf) a m b d = i := by
              unfold symSt
              rw [hmid, if_pos HK3.out]
              have := HR.out
              rw [← hpN] at this
              exact this
            have HT := Lib.hid hst2; clear hst2 HR
            have c3 := HK3.out
            have his : i ≤ m ∧ i ≤ mid ∧ a ≤ i ∧ mid + m - i ≤ b := by omega
            clear c3
            obtain ⟨e, he⟩ : ∃ e, mid + m - i = e := ⟨_, rfl⟩
            have hez : (mid : Int) + (m : Int) - (i : Int) = (e : Int) := by omega
            have hR := @rotL_walk α _ enc g cb blk off cap i m e d0 d w0
            have HRot : Aside _ := hR
            clear hR
            have hsymR : ∀ d2, (if i < m ∧ m < e then rotL m (m - i) (e - m) d else d) = d2 → symR m mid i d = d2 := fun d2 h => by
              unfold symR; rw [he, ← h, show mid - i = e - m by omega]
            have HSR := Lib.hid hsymR; clear hsymR
            by_cases q1 : i < m ∧ m < e
            · have q1a : (i : Int) < (m : Int) := by omega
              have q1b : (m : Int) < (e : Int) := by omega
              have hC := HRot.out _ R (by omega) S1.out q1.1 q1.2 (by omega) hsd
              have HCC := Lib.hid hC; clear hC
              have HZ1 : Hid ((rotL m (m - i) (e - m) d).size = d.size) := (show _ = _ from (rotL_perm (lo := 0) (hi := d.size) _ _ _ d rfl (by omega) (by omega) (Nat.le_refl _)).1)
              have HD : Hid ((if i < m ∧ m < e then rotL m (m - i) (e - m) d else d) = rotL m (m - i) (e - m) d) := (show _ = _ from if_pos q1)
              go_wp2_with fail
              refine HCC.out.mono ?_; rintro ee w3 ⟨rfl, hS⟩
              have S3 : Aside _ := hS; clear hS
              obtain ⟨d1, hd1⟩ : ∃ d1, rotL m (m - i) (e - m) d = d1 := ⟨_, rfl⟩
              rw [hd1] at HZ1 S3
              have HD' : Hid ((if i < m ∧ m < e then rotL m (m - i) (e - m) d else d) = d1) := (show _ = _ from HD.out.trans hd1)
              clear HD hd1
              rename Hid _ => HD
              have hz1 : d1.size = d.size := HZ1.out
              by_cases q2 : a < i ∧ i < mid
              · have q2a : (a : Int) < (i : Int) := by omega
                have q2b : (i : Int) < (mid : Int) := by omega
                have hC := IH.out a i mid d1 _ (by omega) S3.out (by omega) q2.1 q2.2 (by omega)
                rw [hz1] at hC
                have HCC := Lib.hid hC; clear hC
                have hLeft : (if a < i ∧ i < mid then symM (ltOf cf) f a i mid (symR m mid i d) else symR m mid i d) = symM (ltOf cf) f a i mid d1 := by rw [if_pos q2, HSR.out _ HD.out]
                have HLeft := Lib.hid hLeft; clear hLeft
                have HZ : Hid ((symM (ltOf cf) f a i mid d1).size = d.size) := (show _ = _ from by rw [symM_size, hz1])
                go_wp2_with fail
                refine HCC.out.mono ?_; rintro ee w4 ⟨rfl, hS⟩
                have S4 : Aside _ := hS; clear hS
                obtain ⟨d2, hd2⟩ : ∃ d2, symM (ltOf cf) f a i mid d1 = d2 := ⟨_, rfl⟩
                rw [hd2] at HLeft HZ S4
                clear hd2
                have hz2 : d2.size = d.size := HZ.out
                have hfin : symM (ltOf cf) (f+1) a m b d = (if mid < e ∧ e < b then symM (ltOf cf) f mid e b d2 else d2) := by
                  rw [symM, if_neg HN1.out, if_neg HN2.out, HT.out, hmid]; dsimp only; rw [he, HLeft.out]
                have HF := Lib.hid hfin; clear hfin
                by_cases q3 : mid < e ∧ e < b
                · have q3a : (mid : Int) < (e : Int) := by omega
                  have q3b : (e : Int) < (b : Int) := by omega
                  have hC := IH.out mid e b d2 _ (by omega) S4.out (by omega) q3.1 q3.2 (by omega)
                  rw [hz2] at hC
                  have HCC := Lib.hid hC; clear hC
                  first
                  | (exfalso; omega)
                  | (go_wp2_with fail
                     refine HCC.out.mono ?_; rintro ee w5 ⟨rfl, hS⟩
                     have S5 : Aside _ := hS; clear hS
                     go_wp2_with fail
                     go_end0
                     refine ⟨rfl, ?_⟩
                     rw [HF.out, if_pos q3]
                     exact S5.out)
                · have q3' : (mid : Int) < (e : Int) → ¬ (e : Int) < (b : Int) := fun h1 h2 => q3 ⟨by omega, by omega⟩
                  by_cases q3a : (mid : Int) < (e : Int)
                  · have q3b := q3' q3a
                    go_wp2_with fail
                    all_goals (go_end0; refine ⟨rfl, ?_⟩; rw [HF.out, if_neg q3]; exact S4.out)
                  · go_wp2_with fail
                    all_goals (go_end0; refine ⟨rfl, ?_⟩; rw [HF.out, if_neg q3]; exact S4.out)
              · have q2' : (a : Int) < (i : Int) → ¬ (i : Int) < (mid : Int) := fun h1 h2 => q2 ⟨by omega, by omega⟩
                have hLeft : (if a < i ∧ i < mid then symM (ltOf cf) f a i mid (symR m mid i d) else symR m mid i d) = d1 := by rw [if_neg q2, HSR.out _ HD.out]
                have HLeft := Lib.hid hLeft; clear hLeft
                have HZ : Hid (d1.size = d.size) := hz1
                by_cases q2a : (a : Int) < (i : Int)
                · have q2b := q2' q2a
                  have hz2 : d1.size = d.size := HZ.out
                  have hfin : symM (ltOf cf) (f+1) a m b d = (if mid < e ∧ e < b then symM (ltOf cf) f mid e b d1 else d1) := by
                    rw [symM, if_neg HN1.out, if_neg HN2.out, HT.out, hmid]; dsimp only; rw [he, HLeft.out]
                  have HF := Lib.hid hfin; clear hfin
                  by_cases q3 : mid < e ∧ e < b
                  · have q3a : (mid : Int) < (e : Int) := by omega
                    have q3b : (e : Int) < (b : Int) := by omega
                    have hC := IH.out mid e b d1 _ (by omega) S3.out (by omega) q3.1 q3.2 (by omega)
                    rw [hz2] at hC
                    have HCC := Lib.hid hC; clear hC
                    first
                    | (exfalso; omega)
                    | (go_wp2_with fail
                       refine HCC.out.mono ?_; rintro ee w5 ⟨rfl, hS⟩
                       have S5 : Aside _ := hS; clear hS
                       go_wp2_with fail
                       go_end0
                       refine ⟨rfl, ?_⟩
                       rw [HF.out, if_pos q3]
                       exact S5.out)
                  · have q3' : (mid : Int) < (e : Int) → ¬ (e : Int) < (b : Int) := fun h1 h2 => q3 ⟨by omega, by omega⟩
                    by_cases q3a : (mid : Int) < (e : Int)
                    · have q3b := q3' q3a
                      go_wp2_with fail
                      all_goals (go_end0; refine ⟨rfl, ?_⟩; rw [HF.out, if_neg q3]; exact S3.out)
                    · go_wp2_with fail
                      all_goals (go_end0; refine ⟨rfl, ?_⟩; rw [HF.out, if_neg q3]; exact S3.out)
                · skip
                  have hz2 : d1.size = d.size := HZ.out
                  have hfin : symM (ltOf cf) (f+1) a m b d = (if mid < e ∧ e < b then symM (ltOf cf) f mid e b d1 else d1) := by
                    rw [symM, if_neg HN1.out, if_neg HN2.out, HT.out, hmid]; dsimp only; rw [he, HLeft.out]
                  have HF := Lib.hid hfin; clear hfin
                  by_cases q3 : mid < e ∧ e < b
                  · have q3a : (mid : Int) < (e : Int) := by omega
                    have q3b : (e : Int) < (b : Int) := by omega
                    have hC := IH.out mid e b d1 _ (by omega) S3.out (by omega) q3.1 q3.2 (by omega)
                    rw [hz2] at hC
                    have HCC := Lib.hid hC; clear hC
                    first
                    | (exfalso; omega)
                    | (go_wp2_with fail
                       refine HCC.out.mono ?_; rintro ee w5 ⟨rfl, hS⟩
                       have S5 : Aside _ := hS; clear hS
                       go_wp2_with fail
                       go_end0
                       refine ⟨rfl, ?_⟩
                       rw [HF.out, if_pos q3]
                       exact S5.out)
                  · have q3' : (mid : Int) < (e : Int) → ¬ (e : Int) < (b : Int) := fun h1 h2 => q3 ⟨by omega, by omega⟩
                    by_cases q3a : (mid : Int) < (e : Int)
                    · have q3b := q3' q3a
                      go_wp2_with fail
                      all_goals (go_end0; refine ⟨rfl, ?_⟩; rw [HF.out, if_neg q3]; exact S3.out)
                    · go_wp2_with fail
                      all_goals (go_end0; refine ⟨rfl, ?_⟩; rw [HF.out, if_neg q3]; exact S3.out)
            · have q1' : (i : Int) < (m : Int) → ¬ (m : Int) < (e : Int) := fun h1 h2 => q1 ⟨by omega, by omega⟩
              have HZ1 : Hid (d.size = d.size) := (show _ = _ from rfl)
              have HD : Hid ((if i < m ∧ m < e then rotL m (m - i) (e - m) d else d) = d) := (show _ = _ from if_neg q1)
              by_cases q1a : (i : Int) < (m : Int)
              · have q1b := q1' q1a
                have hz1 : d.size = d.size := HZ1.out
                by_cases q2 : a < i ∧ i < mid
                · have q2a : (a : Int) < (i : Int) := by omega
                  have q2b : (i : Int) < (mid : Int) := by omega
                  have hC := IH.out a i mid d _ (by omega) S1.out (by omega) q2.1 q2.2 (by omega)
                  rw [hz1] at hC
                  have HCC := Lib.hid hC; clear hC
                  have hLeft : (if a < i ∧ i < mid then symM (ltOf cf) f a i mid (symR m mid i d) else symR m mid i d) = symM (ltOf cf) f a i mid d := by rw [if_pos q2, HSR.out _ HD.out]
                  have HLeft := Lib.hid hLeft; clear hLeft
                  have HZ : Hid ((symM (ltOf cf) f a i mid d).size = d.size) := (show _ = _ from by rw [symM_size, hz1])
                  go_wp2_with fail
                  refine HCC.out.mono ?_; rintro ee w4 ⟨rfl, hS⟩
                  have S4 : Aside _ := hS; clear hS
                  obtain ⟨d2, hd2⟩ : ∃ d2, symM (ltOf cf) f a i mid d = d2 := ⟨_, rfl⟩
                  rw [hd2] at HLeft HZ S4
                  clear hd2
                  have hz2 : d2.size = d.size := HZ.out
                  have hfin : symM (ltOf cf) (f+1) a m b d = (if mid < e ∧ e < b then symM (ltOf cf) f mid e b d2 else d2) := by
                    rw [symM, if_neg HN1.out, if_neg HN2.out, HT.out, hmid]; dsimp only; rw [he, HLeft.out]
                  have HF := Lib.hid hfin; clear hfin
                  by_cases q3 : mid < e ∧ e < b
                  · have q3a : (mid : Int) < (e : Int) := by omega
                    have q3b : (e : Int) < (b : Int) := by omega
                    have hC := IH.out mid e b d2 _ (by omega) S4.out (by omega) q3.1 q3.2 (by omega)
                    rw [hz2] at hC
                    have HCC := Lib.hid hC; clear hC
                    first
                    | (exfalso; omega)
                    | (go_wp2_with fail
                       refine HCC.out.mono ?_; rintro ee w5 ⟨rfl, hS⟩
                       have S5 : Aside _ := hS; clear hS
                       go_wp2_with fail
                       go_end0
                       refine ⟨rfl, ?_⟩
                       rw [HF.out, if_pos q3]
                       exact S5.out)
                  · have q3' : (mid : Int) < (e : Int) → ¬ (e : Int) < (b : Int) := fun h1 h2 => q3 ⟨by omega, by omega⟩
                    by_cases q3a : (mid : Int) < (e : Int)
                    · have q3b := q3' q3a
                      go_wp2_with fail
                      all_goals (go_end0; refine ⟨rfl, ?_⟩; rw [HF.out, if_neg q3]; exact S4.out)
                    · go_wp2_with fail
                      all_goals (go_end0; refine ⟨rfl, ?_⟩; rw [HF.out, if_neg q3]; exact S4.out)
                · have q2' : (a : Int) < (i : Int) → ¬ (i : Int) < (mid : Int) := fun h1 h2 => q2 ⟨by omega, by omega⟩
                  have hLeft : (if a < i ∧ i < mid then symM (ltOf cf) f a i mid (symR m mid i d) else symR m mid i d) = d := by rw [if_neg q2, HSR.out _ HD.out]
                  have HLeft := Lib.hid hLeft; clear hLeft
                  have HZ : Hid (d.size = d.size) := hz1
                  by_cases q2a : (a : Int) < (i : Int)
                  · have q2b := q2' q2a
                    have hz2 : d.size = d.size := HZ.out
                    have hfin : symM (ltOf cf) (f+1) a m b d = (if mid < e ∧ e < b then symM (ltOf cf) f mid e b d else d) := by
                      rw [symM, if_neg HN1.out, if_neg HN2.out, HT.out, hmid]; dsimp only; rw [he, HLeft.out]
                    have HF := Lib.hid hfin; clear hfin
                    by_cases q3 : mid < e ∧ e < b
                    · have q3a : (mid : Int) < (e : Int) := by omega
                      have q3b : (e : Int) < (b : Int) := by omega
                      have hC := IH.out mid e b d _ (by omega) S1.out (by omega) q3.1 q3.2 (by omega)
                      rw [hz2] at hC
                      have HCC := Lib.hid hC; clear hC
                      first
                      | (exfalso; omega)
                      | (go_wp2_with fail
                         refine HCC.out.mono ?_; rintro ee w5 ⟨rfl, hS⟩
                         have S5 : Aside _ := hS; clear hS
                         go_wp2_with fail
                         go_end0
                         refine ⟨rfl, ?_⟩
                         rw [HF.out, if_pos q3]
                         exact S5.out)
                    · have q3' : (mid : Int) < (e : Int) → ¬ (e : Int) < (b : Int) := fun h1 h2 => q3 ⟨by omega, by omega⟩
                      by_cases q3a : (mid : Int) < (e : Int)
                      · have q3b := q3' q3a
                        go_wp2_with fail
                        all_goals (go_end0; refine ⟨rfl, ?_⟩; rw [HF.out, if_neg q3]; exact S1.out)
                      · go_wp2_with fail
                        all_goals (go_end0; refine ⟨rfl, ?_⟩; rw [HF.out, if_neg q3]; exact S1.out)
                  · skip
                    have hz2 : d.size = d.size := HZ.out
                    have hfin : symM (ltOf cf) (f+1) a m b d = (if mid < e ∧ e < b then symM (ltOf cf) f mid e b d else d) := by
                      rw [symM, if_neg HN1.out, if_neg HN2.out, HT.out, hmid]; dsimp only; rw [he, HLeft.out]
                    have HF := Lib.hid hfin; clear hfin
                    by_cases q3 : mid < e ∧ e < b
                    · have q3a : (mid : Int) < (e : Int) := by omega
                      have q3b : (e : Int) < (b : Int) := by omega
                      have hC := IH.out mid e b d _ (by omega) S1.out (by omega) q3.1 q3.2 (by omega)
                      rw [hz2] at hC
                      have HCC := Lib.hid hC; clear hC
                      first
                      | (exfalso; omega)
                      | (go_wp2_with fail
                         refine HCC.out.mono ?_; rintro ee w5 ⟨rfl, hS⟩
                         have S5 : Aside _ := hS; clear hS
                         go_wp2_with fail
                         go_end0
                         refine ⟨rfl, ?_⟩
                         rw [HF.out, if_pos q3]
                         exact S5.out)
                    · have q3' : (mid : Int) < (e : Int) → ¬ (e : Int) < (b : Int) := fun h1 h2 => q3 ⟨by omega, by omega⟩
                      by_cases q3a : (mid : Int) < (e : Int)
                      · have q3b := q3' q3a
                        go_wp2_with fail
                        all_goals (go_end0; refine ⟨rfl, ?_⟩; rw [HF.out, if_neg q3]; exact S1.out)
                      · go_wp2_with fail
                        all_goals (go_end0; refine ⟨rfl, ?_⟩; rw [HF.out, if_neg q3]; exact S1.out)
              · skip
                have hz1 : d.size = d.size := HZ1.out
                by_cases q2 : a < i ∧ i < mid
                · have q2a : (a : Int) < (i : Int) := by omega
                  have q2b : (i : Int) < (mid : Int) := by omega
                  have hC := IH.out a i mid d _ (by omega) S1.out (by omega) q2.1 q2.2 (by omega)
                  rw [hz1] at hC
                  have HCC := Lib.hid hC; clear hC
                  have hLeft : (if a < i ∧ i < mid then symM (ltOf cf) f a i mid (symR m mid i d) else symR m mid i d) = symM (ltOf cf) f a i mid d := by rw [if_pos q2, HSR.out _ HD.out]
                  have HLeft := Lib.hid hLeft; clear hLeft
                  have HZ : Hid ((symM (ltOf cf) f a i mid d).size = d.size) := (show _ = _ from by rw [symM_size, hz1])
                  go_wp2_with fail
                  refine HCC.out.mono ?_; rintro ee w4 ⟨rfl, hS⟩
                  have S4 : Aside _ := hS; clear hS
                  obtain ⟨d2, hd2⟩ : ∃ d2, symM (ltOf cf) f a i mid d = d2 := ⟨_, rfl⟩
                  rw [hd2] at HLeft HZ S4
                  clear hd2
                  have hz2 : d2.size = d.size := HZ.out
                  have hfin : symM (ltOf cf) (f+1) a m b d = (if mid < e ∧ e < b then symM (ltOf cf) f mid e b d2 else d2) := by
                    rw [symM, if_neg HN1.out, if_neg HN2.out, HT.out, hmid]; dsimp only; rw [he, HLeft.out]
                  have HF := Lib.hid hfin; clear hfin
                  by_cases q3 : mid < e ∧ e < b
                  · have q3a : (mid : Int) < (e : Int) := by omega
                    have q3b : (e : Int) < (b : Int) := by omega
                    have hC := IH.out mid e b d2 _ (by omega) S4.out (by omega) q3.1 q3.2 (by omega)
                    rw [hz2] at hC
                    have HCC := Lib.hid hC; clear hC
                    first
                    | (exfalso; omega)
                    | (go_wp2_with fail
                       refine HCC.out.mono ?_; rintro ee w5 ⟨rfl, hS⟩
                       have S5 : Aside _ := hS; clear hS
                       go_wp2_with fail
                       go_end0
                       refine ⟨rfl, ?_⟩
                       rw [HF.out, if_pos q3]
                       exact S5.out)
                  · have q3' : (mid : Int) < (e : Int) → ¬ (e : Int) < (b : Int) := fun h1 h2 => q3 ⟨by omega, by omega⟩
                    by_cases q3a : (mid : Int) < (e : Int)
                    · have q3b := q3' q3a
                      go_wp2_with fail
                      all_goals (go_end0; refine ⟨rfl, ?_⟩; rw [HF.out, if_neg q3]; exact S4.out)
                    · go_wp2_with fail
                      all_goals (go_end0; refine ⟨rfl, ?_⟩; rw [HF.out, if_neg q3]; exact S4.out)
                · have q2' : (a : Int) < (i : Int) → ¬ (i : Int) < (mid : Int) := fun h1 h2 => q2 ⟨by omega, by omega⟩
                  have hLeft : (if a < i ∧ i < mid then symM (ltOf cf) f a i mid (symR m mid i d) else symR m mid i d) = d := by rw [if_neg q2, HSR.out _ HD.out]
                  have HLeft := Lib.hid hLeft; clear hLeft
                  have HZ : Hid (d.size = d.size) := hz1
                  by_cases q2a : (a : Int) < (i : Int)
                  · have q2b := q2' q2a
                    have hz2 : d.size = d.size := HZ.out
                    have hfin : symM (ltOf cf) (f+1) a m b d = (if mid < e ∧ e < b then symM (ltOf cf) f mid e b d else d) := by
                      rw [symM, if_neg HN1.out, if_neg HN2.out, HT.out, hmid]; dsimp only; rw [he, HLeft.out]
                    have HF := Lib.hid hfin; clear hfin
                    by_cases q3 : mid < e ∧ e < b
                    · have q3a : (mid : Int) < (e : Int) := by omega
                      have q3b : (e : Int) < (b : Int) := by omega
                      have hC := IH.out mid e b d _ (by omega) S1.out (by omega) q3.1 q3.2 (by omega)
                      rw [hz2] at hC
                      have HCC := Lib.hid hC; clear hC
                      first
                      | (exfalso; omega)
                      | (go_wp2_with fail
                         refine HCC.out.mono ?_; rintro ee w5 ⟨rfl, hS⟩
                         have S5 : Aside _ := hS; clear hS
                         go_wp2_with fail
                         go_end0
                         refine ⟨rfl, ?_⟩
                         rw [HF.out, if_pos q3]
                         exact S5.out)
                    · have q3' : (mid : Int) < (e : Int) → ¬ (e : Int) < (b : Int) := fun h1 h2 => q3 ⟨by omega, by omega⟩
                      by_cases q3a : (mid : Int) < (e : Int)
                      · have q3b := q3' q3a
                        go_wp2_with fail
                        all_goals (go_end0; refine ⟨rfl, ?_⟩; rw [HF.out, if_neg q3]; exact S1.out)
                      · go_wp2_with fail
                        all_goals (go_end0; refine ⟨rfl, ?_⟩; rw [HF.out, if_neg q3]; exact S1.out)
                  · skip
                    have hz2 : d.size = d.size := HZ.out
                    have hfin : symM (ltOf cf) (f+1) a m b d = (if mid < e ∧ e < b then symM (ltOf cf) f mid e b d else d) := by
                      rw [symM, if_neg HN1.out, if_neg HN2.out, HT.out, hmid]; dsimp only; rw [he, HLeft.out]
                    have HF := Lib.hid hfin; clear hfin
                    by_cases q3 : mid < e ∧ e < b
                    · have q3a : (mid : Int) < (e : Int) := by omega
                      have q3b : (e : Int) < (b : Int) := by omega
                      have hC := IH.out mid e b d _ (by omega) S1.out (by omega) q3.1 q3.2 (by omega)
                      rw [hz2] at hC
                      have HCC := Lib.hid hC; clear hC
                      first
                      | (exfalso; omega)
                      | (go_wp2_with fail
                         refine HCC.out.mono ?_; rintro ee w5 ⟨rfl, hS⟩
                         have S5 : Aside _ := hS; clear hS
                         go_wp2_with fail
                         go_end0
                         refine ⟨rfl, ?_⟩
                         rw [HF.out, if_pos q3]
                         exact S5.out)
                    · have q3' : (mid : Int) < (e : Int) → ¬ (e : Int) < (b : Int) := fun h1 h2 => q3 ⟨by omega, by omega⟩
                      by_cases q3a : (mid : Int) < (e : Int)
                      · have q3b := q3' q3a
                        go_wp2_with fail
                        all_goals (go_end0; refine ⟨rfl, ?_⟩; rw [HF.out, if_neg q3]; exact S1.out)
                      · go_wp2_with fail
                        all_goals (go_end0; refine ⟨rfl, ?_⟩; rw [HF.out, if_neg q3]; exact S1.out)
      · have c3z : ¬ ((a : Int) + (b : Int)) / 2 < (m : Int) := by omega
        have HK3 := Lib.hid c3; clear c3
        go_wp2_with fail
        try rw [hmidz]
        try rw [hpz]
        clear hmidz hpz c1z c2z c3z
        try (rename ((m : Int) - (a : Int) == 1) = _ => hq1; clear hq1)
        try (rename ((b : Int) - (m : Int) == 1) = _ => hq2; clear hq2)
        try (rename mid < m => hq3; clear hq3)
        try (rename ¬ (mid < m) => hq3; clear hq3)
        try (rename m ≤ mid => hq3; clear hq3)
        go_loopg [20, 21] (m - a) (fun kx si sj wr => ∃ (i j : Nat), si = .int .i64 i ∧ sj = .int .i64 j ∧ a ≤ i ∧ i ≤ j ∧ j ≤ m ∧ j - i ≤ kx ∧ Aside (SW enc w0 blk off d wr) ∧ Hid (bsr (fun c => !(ltOf cf) d[pN - c]! d[c]!) i j = bsr (fun c => !(ltOf cf) d[pN - c]! d[c]!) (a) (m)))
        case atStart => exact ⟨a, m, by first | rfl | go_num | (congr 1; omega), by first | rfl | go_num | (congr 1; omega), Nat.le_refl _, by omega, Nat.le_refl _, Nat.le_refl _, S0, rfl⟩
        case round =>
          clear S0
          obtain ⟨i, j, rfl, rfl, hi0, hij, hj0, hkx, S1, HQ⟩ := hrel
          by_cases hlt : i < j
          · have hltz : (i : Int) < (j : Int) := by omega
            obtain ⟨c, hc⟩ : ∃ c, (i + j) / 2 = c := ⟨_, rfl⟩
            have hcz : ((i : Int) + (j : Int)) / 2 = (c : Int) := by omega
            go_wp2_with fail
            obtain ⟨qc, hq⟩ : ∃ z, pN - c = z := ⟨_, rfl⟩
            have hqz : (pN : Int) - (c : Int) = (qc : Int) := by omega
            have hqb : qc < d.size := by have := HK3.out; omega
            cases hlv : (ltOf cf) d[qc]! d[c]! with
            | true =>
              obtain ⟨iN1, hiN1⟩ : ∃ q, q = qc := ⟨_, rfl⟩
              obtain ⟨jN1, hjN1⟩ : ∃ q, q = c := ⟨_, rfl⟩
              have ea1 : ((qc : Int)).toNat = iN1 := by omega
              have pa1 : (0 : Int) ≤ (qc : Int) := by omega
              have ba1 : (qc : Int) < (d.size : Int) := by omega
              have ra1 : IntKind.i64.wrap ((qc : Int)) = (qc : Int) := by rw [IntKind.wrap_i64]; omega
              have ec1 : ((c : Int)).toNat = jN1 := by omega
              have pc1 : (0 : Int) ≤ (c : Int) := by omega
              have bc1 : (c : Int) < (d.size : Int) := by omega
              have rc1 : IntKind.i64.wrap ((c : Int)) = (c : Int) := by rw [IntKind.wrap_i64]; omega
              obtain ⟨x1, hx1⟩ : ∃ x, x = d[qc]! := ⟨_, rfl⟩
              obtain ⟨y1, hy1⟩ : ∃ x, x = d[c]! := ⟨_, rfl⟩
              have l1a := S1.out.cl R (by omega) (qc) (by omega)
              have l1b := S1.out.cl R (by omega) (c) (by omega)
              rw [← hx1, ← hiN1] at l1a
              rw [← hy1, ← hjN1] at l1b
              have hc1 := S1.out.cmp HC.out (by omega) x1 y1
              have hv1 : cf x1 y1 < 0 := by rw [hx1, hy1]; exact of_decide_eq_true hlv
              have hd1 : decide (cf x1 y1 < 0) = true := decide_eq_true hv1
              clear hx1 hy1 hiN1 hjN1
              go_wp2_with fail
              go_quiet_grown (first | (go_at_fn g; refine Calls.grown_of (hc1 _ _)))
              have S2 : Aside (SW enc w0 blk off d (grow (wr.drewN nq) osq)) := S1.out.grown nq osq
              clear l1a l1b hc1 S1
              generalize grow (wr.drewN nq) osq = w2 at S2 ⊢
              clear nq osq
              clear ea1 ec1 pa1 ba1 ra1 pc1 bc1 rc1 hv1 hd1
              go_wp2_with fail
              go_roundg (c - i)
              case measure => omega
              case rel => exact ⟨i, c, rfl, by first | rfl | go_num | (congr 1; omega), hi0, by omega, by omega, Nat.le_refl _, S2, (show _ = _ from by rw [← HQ.out]; conv => rhs; rw [bsr, if_pos hlt, hc, if_neg (by first | (rw [hlv]; decide) | (show ¬ (!_) = true; rw [hlv]; decide) | (show ¬ (!_) = true; rw [hq, hlv]; decide))])⟩
            | false =>
              obtain ⟨iN1, hiN1⟩ : ∃ q, q = qc := ⟨_, rfl⟩
              obtain ⟨jN1, hjN1⟩ : ∃ q, q = c := ⟨_, rfl⟩
              have ea1 : ((qc : Int)).toNat = iN1 := by omega
              have pa1 : (0 : Int) ≤ (qc : Int) := by omega
              have ba1 : (qc : Int) < (d.size : Int) := by omega
              have ra1 : IntKind.i64.wrap ((qc : Int)) = (qc : Int) := by rw [IntKind.wrap_i64]; omega
              have ec1 : ((c : Int)).toNat = jN1 := by omega
              have pc1 : (0 : Int) ≤ (c : Int) := by omega
              have bc1 : (c : Int) < (d.size : Int) := by omega
              have rc1 : IntKind.i64.wrap ((c : Int)) = (c : Int) := by rw [IntKind.wrap_i64]; omega
              obtain ⟨x1, hx1⟩ : ∃ x, x = d[qc]! := ⟨_, rfl⟩
              obtain ⟨y1, hy1⟩ : ∃ x, x = d[c]! := ⟨_, rfl⟩
              have l1a := S1.out.cl R (by omega) (qc) (by omega)
              have l1b := S1.out.cl R (by omega) (c) (by omega)
              rw [← hx1, ← hiN1] at l1a
              rw [← hy1, ← hjN1] at l1b
              have hc1 := S1.out.cmp HC.out (by omega) x1 y1
              have hv1 : ¬ cf x1 y1 < 0 := by rw [hx1, hy1]; exact of_decide_eq_false hlv
              have hd1 : decide (cf x1 y1 < 0) = false := decide_eq_false hv1
              clear hx1 hy1 hiN1 hjN1
              go_wp2_with fail
              go_quiet_grown (first | (go_at_fn g; refine Calls.grown_of (hc1 _ _)))
              have S2 : Aside (SW enc w0 blk off d (grow (wr.drewN nq) osq)) := S1.out.grown nq osq
              clear l1a l1b hc1 S1
              generalize grow (wr.drewN nq) osq = w2 at S2 ⊢
              clear nq osq
              clear ea1 ec1 pa1 ba1 ra1 pc1 bc1 rc1 hv1 hd1
              go_wp2_with fail
              go_roundg (j - (c + 1))
              case measure => omega
              case rel => exact ⟨c + 1, j, by first | rfl | go_num | (congr 1; omega), rfl, by omega, by omega, hj0, Nat.le_refl _, S2, (show _ = _ from by rw [← HQ.out]; conv => rhs; rw [bsr, if_pos hlt, hc, if_pos (by first | exact hlv | (rw [hlv]; rfl) | (show (!_) = true; rw [hlv]; rfl) | (show (!_) = true; rw [hq, hlv]; rfl))])⟩
          · have hltz : ¬ (i : Int) < (j : Int) := by omega
            have hr0 : i = j := by omega
            subst hr0
            have hr : bsr (fun c => !(ltOf cf) d[pN - c]! d[c]!) (a) (m) = i := by rw [← HQ.out, bsr, if_neg hlt]
            clear HQ hkx
            have HR := Lib.hid hr; clear hr
            have hst2 : symSt (ltOf cf) a m b d = i := by
              unfold symSt
              rw [hmid, if_neg HK3.out]
              have := HR.out
              rw [← hpN] at this
              exact this
            have HT := Lib.hid hst2; clear hst2 HR
            have c3 := HK3.out
            have his : i ≤ m ∧ i ≤ mid ∧ a ≤ i ∧ mid + m - i ≤ b := by omega
            clear c3
            obtain ⟨e, he⟩ : ∃ e, mid + m - i = e := ⟨_, rfl⟩
            have hez : (mid : Int) + (m : Int) - (i : Int) = (e : Int) := by omega
            have hR := @rotL_walk α _ enc g cb blk off cap i m e d0 d w0
            have HRot : Aside _ := hR
            clear hR
            have hsymR : ∀ d2, (if i < m ∧ m < e then rotL m (m - i) (e - m) d else d) = d2 → symR m mid i d = d2 := fun d2 h => by
              unfold symR; rw [he, ← h, show mid - i = e - m by omega]
            have HSR := Lib.hid hsymR; clear hsymR
            by_cases q1 : i < m ∧ m < e
            · have q1a : (i : Int) < (m : Int) := by omega
              have q1b : (m : Int) < (e : Int) := by omega
              have hC := HRot.out _ R (by omega) S1.out q1.1 q1.2 (by omega) hsd
              have HCC := Lib.hid hC; clear hC
              have HZ1 : Hid ((rotL m (m - i) (e - m) d).size = d.size) := (show _ = _ from (rotL_perm (lo := 0) (hi := d.size) _ _ _ d rfl (by omega) (by omega) (Nat.le_refl _)).1)
              have HD : Hid ((if i < m ∧ m < e then rotL m (m - i) (e - m) d else d) = rotL m (m - i) (e - m) d) := (show _ = _ from if_pos q1)
              go_wp2_with fail
              refine HCC.out.mono ?_; rintro ee w3 ⟨rfl, hS⟩
              have S3 : Aside _ := hS; clear hS
              obtain ⟨d1, hd1⟩ : ∃ d1, rotL m (m - i) (e - m) d = d1 := ⟨_, rfl⟩
              rw [hd1] at HZ1 S3
              have HD' : Hid ((if i < m ∧ m < e then rotL m (m - i) (e - m) d else d) = d1) := (show _ = _ from HD.out.trans hd1)
              clear HD hd1
              rename Hid _ => HD
              have hz1 : d1.size = d.size := HZ1.out
              by_cases q2 : a < i ∧ i < mid
              · have q2a : (a : Int) < (i : Int) := by omega
                have q2b : (i : Int) < (mid : Int) := by omega
                have hC := IH.out a i mid d1 _ (by omega) S3.out (by omega) q2.1 q2.2 (by omega)
                rw [hz1] at hC
                have HCC := Lib.hid hC; clear hC
                have hLeft : (if a < i ∧ i < mid then symM (ltOf cf) f a i mid (symR m mid i d) else symR m mid i d) = symM (ltOf cf) f a i mid d1 := by rw [if_pos q2, HSR.out _ HD.out]
                have HLeft := Lib.hid hLeft; clear hLeft
                have HZ : Hid ((symM (ltOf cf) f a i mid d1).size = d.size) := (show _ = _ from by rw [symM_size, hz1])
                go_wp2_with fail
                refine HCC.out.mono ?_; rintro ee w4 ⟨rfl, hS⟩
                have S4 : Aside _ := hS; clear hS
                obtain ⟨d2, hd2⟩ : ∃ d2, symM (ltOf cf) f a i mid d1 = d2 := ⟨_, rfl⟩
                rw [hd2] at HLeft HZ S4
                clear hd2
                have hz2 : d2.size = d.size := HZ.out
                have hfin : symM (ltOf cf) (f+1) a m b d = (if mid < e ∧ e < b then symM (ltOf cf) f mid e b d2 else d2) := by
                  rw [symM, if_neg HN1.out, if_neg HN2.out, HT.out, hmid]; dsimp only; rw [he, HLeft.out]
                have HF := Lib.hid hfin; clear hfin
                by_cases q3 : mid < e ∧ e < b
                · have q3a : (mid : Int) < (e : Int) := by omega
                  have q3b : (e : Int) < (b : Int) := by omega
                  have hC := IH.out mid e b d2 _ (by omega) S4.out (by omega) q3.1 q3.2 (by omega)
                  rw [hz2] at hC
                  have HCC := Lib.hid hC; clear hC
                  first
                  | (exfalso; omega)
                  | (go_wp2_with fail
                     refine HCC.out.mono ?_; rintro ee w5 ⟨rfl, hS⟩
                     have S5 : Aside _ := hS; clear hS
                     go_wp2_with fail
                     go_end0
                     refine ⟨rfl, ?_⟩
                     rw [HF.out, if_pos q3]
                     exact S5.out)
                · have q3' : (mid : Int) < (e : Int) → ¬ (e : Int) < (b : Int) := fun h1 h2 => q3 ⟨by omega, by omega⟩
                  by_cases q3a : (mid : Int) < (e : Int)
                  · have q3b := q3' q3a
                    go_wp2_with fail
                    all_goals (go_end0; refine ⟨rfl, ?_⟩; rw [HF.out, if_neg q3]; exact S4.out)
                  · go_wp2_with fail
                    all_goals (go_end0; refine ⟨rfl, ?_⟩; rw [HF.out, if_neg q3]; exact S4.out)
              · have q2' : (a : Int) < (i : Int) → ¬ (i : Int) < (mid : Int) := fun h1 h2 => q2 ⟨by omega, by omega⟩
                have hLeft : (if a < i ∧ i < mid then symM (ltOf cf) f a i mid (symR m mid i d) else symR m mid i d) = d1 := by rw [if_neg q2, HSR.out _ HD.out]
                have HLeft := Lib.hid hLeft; clear hLeft
                have HZ : Hid (d1.size = d.size) := hz1
                by_cases q2a : (a : Int) < (i : Int)
                · have q2b := q2' q2a
                  have hz2 : d1.size = d.size := HZ.out
                  have hfin : symM (ltOf cf) (f+1) a m b d = (if mid < e ∧ e < b then symM (ltOf cf) f mid e b d1 else d1) := by
                    rw [symM, if_neg HN1.out, if_neg HN2.out, HT.out, hmid]; dsimp only; rw [he, HLeft.out]
                  have HF := Lib.hid hfin; clear hfin
                  by_cases q3 : mid < e ∧ e < b
                  · have q3a : (mid : Int) < (e : Int) := by omega
                    have q3b : (e : Int) < (b : Int) := by omega
                    have hC := IH.out mid e b d1 _ (by omega) S3.out (by omega) q3.1 q3.2 (by omega)
                    rw [hz2] at hC
                    have HCC := Lib.hid hC; clear hC
                    first
                    | (exfalso; omega)
                    | (go_wp2_with fail
                       refine HCC.out.mono ?_; rintro ee w5 ⟨rfl, hS⟩
                       have S5 : Aside _ := hS; clear hS
                       go_wp2_with fail
                       go_end0
                       refine ⟨rfl, ?_⟩
                       rw [HF.out, if_pos q3]
                       exact S5.out)
                  · have q3' : (mid : Int) < (e : Int) → ¬ (e : Int) < (b : Int) := fun h1 h2 => q3 ⟨by omega, by omega⟩
                    by_cases q3a : (mid : Int) < (e : Int)
                    · have q3b := q3' q3a
                      go_wp2_with fail
                      all_goals (go_end0; refine ⟨rfl, ?_⟩; rw [HF.out, if_neg q3]; exact S3.out)
                    · go_wp2_with fail
                      all_goals (go_end0; refine ⟨rfl, ?_⟩; rw [HF.out, if_neg q3]; exact S3.out)
                · skip
                  have hz2 : d1.size = d.size := HZ.out
                  have hfin : symM (ltOf cf) (f+1) a m b d = (if mid < e ∧ e < b then symM (ltOf cf) f mid e b d1 else d1) := by
                    rw [symM, if_neg HN1.out, if_neg HN2.out, HT.out, hmid]; dsimp only; rw [he, HLeft.out]
                  have HF := Lib.hid hfin; clear hfin
                  by_cases q3 : mid < e ∧ e < b
                  · have q3a : (mid : Int) < (e : Int) := by omega
                    have q3b : (e : Int) < (b : Int) := by omega
                    have hC := IH.out mid e b d1 _ (by omega) S3.out (by omega) q3.1 q3.2 (by omega)
                    rw [hz2] at hC
                    have HCC := Lib.hid hC; clear hC
                    first
                    | (exfalso; omega)
                    | (go_wp2_with fail
                       refine HCC.out.mono ?_; rintro ee w5 ⟨rfl, hS⟩
                       have S5 : Aside _ := hS; clear hS
                       go_wp2_with fail
                       go_end0
                       refine ⟨rfl, ?_⟩
                       rw [HF.out, if_pos q3]
                       exact S5.out)
                  · have q3' : (mid : Int) < (e : Int) → ¬ (e : Int) < (b : Int) := fun h1 h2 => q3 ⟨by omega, by omega⟩
                    by_cases q3a : (mid : Int) < (e : Int)
                    · have q3b := q3' q3a
                      go_wp2_with fail
                      all_goals (go_end0; refine ⟨rfl, ?_⟩; rw [HF.out, if_neg q3]; exact S3.out)
                    · go_wp2_with fail
                      all_goals (go_end0; refine ⟨rfl, ?_⟩; rw [HF.out, if_neg q3]; exact S3.out)
            · have q1' : (i : Int) < (m : Int) → ¬ (m : Int) < (e : Int) := fun h1 h2 => q1 ⟨by omega, by omega⟩
              have HZ1 : Hid (d.size = d.size) := (show _ = _ from rfl)
              have HD : Hid ((if i < m ∧ m < e then rotL m (m - i) (e - m) d else d) = d) := (show _ = _ from if_neg q1)
              by_cases q1a : (i : Int) < (m : Int)
              · have q1b := q1' q1a
                have hz1 : d.size = d.size := HZ1.out
                by_cases q2 : a < i ∧ i < mid
                · have q2a : (a : Int) < (i : Int) := by omega
                  have q2b : (i : Int) < (mid : Int) := by omega
                  have hC := IH.out a i mid d _ (by omega) S1.out (by omega) q2.1 q2.2 (by omega)
                  rw [hz1] at hC
                  have HCC := Lib.hid hC; clear hC
                  have hLeft : (if a < i ∧ i < mid then symM (ltOf cf) f a i mid (symR m mid i d) else symR m mid i d) = symM (ltOf cf) f a i mid d := by rw [if_pos q2, HSR.out _ HD.out]
                  have HLeft := Lib.hid hLeft; clear hLeft
                  have HZ : Hid ((symM (ltOf cf) f a i mid d).size = d.size) := (show _ = _ from by rw [symM_size, hz1])
                  go_wp2_with fail
                  refine HCC.out.mono ?_; rintro ee w4 ⟨rfl, hS⟩
                  have S4 : Aside _ := hS; clear hS
                  obtain ⟨d2, hd2⟩ : ∃ d2, symM (ltOf cf) f a i mid d = d2 := ⟨_, rfl⟩
                  rw [hd2] at HLeft HZ S4
                  clear hd2
                  have hz2 : d2.size = d.size := HZ.out
                  have hfin : symM (ltOf cf) (f+1) a m b d = (if mid < e ∧ e < b then symM (ltOf cf) f mid e b d2 else d2) := by
                    rw [symM, if_neg HN1.out, if_neg HN2.out, HT.out, hmid]; dsimp only; rw [he, HLeft.out]
                  have HF := Lib.hid hfin; clear hfin
                  by_cases q3 : mid < e ∧ e < b
                  · have q3a : (mid : Int) < (e : Int) := by omega
                    have q3b : (e : Int) < (b : Int) := by omega
                    have hC := IH.out mid e b d2 _ (by omega) S4.out (by omega) q3.1 q3.2 (by omega)
                    rw [hz2] at hC
                    have HCC := Lib.hid hC; clear hC
                    first
                    | (exfalso; omega)
                    | (go_wp2_with fail
                       refine HCC.out.mono ?_; rintro ee w5 ⟨rfl, hS⟩
                       have S5 : Aside _ := hS; clear hS
                       go_wp2_with fail
                       go_end0
                       refine ⟨rfl, ?_⟩
                       rw [HF.out, if_pos q3]
                       exact S5.out)
                  · have q3' : (mid : Int) < (e : Int) → ¬ (e : Int) < (b : Int) := fun h1 h2 => q3 ⟨by omega, by omega⟩
                    by_cases q3a : (mid : Int) < (e : Int)
                    · have q3b := q3' q3a
                      go_wp2_with fail
                      all_goals (go_end0; refine ⟨rfl, ?_⟩; rw [HF.out, if_neg q3]; exact S4.out)
                    · go_wp2_with fail
                      all_goals (go_end0; refine ⟨rfl, ?_⟩; rw [HF.out, if_neg q3]; exact S4.out)
                · have q2' : (a : Int) < (i : Int) → ¬ (i : Int) < (mid : Int) := fun h1 h2 => q2 ⟨by omega, by omega⟩
                  have hLeft : (if a < i ∧ i < mid then symM (ltOf cf) f a i mid (symR m mid i d) else symR m mid i d) = d := by rw [if_neg q2, HSR.out _ HD.out]
                  have HLeft := Lib.hid hLeft; clear hLeft
                  have HZ : Hid (d.size = d.size) := hz1
                  by_cases q2a : (a : Int) < (i : Int)
                  · have q2b := q2' q2a
                    have hz2 : d.size = d.size := HZ.out
                    have hfin : symM (ltOf cf) (f+1) a m b d = (if mid < e ∧ e < b then symM (ltOf cf) f mid e b d else d) := by
                      rw [symM, if_neg HN1.out, if_neg HN2.out, HT.out, hmid]; dsimp only; rw [he, HLeft.out]
                    have HF := Lib.hid hfin; clear hfin
                    by_cases q3 : mid < e ∧ e < b
                    · have q3a : (mid : Int) < (e : Int) := by omega
                      have q3b : (e : Int) < (b : Int) := by omega
                      have hC := IH.out mid e b d _ (by omega) S1.out (by omega) q3.1 q3.2 (by omega)
                      rw [hz2] at hC
                      have HCC := Lib.hid hC; clear hC
                      first
                      | (exfalso; omega)
                      | (go_wp2_with fail
                         refine HCC.out.mono ?_; rintro ee w5 ⟨rfl, hS⟩
                         have S5 : Aside _ := hS; clear hS
                         go_wp2_with fail
                         go_end0
                         refine ⟨rfl, ?_⟩
                         rw [HF.out, if_pos q3]
                         exact S5.out)
                    · have q3' : (mid : Int) < (e : Int) → ¬ (e : Int) < (b : Int) := fun h1 h2 => q3 ⟨by omega, by omega⟩
                      by_cases q3a : (mid : Int) < (e : Int)
                      · have q3b := q3' q3a
                        go_wp2_with fail
                        all_goals (go_end0; refine ⟨rfl, ?_⟩; rw [HF.out, if_neg q3]; exact S1.out)
                      · go_wp2_with fail
                        all_goals (go_end0; refine ⟨rfl, ?_⟩; rw [HF.out, if_neg q3]; exact S1.out)
                  · skip
                    have hz2 : d.size = d.size := HZ.out
                    have hfin : symM (ltOf cf) (f+1) a m b d = (if mid < e ∧ e < b then symM (ltOf cf) f mid e b d else d) := by
                      rw [symM, if_neg HN1.out, if_neg HN2.out, HT.out, hmid]; dsimp only; rw [he, HLeft.out]
                    have HF := Lib.hid hfin; clear hfin
                    by_cases q3 : mid < e ∧ e < b
                    · have q3a : (mid : Int) < (e : Int) := by omega
                      have q3b : (e : Int) < (b : Int) := by omega
                      have hC := IH.out mid e b d _ (by omega) S1.out (by omega) q3.1 q3.2 (by omega)
                      rw [hz2] at hC
                      have HCC := Lib.hid hC; clear hC
                      first
                      | (exfalso; omega)
                      | (go_wp2_with fail
                         refine HCC.out.mono ?_; rintro ee w5 ⟨rfl, hS⟩
                         have S5 : Aside _ := hS; clear hS
                         go_wp2_with fail
                         go_end0
                         refine ⟨rfl, ?_⟩
                         rw [HF.out, if_pos q3]
                         exact S5.out)
                    · have q3' : (mid : Int) < (e : Int) → ¬ (e : Int) < (b : Int) := fun h1 h2 => q3 ⟨by omega, by omega⟩
                      by_cases q3a : (mid : Int) < (e : Int)
                      · have q3b := q3' q3a
                        go_wp2_with fail
                        all_goals (go_end0; refine ⟨rfl, ?_⟩; rw [HF.out, if_neg q3]; exact S1.out)
                      · go_wp2_with fail
                        all_goals (go_end0; refine ⟨rfl, ?_⟩; rw [HF.out, if_neg q3]; exact S1.out)
              · skip
                have hz1 : d.size = d.size := HZ1.out
                by_cases q2 : a < i ∧ i < mid
                · have q2a : (a : Int) < (i : Int) := by omega
                  have q2b : (i : Int) < (mid : Int) := by omega
                  have hC := IH.out a i mid d _ (by omega) S1.out (by omega) q2.1 q2.2 (by omega)
                  rw [hz1] at hC
                  have HCC := Lib.hid hC; clear hC
                  have hLeft : (if a < i ∧ i < mid then symM (ltOf cf) f a i mid (symR m mid i d) else symR m mid i d) = symM (ltOf cf) f a i mid d := by rw [if_pos q2, HSR.out _ HD.out]
                  have HLeft := Lib.hid hLeft; clear hLeft
                  have HZ : Hid ((symM (ltOf cf) f a i mid d).size = d.size) := (show _ = _ from by rw [symM_size, hz1])
                  go_wp2_with fail
                  refine HCC.out.mono ?_; rintro ee w4 ⟨rfl, hS⟩
                  have S4 : Aside _ := hS; clear hS
                  obtain ⟨d2, hd2⟩ : ∃ d2, symM (ltOf cf) f a i mid d = d2 := ⟨_, rfl⟩
                  rw [hd2] at HLeft HZ S4
                  clear hd2
                  have hz2 : d2.size = d.size := HZ.out
                  have hfin : symM (ltOf cf) (f+1) a m b d = (if mid < e ∧ e < b then symM (ltOf cf) f mid e b d2 else d2) := by
                    rw [symM, if_neg HN1.out, if_neg HN2.out, HT.out, hmid]; dsimp only; rw [he, HLeft.out]
                  have HF := Lib.hid hfin; clear hfin
                  by_cases q3 : mid < e ∧ e < b
                  · have q3a : (mid : Int) < (e : Int) := by omega
                    have q3b : (e : Int) < (b : Int) := by omega
                    have hC := IH.out mid e b d2 _ (by omega) S4.out (by omega) q3.1 q3.2 (by omega)
                    rw [hz2] at hC
                    have HCC := Lib.hid hC; clear hC
                    first
                    | (exfalso; omega)
                    | (go_wp2_with fail
                       refine HCC.out.mono ?_; rintro ee w5 ⟨rfl, hS⟩
                       have S5 : Aside _ := hS; clear hS
                       go_wp2_with fail
                       go_end0
                       refine ⟨rfl, ?_⟩
                       rw [HF.out, if_pos q3]
                       exact S5.out)
                  · have q3' : (mid : Int) < (e : Int) → ¬ (e : Int) < (b : Int) := fun h1 h2 => q3 ⟨by omega, by omega⟩
                    by_cases q3a : (mid : Int) < (e : Int)
                    · have q3b := q3' q3a
                      go_wp2_with fail
                      all_goals (go_end0; refine ⟨rfl, ?_⟩; rw [HF.out, if_neg q3]; exact S4.out)
                    · go_wp2_with fail
                      all_goals (go_end0; refine ⟨rfl, ?_⟩; rw [HF.out, if_neg q3]; exact S4.out)
                · have q2' : (a : Int) < (i : Int) → ¬ (i : Int) < (mid : Int) := fun h1 h2 => q2 ⟨by omega, by omega⟩
                  have hLeft : (if a < i ∧ i < mid then symM (ltOf cf) f a i mid (symR m mid i d) else symR m mid i d) = d := by rw [if_neg q2, HSR.out _ HD.out]
                  have HLeft := Lib.hid hLeft; clear hLeft
                  have HZ : Hid (d.size = d.size) := hz1
                  by_cases q2a : (a : Int) < (i : Int)
                  · have q2b := q2' q2a
                    have hz2 : d.size = d.size := HZ.out
                    have hfin : symM (ltOf cf) (f+1) a m b d = (if mid < e ∧ e < b then symM (ltOf cf) f mid e b d else d) := by
                      rw [symM, if_neg HN1.out, if_neg HN2.out, HT.out, hmid]; dsimp only; rw [he, HLeft.out]
                    have HF := Lib.hid hfin; clear hfin
                    by_cases q3 : mid < e ∧ e < b
                    · have q3a : (mid : Int) < (e : Int) := by omega
                      have q3b : (e : Int) < (b : Int) := by omega
                      have hC := IH.out mid e b d _ (by omega) S1.out (by omega) q3.1 q3.2 (by omega)
                      rw [hz2] at hC
                      have HCC := Lib.hid hC; clear hC
                      first
                      | (exfalso; omega)
                      | (go_wp2_with fail
                         refine HCC.out.mono ?_; rintro ee w5 ⟨rfl, hS⟩
                         have S5 : Aside _ := hS; clear hS
                         go_wp2_with fail
                         go_end0
                         refine ⟨rfl, ?_⟩
                         rw [HF.out, if_pos q3]
                         exact S5.out)
                    · have q3' : (mid : Int) < (e : Int) → ¬ (e : Int) < (b : Int) := fun h1 h2 => q3 ⟨by omega, by omega⟩
                      by_cases q3a : (mid : Int) < (e : Int)
                      · have q3b := q3' q3a
                        go_wp2_with fail
                        all_goals (go_end0; refine ⟨rfl, ?_⟩; rw [HF.out, if_neg q3]; exact S1.out)
                      · go_wp2_with fail
                        all_goals (go_end0; refine ⟨rfl, ?_⟩; rw [HF.out, if_neg q3]; exact S1.out)
                  · skip
                    have hz2 : d.size = d.size := HZ.out
                    have hfin : symM (ltOf cf) (f+1) a m b d = (if mid < e ∧ e < b then symM (ltOf cf) f mid e b d else d) := by
                      rw [symM, if_neg HN1.out, if_neg HN2.out, HT.out, hmid]; dsimp only; rw [he, HLeft.out]
                    have HF := Lib.hid hfin; clear hfin
                    by_cases q3 : mid < e ∧ e < b
                    · have q3a : (mid : Int) < (e : Int) := by omega
                      have q3b : (e : Int) < (b : Int) := by omega
                      have hC := IH.out mid e b d _ (by omega) S1.out (by omega) q3.1 q3.2 (by omega)
                      rw [hz2] at hC
                      have HCC := Lib.hid hC; clear hC
                      first
                      | (exfalso; omega)
                      | (go_wp2_with fail
                         refine HCC.out.mono ?_; rintro ee w5 ⟨rfl, hS⟩
                         have S5 : Aside _ := hS; clear hS
                         go_wp2_with fail
                         go_end0
                         refine ⟨rfl, ?_⟩
                         rw [HF.out, if_pos q3]
                         exact S5.out)
                    · have q3' : (mid : Int) < (e : Int) → ¬ (e : Int) < (b : Int) := fun h1 h2 => q3 ⟨by omega, by omega⟩
                      by_cases q3a : (mid : Int) < (e : Int)
                      · have q3b := q3' q3a
                        go_wp2_with fail
                        all_goals (go_end0; refine ⟨rfl, ?_⟩; rw [HF.out, if_neg q3]; exact S1.out)
                      · go_wp2_with fail
                        all_goals (go_end0; refine ⟨rfl, ?_⟩; rw [HF.out, if_neg q3]; exact S1.out)
end
end Go.Proofs.Ytfabhdadckohdaa
