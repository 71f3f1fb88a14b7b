import Derived.Test.YtpcmofhmhggcoaaDoorC
import Derived.Deep.QuietTactic
import Derived.StillTailTactics
set_option linter.all false
set_option maxRecDepth 100000
namespace Go.Proofs.YtpcmofhmhggcoaaDoor
open Go.RowKit
/-- a list of lists of ints, read -/
def RowsV (W : World) (B : Nat) : List Value → List (List Int) → Prop
  | [], [] => True
  | v :: vs, l :: ls => (∃ A cap, v = .slice A l.length cap ∧ ReadsI W B A l ∧ l.length ≤ maxLen) ∧ RowsV W B vs ls
  | _, _ => False
theorem RowsV.at_ {W : World} {B : Nat} : ∀ (vs : List Value) (ls : List (List Int)), RowsV W B vs ls → ∀ (k : Nat) (h : k < ls.length), ∃ A cap, vs[k]? = some (.slice A ls[k].length cap) ∧ ReadsI W B A ls[k] ∧ ls[k].length ≤ maxLen
  | [], [], _, k, h => by simp at h
  | v :: vs, l :: ls, hr, k, h => by
    cases k with
    | zero => obtain ⟨A, cap, rfl, h1⟩ := hr.1; exact ⟨A, cap, rfl, h1⟩
    | succ k => simpa using RowsV.at_ vs ls hr.2 k (by simpa using h)
  | [], _ :: _, hr, _, _ => hr.elim
  | _ :: _, [], hr, _, _ => hr.elim
set_option maxHeartbeats 1000000 in
theorem rows_any (A B : Option Addr) (ca cb : Nat) (xs ys : List (List Int)) (vx vy : List Value) (w : World) (ha : Reads w w.heap.size 1 A xs.length vx) (hb : Reads w w.heap.size 1 B ys.length vy)
    (hx : RowsV w w.heap.size vx xs) (hy : RowsV w w.heap.size vy ys) (hla : xs.length ≤ maxLen) :
    Calls Tryd.prog 10 #[.slice A xs.length ca, .slice B ys.length cb] w fun e w' => e = .returned (.bool (decide (xs = ys))) ∧ ∃ n, w' = w.drewN n := by
  unfold maxLen at hla
  have HA := Lib.hid ha; have HB := Lib.hid hb; have HX := Lib.hid hx; have HY := Lib.hid hy
  clear ha hb hx hy
  by_cases hl : xs.length = ys.length
  · have HL := Lib.hid hl
    have hlb : ((xs.length : Int) != (ys.length : Int)) = false := by simp; omega
    clear hl
    go_enter Tryd.func10, Tryd.ntmps10
    go_wp2_with fail
    go_loopw [5] (fun i wr => ∃ k n : Nat, k ≤ xs.length ∧ i = .int .i64 k ∧ xs.take k = ys.take k ∧ wr = w.drewN n) (fun i _ => xs.length - (intOf i).toNat)
    case atStart => exact ⟨0, 0, Nat.zero_le _, rfl, rfl, rfl⟩
    case round =>
      obtain ⟨k, n, hk, rfl, he, rfl⟩ := hrel
      have HE := Lib.hid he; clear he
      by_cases hlt : k < xs.length
      · have hlt2 : k < ys.length := HL.out ▸ hlt
        obtain ⟨A1, c1, hv1, hr1, hm1⟩ := RowsV.at_ vx xs HX.out k hlt
        obtain ⟨A2, c2, hv2, hr2, hm2⟩ := RowsV.at_ vy ys HY.out k hlt2
        obtain ⟨b1, o1, rfl, _, hc1⟩ := HA.out.2 (by omega)
        obtain ⟨b2, o2, rfl, _, hc2⟩ := HB.out.2 (by omega)
        have d1 := hc1 k _ hv1
        have d2 := hc2 k _ hv2
        have HI : ∀ m, Hid (Calls Tryd.prog 31 #[.slice A1 xs[k].length c1, .slice A2 ys[k].length c2] (w.drewN m) fun e w' => e = .returned (.bool (decide (xs[k] = ys[k]))) ∧ ∃ n, w' = (w.drewN m).drewN n) := fun m => by
          show Calls _ _ _ _ _
          exact ints_any A1 A2 c1 c2 xs[k] ys[k] (w.drewN m) (hr1.drewN m) (hr2.drewN m) hm1
        clear hc1 hc2 hv1 hv2 hr1 hr2
        have HIN := HI (n + 1)
        have i1 : (k : Int) < (xs.length : Int) := by omega
        have i2 : (k : Int) < (ys.length : Int) := by omega
        have i0 : (0 : Int) ≤ (k : Int) := by omega
        cases hd : decide (xs[k] = ys[k])
        · rw [hd] at HIN
          have HD := Lib.hid hd; clear hd
          go_wp2_with fail
          refine wp_region_still_tail 8 (by kernel_rfl) (by kernel_rfl) ?_
          simp only [List.take_succ_cons, List.take_zero, List.drop_succ_cons, List.drop_zero]
          change wpStill _ _ (w.drewN (n + 1)) _ _ _
          repeat still_step
          refine wpStill_nil ?_
          change wpList _ _ _ _ _ (w.drewN (n + 1))
          go_wp2_with fail
          refine HIN.mono ?_; rintro e w' ⟨rfl, n2, rfl⟩
          go_wp2
          go_ret
          refine ⟨?_, _, rfl⟩
          have : xs ≠ ys := by rintro rfl; have := HD.out; simp at this
          simp [this]
        · rw [hd] at HIN
          have HD := Lib.hid hd; clear hd
          go_wp2_with fail
          refine wp_region_still_tail 8 (by kernel_rfl) (by kernel_rfl) ?_
          simp only [List.take_succ_cons, List.take_zero, List.drop_succ_cons, List.drop_zero]
          change wpStill _ _ (w.drewN (n + 1)) _ _ _
          repeat still_step
          refine wpStill_nil ?_
          change wpList _ _ _ _ _ (w.drewN (n + 1))
          go_wp2_with fail
          refine HIN.mono ?_; rintro e w' ⟨rfl, n2, rfl⟩
          go_wp2
          go_roundw
          case rel => exact ⟨k+1, _, by omega, by go_num, take_succ_eq hlt hlt2 HE.out (of_decide_eq_true HD.out), rfl⟩
          case measure => simp [intOf]; omega
      · go_wp2
        go_ret
        refine ⟨?_, n, rfl⟩
        have h := HE.out
        have h2 := HL.out
        rw [List.take_of_length_le (by omega), List.take_of_length_le (by omega)] at h
        simp [h]
  · have hlb : ((xs.length : Int) != (ys.length : Int)) = true := by simp; omega
    go_enter Tryd.func10, Tryd.ntmps10
    go_wp2
    go_ret
    refine ⟨?_, 0, rfl⟩
    have : xs ≠ ys := by rintro rfl; exact hl rfl
    simp [this]
end Go.Proofs.YtpcmofhmhggcoaaDoor
