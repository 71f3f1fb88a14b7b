import Derived.Test.YtpcmofhmhggcoaaDoorApart2
import Derived.StillTailTactics
set_option linter.all false
set_option maxRecDepth 100000
namespace Go.Proofs.YtpcmofhmhggcoaaDoor
open Go.RowKit Go.Shelf Pl
attribute [local go_sem] Oper.semAt_some
set_option maxRecDepth 100000 in
set_option maxHeartbeats 4000000 in
theorem apart_ok (n : Int) (A : Option Addr) (cap : Nat) (l : List (Int × Int)) (w : World) (hn : (Lit.int .i64 n).wf = true) (hr : ReadsL w w.heap.size A l) (hl : l.length ≤ maxLen) (he : errG n l = 0) :
    Calls Tryd.prog 12 #[.int .i64 n, .slice A l.length cap] w fun e w' => e = .returned (.tuple #[.int .i64 (mostOf (apartsM n.toNat l) : Nat), .nilIface]) ∧ Below w.heap.size w w' := by
  have H1 := gcheck_any n A cap l w hn hr hl
  rw [he, errV_zero] at H1
  have H := Lib.hid H1
  obtain ⟨k, rfl, hk1, hk8, hl24, hin, hne⟩ := errG_zero he
  have hrow := besM_row hin
  have hpow : 2 ^ k - 1 < 65536 := by
    have := Nat.pow_le_pow_right (n := 2) (by omega) hk8; omega
  have hp2 : ∀ m ∈ besM k l, m < 65536 := fun m hm => by
    have := hrow.2 m hm; have := Nat.pow_le_pow_right (n := 2) (by omega) hk8; omega
  have hmb := memb_below k hk8
  rw [Int.toNat_natCast]
  unfold apartsM
  clear H1 hn he
  go_enter Tryd.func12, Tryd.ntmps12
  go_wp2_with fail
  refine H.out.mono ?_; rintro e w1 ⟨rfl, hb1⟩
  have hs1 : w.heap.size ≤ w1.heap.size := hb1.size
  have HB1 := Lib.hid hb1
  clear hb1
  have hrd : ReadsL w1 w1.heap.size A l := Reads.more (Reads.below hr HB1.out) hs1
  have HBES := Lib.hid (cbes_any k A cap l w1 hk1 hk8 hrd hl hin)
  clear hrd
  go_wp2_with fail
  refine HBES.out.mono ?_; rintro e w2 ⟨rfl, hh, hb2⟩
  have hs2 : w1.heap.size < w2.heap.size := (Array.getElem?_eq_some_iff.1 hh).1
  have hlen : (besM k l).length = k := hrow.1
  generalize hbs : besM k l = bes at *
  have HBS := Lib.hid hbs; clear hbs
  have HB2 := Lib.hid (HB1.out.trans (hb2.mono hs1)); have HH := Lib.hid hh
  clear hb2 hh
  go_wp2_with fail
  go_loopw [8, 21] (fun _ i wr => ∃ j : Nat, j ≤ k ∧ i = .int .i64 j ∧ wr.heap[w1.heap.size]? = some (.cells (maskCells (apTo bes k j)) 55 (0, 0)) ∧ Below w.heap.size w wr) (fun _ i _ => k - (intOf i).toNat)
  case atStart => exact ⟨0, Nat.zero_le _, rfl, HH.out, HB2.out⟩
  case round =>
    obtain ⟨j, hj, rfl, hrow2, hbw⟩ := hrel
    by_cases hlt : j < k
    · obtain ⟨bx, hbx⟩ : ∃ bx, bes[j]? = some bx := ⟨_, List.getElem?_eq_getElem (by omega)⟩
      have hbd : bes.getD j 0 = bx := by simp [List.getD, hbx]
      have hb16 : bx < 65536 := hp2 bx (List.mem_of_getElem? hbx)
      have hcx : wr.cell? ⟨w1.heap.size, j, none⟩ = some (.int .u64 (bx : Int)) := maskCells_at hrow2 (by rw [apTo_later bes k j j (Nat.le_refl _)]; exact hbx)
      have hfx : wr.frozen? ⟨w1.heap.size, j, none⟩ = false := fz hrow2
      have hnd := ndiff_le (2 ^ k - 1) (2 ^ j)
      have a1 : bits .andNot .u64 (ndiff (2 ^ k - 1) (2 ^ j) : Nat) (bx : Int) = ((ndiff (ndiff (2 ^ k - 1) (2 ^ j)) bx : Nat) : Int) := bits_andNot _ _ (by omega) (by omega)
      have HR := Lib.hid hrow2; have HBW := Lib.hid hbw
      clear hrow2 hbw
      go_wp2_with fail
      refine wp_region_still_tail 12 (by kernel_rfl) (by kernel_rfl) ?_
      simp only [List.take_succ_cons, List.take_zero, List.drop_succ_cons, List.drop_zero]
      still_step
      still_step
      still_step
      still_call ((below_any k _ (by omega)).mono (by rintro e w' ⟨rfl, rfl⟩; exact ⟨rfl, rfl⟩))
      still_step
      still_call ((without_any (2 ^ k - 1) j _ (by omega) (by omega)).mono (by rintro e w' ⟨rfl, rfl⟩; exact ⟨rfl, rfl⟩))
      repeat still_step
      try refine wpStill_nil ?_
      change wpList _ _ _ _ _ wr.drew
      go_wp2_with fail
      refine ⟨⟨j + 1, by omega, by simp, ?_, ?_⟩, by simp [intOf] <;> omega⟩
      · rw [apTo, hbd]
        exact maskCells_set HR.out j _
      · exact (HBW.out.setCell (p := ⟨w1.heap.size, j, none⟩) hs1 _).drew
    · have hjk : j = k := by omega
      subst hjk
      have HR := Lib.hid hrow2; have HBW := Lib.hid hbw
      clear hrow2 hbw
      go_wp2_with (go_at_call 27; refine (below_any j _ (by omega)).mono ?_; rintro e w3 ⟨rfl, rfl⟩)
      have hle := HBW.out.size
      have hlt1 : w1.heap.size < wr.heap.size := (Array.getElem?_eq_some_iff.1 HR.out).1
      have hJ : JAp w wr.heap.size [] (wr.alloc (.cells #[.int .i64 0] 3)) := ⟨Boxed.new wr _ _, HBW.out.alloc hle _⟩
      have hol : (othersM bes j).length = j := by unfold othersM; rw [apTo_len]; exact hlen
      have HW0 := whole_ok w.heap.size 33 wr.heap.size (JAp w wr.heap.size) (ap_client w _ hle) w1.heap.size j (othersM bes j) (others_loop bes j hlen) (others_lt bes j hlen hk8) (by rw [hol]; unfold maxLen; omega) 8
        0 (2 ^ j - 1) 0 [] (wr.alloc (.cells #[.int .i64 0] 3)) (by simp; omega) (by simp) (by rw [hmb, List.length_range]; exact hk8) (by omega) hpow (by omega) (by rw [hmb, hol]; intro i hi; exact List.mem_range.1 hi) hJ
        (by unfold RowAt; rw [Below.heap_alloc _ _ _ hlt1]; exact HR.out)
      rw [hol, List.nil_append] at HW0
      have HW := Lib.hid HW0
      clear HW0 hJ
      refine HW.out.mono ?_
      rintro e w3 ⟨⟨v, rfl⟩, ⟨j1, j4⟩, _⟩
      have hc := j1.cell
      have J4 := Lib.hid j4
      clear j1 j4
      go_wp2
      go_ret2
      exact ⟨by rw [HBS.out]; rfl, J4.out⟩
set_option maxRecDepth 100000 in
set_option maxHeartbeats 4000000 in
theorem apart_err (n : Int) (A : Option Addr) (cap : Nat) (l : List (Int × Int)) (w : World) (hn : (Lit.int .i64 n).wf = true) (hr : ReadsL w w.heap.size A l) (hl : l.length ≤ maxLen) (he : errG n l ≠ 0) :
    Calls Tryd.prog 12 #[.int .i64 n, .slice A l.length cap] w fun e w' => e = .returned (.tuple #[.int .i64 0, .iface 59 (.int .i64 (errG n l))]) ∧ Below w.heap.size w w' := by
  have H1 := gcheck_any n A cap l w hn hr hl
  rw [errV_pos _ he] at H1
  have H := Lib.hid H1
  clear H1 hn hr
  generalize errG n l = c at *
  go_enter Tryd.func12, Tryd.ntmps12
  go_wp2_with fail
  refine H.out.mono ?_; rintro e w1 ⟨rfl, hb1⟩
  go_wp2
  go_ret2
  exact ⟨rfl, hb1⟩
end Go.Proofs.YtpcmofhmhggcoaaDoor
