import Derived.Test.YtoiidngnlhhanaaAll1
import Derived.Test.YtoiidngnlhhanaaAdj
import Derived.Test.YtoiidngnlhhanaaL1
import Derived.Laws.EntriesVeiled
set_option linter.all false
set_option maxRecDepth 100000
namespace Go.Proofs.Ytoiidngnlhhanaa
open Go.RowKit Go.Shelf Pl
attribute [local go_sem] Oper.semAt_some
theorem all_client (w0 : World) (p : Nat) (hp : w0.heap.size ≤ p) : Client w0.heap.size 35 p (JAll w0 p) where
  enters := enters_of Try.func35 (by kernel_rfl) rfl
  keep := fun pre W W' ⟨v, vs, h1, h2, h3, h4⟩ hk => ⟨v, vs, hk.cells _ _ _ _ tn1 h1, hk.own tn2 h2, RowsR.imp (fun v' n xs h => hk.own tn3 h) _ _ h3, hk.below h4 (Nat.le_refl _)⟩
  call := fun pre s W hs hl hJ => all1_any w0 p hp pre s W hs hl hJ
/-- the sets that no point can join -/
def cliquesM (k : Nat) (l : List (Int × Int)) : List Nat := wholeM (besM k l) 8 0 (2 ^ k - 1) 0
theorem memb_below : ∀ k ≤ 8, memb (2 ^ k - 1) = List.range k := by decide
set_option maxRecDepth 100000 in
set_option maxHeartbeats 4000000 in
theorem all_err (n : Int) (A : Option Addr) (cap : Nat) (l : List (Int × Int)) (w : World) (hn : (Lit.int .i64 n).wf = true) (hr : ReadsL w w.heap.size A l) (hl : l.length ≤ maxLen) (he : errG n l ≠ 0) :
    Calls Try.prog 24 #[.int .i64 n, .slice A l.length cap] w fun e w' => e = .returned (.tuple #[.slice none 0 0, .iface 45 (.int .i64 (errG n l))]) ∧ Below w.heap.size w w' := by
  have H1 := gcheck_any n A cap l w hn hr hl
  rw [errV_pos _ he] at H1
  have H := Lib.hid H1
  clear H1 hn hr
  generalize errG n l = c at *
  go_enter Try.func24, Try.ntmps24
  go_wp2_with fail
  refine H.out.mono ?_; rintro e w1 ⟨rfl, hb1⟩
  go_wp2
  go_ret2
  exact ⟨rfl, hb1⟩
set_option maxRecDepth 100000 in
set_option maxHeartbeats 4000000 in
theorem all_ok (n : Int) (A : Option Addr) (cap : Nat) (l : List (Int × Int)) (w : World) (hn : (Lit.int .i64 n).wf = true) (hr : ReadsL w w.heap.size A l) (hl : l.length ≤ maxLen) (he : errG n l = 0) :
    Calls Try.prog 24 #[.int .i64 n, .slice A l.length cap] w fun e w' => ∃ v vs, e = .returned (.tuple #[v, .nilIface]) ∧ w'.ownsRow w.heap.size 23 1 v (cliquesM n.toNat l).length vs ∧ RowsR w' w.heap.size vs ((cliquesM n.toNat l).map membI) ∧ Below w.heap.size w w' := by
  have H1 := gcheck_any n A cap l w hn hr hl
  rw [he, errV_zero] at H1
  have H := Lib.hid H1
  obtain ⟨k, rfl, hk1, hk8, hl24, hin, hne⟩ := errG_zero he
  have hrow := besM_row hin
  have hpow : 2 ^ k - 1 < 65536 := by
    have := Nat.pow_le_pow_right (n := 2) (by omega) hk8; omega
  have hp2 : ∀ m ∈ besM k l, m < 65536 := fun m hm => by
    have := hrow.2 m hm; have := Nat.pow_le_pow_right (n := 2) (by omega) hk8; omega
  clear H1 hn he
  go_enter Try.func24, Try.ntmps24
  go_wp2_with fail
  refine H.out.mono ?_; rintro e w1 ⟨rfl, hb1⟩
  have hs1 : w.heap.size ≤ w1.heap.size := hb1.size
  have HB1 := Lib.hid hb1
  clear hb1
  have hrd : ReadsL (w1.alloc (.cells #[.slice none 0 0] 52)) (w1.alloc (.cells #[.slice none 0 0] 52)).heap.size A l := by
    have h1 : ReadsL w1 w.heap.size A l := Reads.below hr HB1.out
    have h2 : ReadsL (w1.alloc (.cells #[.slice none 0 0] 52)) w.heap.size A l := Reads.below h1 ((Below.refl _ w1).alloc hs1 _)
    exact Reads.more h2 (by simp; omega)
  have HBES := Lib.hid (cbes_any k A cap l _ hk1 hk8 hrd hl hin)
  clear hrd
  go_wp2_with (go_at_call 12; refine (below_any k _ (by omega)).mono ?_; rintro e w3 ⟨rfl, rfl⟩)
  refine HBES.out.mono ?_; rintro e w2 ⟨rfl, hh, hb2⟩
  have hJ : JAll w w1.heap.size [] w2 := by
    have hbx : Boxed (w1.alloc (.cells #[.slice none 0 0] 52)) w1.heap.size 52 (.slice none 0 0) := Boxed.new w1 _ _
    refine ⟨_, [], ?_, World.ownsRow_nil _ _ _ _, trivial, (HB1.out.alloc hs1 _).trans (hb2.mono (by simp; omega))⟩
    exact (hb2.block _ (by simp)).trans hbx
  have hsz2 : w.heap.size ≤ w2.heap.size := by have := hb2.size; simp at this; omega
  have hmb := memb_below k hk8
  have HW0 := whole_ok w.heap.size 35 w1.heap.size (JAll w w1.heap.size) (all_client w _ hs1) (w1.alloc (.cells #[.slice none 0 0] 52)).heap.size k (besM k l) (besM_ne hin hne) hp2 (by rw [hrow.1]; unfold maxLen; omega) 8
    0 (2 ^ k - 1) 0 [] w2 hsz2 (by simp) (by rw [hmb, List.length_range]; exact hk8) (by omega) hpow (by omega) (by rw [hmb, hrow.1]; intro i hi; exact List.mem_range.1 hi) hJ hh
  rw [hrow.1, World.size_alloc, List.nil_append] at HW0
  have HW := Lib.hid HW0
  clear HW0 hJ hh hb2
  go_wp2_with (go_at_call 12; refine (below_any k _ (by omega)).mono ?_; rintro e w3 ⟨rfl, rfl⟩)
  refine HW.out.mono ?_
  rintro e w3 ⟨⟨v, rfl⟩, ⟨vv, vs, j1, j2, j3, j4⟩, _⟩
  have hc := j1.cell
  have J2 := Lib.hid j2; have J3 := Lib.hid j3; have J4 := Lib.hid j4
  clear j1 j2 j3 j4
  go_wp2
  go_ret2
  exact ⟨vv, vs, rfl, J2.out, J3.out, J4.out⟩
end Go.Proofs.Ytoiidngnlhhanaa
