import Derived.Test.YthmfgnpkbcbkcaaDoorAs
import Derived.LaidLaws
import Derived.LaidHandle
set_option linter.all false
set_option maxRecDepth 100000
namespace Go.Proofs.YthmfgnpkbcbkcaaDoor
open Go.RowKit Go.Extern.Stop Go.Stop Go.Extern
/-- the cell of errors.errorType -/
def TyCell (w : World) : Prop := w.cell? ⟨0, 0, none⟩ = some (.iface 108 (.agg #[.pointer (some ⟨9, 29, none⟩)]))
theorem TyCell.lt {w : World} (h : TyCell w) : 0 < w.heap.size := by
  rcases Nat.eq_zero_or_pos w.heap.size with h0 | h1
  · unfold TyCell at h; simp [World.cell?, h0] at h
  · exact h1
theorem TyCell.below {w w' : World} (h : TyCell w) (hb : Below w.heap.size w w') : TyCell w' := (hb.cell (p := ⟨0, 0, none⟩) h.lt).trans h
theorem TyCell.below' {B : Nat} {w w' : World} (h : TyCell w) (hb : Below B w w') (hB : 0 < B) : TyCell w' := (hb.cell (p := ⟨0, 0, none⟩) hB).trans h
theorem told_nil (w : World) :
    Calls Tryd.prog 30 #[.nilIface] w fun e w' => e = .returned (.int .i64 0) ∧ w = w' := by
  go_enter Tryd.func30, Tryd.ntmps30
  go_wp2
  go_ret
  exact ⟨rfl, rfl⟩
set_option maxHeartbeats 4000000 in
theorem told_hit (n : Int) (w : World) (hg : TyCell w) :
    Calls Tryd.prog 30 #[.iface 64 (.int .i64 n)] w fun e w' => e = .returned (.int .i64 n) ∧ Below w.heap.size w w' := by
  have hgA : (w.alloc (.cells #[.int .i64 0] 64)).cell? ⟨0, 0, none⟩ = some (.iface 108 (.agg #[.pointer (some ⟨9, 29, none⟩)])) := by
    rw [World.cell?_alloc_lt _ _ ⟨0, 0, none⟩ hg.lt]; exact hg
  have HA := as_hit n ⟨w.heap.size, 0, none⟩ (.int .i64 0) _ hgA (by simp) (by simp)
  have HA' := Lib.hid HA
  clear HA hgA
  go_enter Tryd.func30, Tryd.ntmps30
  go_wp2_with fail
  refine HA'.out.mono ?_; rintro e w' ⟨rfl, rfl⟩
  go_wp2_with fail
  go_ret
  refine ⟨rfl, ?_⟩
  exact ((((((Below.refl _ _).alloc (Nat.le_refl _) _).alloc (by simp) _).alloc (by simp; omega) _).alloc (by simp; omega) _).alloc (by simp; omega) _)
/-- E.Error(err, e) for the nil error -/
theorem same_error_nil (k : Int) (w : World) :
    Calls Tryd.prog 14 #[.nilIface, .int .i64 k] w fun e w' => e = .returned (.bool (decide (0 = k))) ∧ w = w' := by
  by_cases h : 0 = k
  all_goals
    go_enter Tryd.func14, Tryd.ntmps14
    go_wp2_with (go_at_call 30; refine (told_nil _).mono ?_; rintro e w' ⟨rfl, rfl⟩)
    go_ret
    exact ⟨by simp [h], rfl⟩
theorem same_error_hit (n k : Int) (w : World) (hg : TyCell w) :
    Calls Tryd.prog 14 #[.iface 64 (.int .i64 n), .int .i64 k] w fun e w' => e = .returned (.bool (decide (n = k))) ∧ Below w.heap.size w w' := by
  go_enter Tryd.func14, Tryd.ntmps14
  go_wp2_with fail
  refine (told_hit n w hg).mono ?_; rintro e w' ⟨rfl, hb⟩
  have HB := Lib.hid hb; clear hb
  go_wp2_with fail
  go_ret
  exact ⟨by rw [show decide (n = k) = (n == k) from by rw [Bool.eq_iff_iff]; simp]; rfl, HB.out⟩
end Go.Proofs.YthmfgnpkbcbkcaaDoor
