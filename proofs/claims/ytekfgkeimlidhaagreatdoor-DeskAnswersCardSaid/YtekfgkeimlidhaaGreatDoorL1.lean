import Derived.Test.YtekfgkeimlidhaaGreatDoorL0
set_option linter.all false
set_option maxRecDepth 100000
namespace Go.Proofs.YtekfgkeimlidhaaGreatDoor
open Go.RowKit
def errV (t : TypeId) (n : Int) : Value := if n = 0 then .nilIface else .iface t (.int .i64 n)
theorem errV_zero (t : TypeId) : errV t 0 = .nilIface := rfl
theorem errV_pos (t : TypeId) {n : Int} (h : n ≠ 0) : errV t n = .iface t (.int .i64 n) := by unfold errV; rw [if_neg h]
theorem ret_v {a b : Value} (h : a = b) : Ending.returned a = .returned b := by rw [h]
theorem inAll2 (x y a b : Int) : inAll [x, y] a b = (decide (a ≤ x ∧ x ≤ b) && decide (a ≤ y ∧ y ≤ b)) := by simp [inAll]
/-- core.All of two -/
theorem call2_any (x y b : Int) (w : World) (t : Bool) (h : inAll [x, y] 0 b = t) (B : Nat) (hB : B = w.heap.size) :
    Calls Tryz.prog 61 #[.slice (some ⟨B, 0, none⟩) 2 2, .int .i64 0, .int .i64 b] (w.alloc (.cells #[.int .i64 x, .int .i64 y] 3)) fun e w' => e = .returned (.bool t) ∧ (w.alloc (.cells #[.int .i64 x, .int .i64 y] 3)) = w' :=
  hB ▸ (call_any (some ⟨w.heap.size, 0, none⟩) 2 [x, y] 0 b _ (lit_reads [x, y] 3 w) (show 2 ≤ maxLen by decide)).mono fun e w' ⟨h1, h2⟩ => ⟨by rw [h1, h], h2⟩
end Go.Proofs.YtekfgkeimlidhaaGreatDoor
