import Derived.Test.YtfabhdadckohdaaBSt
set_option linter.all false
set_option maxRecDepth 100000
namespace Go.Proofs.Ytfabhdadckohdaa
open Go.RowKit
theorem litB_ok (W : World) (l : List Bool) (hl : l.length ≤ maxLen) : (owB (.slice (some ⟨W.heap.size, 0, none⟩) l.length l.length) l).ok (W.alloc (.cells (boolV l).toArray 4)) W.heap.size := by
  have := own_lit (w := W) (base := W.heap.size) (n := l.length) (e := 4) (boolV l).toArray 1 (by simp [boolV]) (Nat.le_refl _) hl
  simpa [Ow.ok, owB, boolV] using this
end Go.Proofs.Ytfabhdadckohdaa
