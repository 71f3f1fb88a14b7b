import Derived.Test.YthmfgnpkbcbkcaaDoorTold
import Derived.Test.YthmfgnpkbcbkcaaDoorL1
set_option linter.all false
set_option maxRecDepth 100000
namespace Go.Proofs.YthmfgnpkbcbkcaaDoor
open Go.RowKit
def mErr (c k : Int) : Option Bool := some (decide (c = k))
theorem mErr_ok {c k : Int} {r : Bool} (w : World) (htc : TyCell w) (h : mErr c k = some r) :
    Calls Tryd.prog 14 #[errV 64 c, .int .i64 k] w fun e w' => e = .returned (.bool r) ∧ Below w.heap.size w w' := by
  obtain rfl := Option.some.inj h
  by_cases hc : c = 0
  · subst hc
    rw [errV_zero]
    exact (same_error_nil k w).mono fun e w' ⟨h1, h2⟩ => ⟨h1, h2 ▸ Below.refl _ _⟩
  · rw [errV_pos _ hc]
    exact same_error_hit c k w htc
theorem TyCell.go {w W : World} (h : TyCell w) (hb : Below w.heap.size w W) : TyCell W := h.below hb
end Go.Proofs.YthmfgnpkbcbkcaaDoor
