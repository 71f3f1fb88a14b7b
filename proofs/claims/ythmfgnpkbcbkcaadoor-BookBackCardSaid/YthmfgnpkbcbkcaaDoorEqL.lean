import Derived.Test.YthmfgnpkbcbkcaaDoorTl
import Derived.Laws.StructEq
/- two lines compared -/
set_option linter.all false
set_option maxRecDepth 100000
namespace Go.Proofs.YthmfgnpkbcbkcaaDoor
open Go.RowKit
theorem eqLine (a b c d : Int) (w : World) : (Op.equalIn 10000 49 (.agg #[.int .i64 a, .int .i64 b]) (.agg #[.int .i64 c, .int .i64 d])).run Tryd.prog w = .ok (a == c && b == d) w := by
  have u3 := Tryd.underlying3
  have a3 := Tryd.isAgg3
  have z3 := Tryd.sizeOf3
  have hS : Tryd.prog.underlying 49 = some (.struct (Tryd.prog.fieldsOf 49)) := by kernel_rfl
  rw [show (10000 : Nat) = 9999 + 1 from rfl, run_equalIn_agg w 9999 49 _ _ hS (by kernel_rfl)]
  simp only [Program.fieldsOf, Tryd.underlying49]
  go_simp
  by_cases h1 : a = c <;> by_cases h2 : b = d <;> simp [h1, h2]
theorem guardLine : Tryd.prog.eqGuardType Tryd.prog.depth 49 = false := by kernel_rfl
theorem pairEq (y z : Int × Int) : (y.1 == z.1 && y.2 == z.2) = (y == z) := by
  rcases y with ⟨a, b⟩; rcases z with ⟨c, d⟩
  rfl
theorem pairNe (y z : Int × Int) : (!(y == z)) = (y != z) := rfl
end Go.Proofs.YthmfgnpkbcbkcaaDoor
