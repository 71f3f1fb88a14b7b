import Derived.Test.YtnfijblmigjlhaaDoorOA
import Derived.Test.YtnfijblmigjlhaaDoorMask
import Derived.Test.YtnfijblmigjlhaaDoorAdj
/- rows of sets and of lines; the set's functions over models that may be undefined -/
set_option linter.all false
set_option maxRecDepth 100000
namespace Go.Proofs.YtnfijblmigjlhaaDoor
open Go.RowKit
section
variable {W : World} {B : Nat} {L : List Ow} {v : Value}
end
theorem s_of {α : Type} {c : Prop} [Decidable c] {x r : α} (h : (if c then some x else none) = some r) : c ∧ x = r := by
  split at h
  · exact ⟨by assumption, Option.some.inj h⟩
  · cases h
end Go.Proofs.YtnfijblmigjlhaaDoor
