import Derived.Test.YtoiidngnlhhanaaC
import Derived.Deep.QuietTactic
import Derived.StillTailTactics
set_option linter.all false
set_option maxRecDepth 100000
namespace Go.Proofs.Ytoiidngnlhhanaa
open Go.RowKit
end Go.Proofs.Ytoiidngnlhhanaa
