import Derived.Test.YtoiidngnlhhanaaMost
set_option linter.all false
set_option maxRecDepth 100000
namespace Go.Proofs.Ytoiidngnlhhanaa
open Go.RowKit Go.Shelf Pl
attribute [local go_sem] Oper.semAt_some
end Go.Proofs.Ytoiidngnlhhanaa
