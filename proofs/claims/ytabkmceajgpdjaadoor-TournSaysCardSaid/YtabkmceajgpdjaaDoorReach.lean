import Derived.Test.YtabkmceajgpdjaaDoorBox
import Derived.Test.YtabkmceajgpdjaaDoorTl
set_option linter.all false
set_option maxRecDepth 100000
namespace Go.Proofs.YtabkmceajgpdjaaDoor
open Go.RowKit
attribute [local go_sem] Oper.semAt_some
end Go.Proofs.YtabkmceajgpdjaaDoor
