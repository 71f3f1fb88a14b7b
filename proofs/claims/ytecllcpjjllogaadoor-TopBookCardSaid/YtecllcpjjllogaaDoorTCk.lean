import Derived.Test.YtecllcpjjllogaaDoorGR
import Derived.Test.YtecllcpjjllogaaDoorBox
import Derived.Test.YtecllcpjjllogaaDoorFrom
set_option linter.all false
set_option maxRecDepth 100000
namespace Go.Proofs.YtecllcpjjllogaaDoor
open Go.RowKit
attribute [local go_sem] Oper.semAt_some
end Go.Proofs.YtecllcpjjllogaaDoor
