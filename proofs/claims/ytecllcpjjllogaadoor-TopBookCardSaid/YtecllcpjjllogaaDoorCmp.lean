import Derived.Test.YtecllcpjjllogaaDoorHP2
import Derived.Test.YtecllcpjjllogaaDoorTl
set_option linter.all false
set_option maxRecDepth 100000
namespace Go.Proofs.YtecllcpjjllogaaDoor
open Go.RowKit
end Go.Proofs.YtecllcpjjllogaaDoor
