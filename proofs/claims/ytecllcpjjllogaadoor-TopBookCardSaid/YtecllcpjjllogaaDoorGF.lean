import Derived.Test.YtecllcpjjllogaaDoorGR
set_option linter.all false
set_option maxRecDepth 100000
namespace Go.Proofs.YtecllcpjjllogaaDoor
open Go.RowKit
end Go.Proofs.YtecllcpjjllogaaDoor
