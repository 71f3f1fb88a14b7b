import Derived.Test.YthmfgnpkbcbkcaaDoorHP2
import Derived.Test.YthmfgnpkbcbkcaaDoorTl
set_option linter.all false
set_option maxRecDepth 100000
namespace Go.Proofs.YthmfgnpkbcbkcaaDoor
open Go.RowKit
end Go.Proofs.YthmfgnpkbcbkcaaDoor
