import Derived.Test.YthmfgnpkbcbkcaaDoorBox
import Derived.Test.YthmfgnpkbcbkcaaDoorTl
import Derived.Test.YthmfgnpkbcbkcaaDoorGR
set_option linter.all false
set_option maxRecDepth 100000
namespace Go.Proofs.YthmfgnpkbcbkcaaDoor
open Go.RowKit
attribute [local go_sem] Oper.semAt_some
end Go.Proofs.YthmfgnpkbcbkcaaDoor
set_option linter.all false
set_option maxRecDepth 100000
namespace Go.Proofs.YthmfgnpkbcbkcaaDoor
open Go.RowKit
attribute [local go_sem] Oper.semAt_some
end Go.Proofs.YthmfgnpkbcbkcaaDoor
