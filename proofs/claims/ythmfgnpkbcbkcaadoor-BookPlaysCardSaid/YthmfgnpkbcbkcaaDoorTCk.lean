import Derived.Test.YthmfgnpkbcbkcaaDoorGR
import Derived.Test.YthmfgnpkbcbkcaaDoorBox
import Derived.Test.YthmfgnpkbcbkcaaDoorFrom
set_option linter.all false
set_option maxRecDepth 100000
namespace Go.Proofs.YthmfgnpkbcbkcaaDoor
open Go.RowKit
attribute [local go_sem] Oper.semAt_some
end Go.Proofs.YthmfgnpkbcbkcaaDoor
