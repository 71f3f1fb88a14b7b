import Derived.Test.YtfabhdadckohdaaGR
import Derived.Test.YtfabhdadckohdaaBox
import Derived.Test.YtfabhdadckohdaaFrom
set_option linter.all false
set_option maxRecDepth 100000
namespace Go.Proofs.Ytfabhdadckohdaa
open Go.RowKit
attribute [local go_sem] Oper.semAt_some
end Go.Proofs.Ytfabhdadckohdaa
