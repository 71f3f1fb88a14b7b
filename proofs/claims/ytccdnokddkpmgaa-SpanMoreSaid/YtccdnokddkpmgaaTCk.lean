import Derived.Test.YtccdnokddkpmgaaGR
import Derived.Test.YtccdnokddkpmgaaBox
import Derived.Test.YtccdnokddkpmgaaFrom
import Derived.Test.YtccdnokddkpmgaaReach
set_option linter.all false
set_option maxRecDepth 100000
namespace Go.Proofs.Ytccdnokddkpmgaa
open Go.RowKit
attribute [local go_sem] Oper.semAt_some
end Go.Proofs.Ytccdnokddkpmgaa
