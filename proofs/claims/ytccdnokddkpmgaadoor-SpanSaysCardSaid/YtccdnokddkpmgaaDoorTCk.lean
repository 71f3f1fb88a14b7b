import Derived.Test.YtccdnokddkpmgaaDoorGR
import Derived.Test.YtccdnokddkpmgaaDoorBox
import Derived.Test.YtccdnokddkpmgaaDoorFrom
set_option linter.all false
set_option maxRecDepth 100000
namespace Go.Proofs.YtccdnokddkpmgaaDoor
open Go.RowKit
attribute [local go_sem] Oper.semAt_some
end Go.Proofs.YtccdnokddkpmgaaDoor
