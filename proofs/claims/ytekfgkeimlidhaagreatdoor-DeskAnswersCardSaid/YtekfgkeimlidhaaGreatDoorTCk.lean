import Derived.Test.YtekfgkeimlidhaaGreatDoorGR
import Derived.Test.YtekfgkeimlidhaaGreatDoorBox
import Derived.Test.YtekfgkeimlidhaaGreatDoorFrom
set_option linter.all false
set_option maxRecDepth 100000
namespace Go.Proofs.YtekfgkeimlidhaaGreatDoor
open Go.RowKit
attribute [local go_sem] Oper.semAt_some
end Go.Proofs.YtekfgkeimlidhaaGreatDoor
