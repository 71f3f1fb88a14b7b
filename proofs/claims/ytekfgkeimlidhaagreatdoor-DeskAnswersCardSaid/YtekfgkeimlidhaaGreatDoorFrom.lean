import Derived.Test.YtekfgkeimlidhaaGreatDoorBox
import Derived.Test.YtekfgkeimlidhaaGreatDoorTl
import Derived.Test.YtekfgkeimlidhaaGreatDoorGR
set_option linter.all false
set_option maxRecDepth 100000
namespace Go.Proofs.YtekfgkeimlidhaaGreatDoor
open Go.RowKit
attribute [local go_sem] Oper.semAt_some
end Go.Proofs.YtekfgkeimlidhaaGreatDoor
set_option linter.all false
set_option maxRecDepth 100000
namespace Go.Proofs.YtekfgkeimlidhaaGreatDoor
open Go.RowKit
attribute [local go_sem] Oper.semAt_some
end Go.Proofs.YtekfgkeimlidhaaGreatDoor
