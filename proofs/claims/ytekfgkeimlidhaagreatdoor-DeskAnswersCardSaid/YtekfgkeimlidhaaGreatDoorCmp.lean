import Derived.Test.YtekfgkeimlidhaaGreatDoorHP2
import Derived.Test.YtekfgkeimlidhaaGreatDoorTl
set_option linter.all false
set_option maxRecDepth 100000
namespace Go.Proofs.YtekfgkeimlidhaaGreatDoor
open Go.RowKit
end Go.Proofs.YtekfgkeimlidhaaGreatDoor
