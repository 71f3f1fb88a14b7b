import Derived.Test.YtbloomegblbpfaaGreatDoorHP2
import Derived.Test.YtbloomegblbpfaaGreatDoorTl
set_option linter.all false
set_option maxRecDepth 100000
namespace Go.Proofs.YtbloomegblbpfaaGreatDoor
open Go.RowKit
end Go.Proofs.YtbloomegblbpfaaGreatDoor
