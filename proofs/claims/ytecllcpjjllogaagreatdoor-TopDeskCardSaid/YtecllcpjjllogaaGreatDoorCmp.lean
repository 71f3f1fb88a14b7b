import Derived.Test.YtecllcpjjllogaaGreatDoorHP2
import Derived.Test.YtecllcpjjllogaaGreatDoorTl
set_option linter.all false
set_option maxRecDepth 100000
namespace Go.Proofs.YtecllcpjjllogaaGreatDoor
open Go.RowKit
end Go.Proofs.YtecllcpjjllogaaGreatDoor
