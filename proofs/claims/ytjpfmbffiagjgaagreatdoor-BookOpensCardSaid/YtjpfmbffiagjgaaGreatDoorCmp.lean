import Derived.Test.YtjpfmbffiagjgaaGreatDoorHP2
import Derived.Test.YtjpfmbffiagjgaaGreatDoorTl
set_option linter.all false
set_option maxRecDepth 100000
namespace Go.Proofs.YtjpfmbffiagjgaaGreatDoor
open Go.RowKit
end Go.Proofs.YtjpfmbffiagjgaaGreatDoor
