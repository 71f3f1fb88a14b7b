import Derived.Test.YtgnbholhgcbhfaaClo
set_option linter.all false
set_option maxRecDepth 100000
namespace Go.Proofs.Ytgnbholhgcbhfaa
open Go.RowKit
end Go.Proofs.Ytgnbholhgcbhfaa
