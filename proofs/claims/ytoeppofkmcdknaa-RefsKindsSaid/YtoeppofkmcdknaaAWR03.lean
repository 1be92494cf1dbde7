/- The reference of layer 03: what it reckons. -/
import Derived.Test.YtoeppofkmcdknaaAWSum
import Derived.KernelRfl
namespace Go.Proofs.Ytoeppofkmcdknaa.K
open Go Go.RowKit
set_option linter.unusedSimpArgs false
set_option linter.unusedVariables false
set_option maxRecDepth 20000
set_option maxHeartbeats 4000000
namespace TT
end TT
end Go.Proofs.Ytoeppofkmcdknaa.K
