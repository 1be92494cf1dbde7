import Derived.Test.YtoeppofkmcdknaaAPSum
import Derived.Test.YtoeppofkmcdknaaAWR03
/- The reference's sum: words of 32 bits kept in 64. -/
namespace Go.Proofs.Ytoeppofkmcdknaa.K
open Go
set_option linter.unusedVariables false
set_option linter.unusedSimpArgs false
def up (x : BitVec 32) : BitVec 64 := x.setWidth 64
end Go.Proofs.Ytoeppofkmcdknaa.K
