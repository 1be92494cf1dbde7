import Derived.Test.YtoeppofkmcdknaaGPPin6
/- PindexDoes holds. -/
namespace Go.Proofs.Ytoeppofkmcdknaa.K
open Go
set_option linter.unusedVariables false
set_option linter.unusedSimpArgs false
end Go.Proofs.Ytoeppofkmcdknaa.K
