import Derived.Test.YtoeppofkmcdknaaAPR03
/- The reference's sum is the plain one. -/
namespace Go.Proofs.Ytoeppofkmcdknaa.K
open Go
set_option linter.unusedVariables false
set_option linter.unusedSimpArgs false
end Go.Proofs.Ytoeppofkmcdknaa.K
