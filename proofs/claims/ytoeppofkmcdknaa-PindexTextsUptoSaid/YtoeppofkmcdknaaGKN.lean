import Derived.Test.YtoeppofkmcdknaaGKM
/- A row that is made and is one's own, so that it may be appended to. -/
namespace Go.Proofs.Ytoeppofkmcdknaa.K
open Go Go.RowKit
set_option linter.unusedVariables false
set_option linter.unusedSimpArgs false
set_option linter.unusedSectionVars false
variable {P : Program}
end Go.Proofs.Ytoeppofkmcdknaa.K
