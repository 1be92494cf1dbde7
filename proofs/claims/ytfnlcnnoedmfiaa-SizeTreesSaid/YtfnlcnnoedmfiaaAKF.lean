import Derived.Test.YtfnlcnnoedmfiaaAKE
/- Structs and arrays held against each other. -/
namespace Go.Proofs.Ytfnlcnnoedmfiaa.K
open Go Go.RowKit
set_option linter.unusedVariables false
set_option linter.unusedSimpArgs false
set_option linter.unusedSectionVars false
variable {P : Program}
end Go.Proofs.Ytfnlcnnoedmfiaa.K
