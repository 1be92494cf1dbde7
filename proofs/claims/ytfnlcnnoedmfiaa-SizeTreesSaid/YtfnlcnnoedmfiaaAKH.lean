import Derived.Test.YtfnlcnnoedmfiaaAKG
/- Calls by laws that touch owned blocks, as operations of a drawn region. -/
namespace Go.Proofs.Ytfnlcnnoedmfiaa.K
open Go Go.RowKit
set_option linter.unusedVariables false
set_option linter.unusedSimpArgs false
set_option linter.unusedSectionVars false
variable {P : Program}
end Go.Proofs.Ytfnlcnnoedmfiaa.K
