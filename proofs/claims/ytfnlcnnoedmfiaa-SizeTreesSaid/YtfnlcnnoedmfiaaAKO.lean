import Derived.Test.YtfnlcnnoedmfiaaAKN
/- append onto a row with room that is still written in place. -/
namespace Go.Proofs.Ytfnlcnnoedmfiaa.K
open Go Go.RowKit
set_option linter.unusedVariables false
set_option linter.unusedSimpArgs false
set_option linter.unusedSectionVars false
variable {P : Program}
end Go.Proofs.Ytfnlcnnoedmfiaa.K
