import Derived.Test.YtfnlcnnoedmfiaaAKH
/- New rows: made with room, made of parts as one's own; pointers against nil. -/
namespace Go.Proofs.Ytfnlcnnoedmfiaa.K
open Go Go.RowKit
set_option linter.unusedVariables false
set_option linter.unusedSimpArgs false
set_option linter.unusedSectionVars false
variable {P : Program}
end Go.Proofs.Ytfnlcnnoedmfiaa.K
