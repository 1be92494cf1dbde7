/- Package rlp: what was laid is read again. -/
import Derived.Test.YtfnlcnnoedmfiaaAPRlp2
namespace Go.Proofs.Ytfnlcnnoedmfiaa.K
open Go Go.RowKit
set_option linter.unusedSimpArgs false
set_option linter.unusedVariables false
end Go.Proofs.Ytfnlcnnoedmfiaa.K
