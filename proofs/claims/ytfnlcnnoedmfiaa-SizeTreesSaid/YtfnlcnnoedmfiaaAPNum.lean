import Derived.Test.YtfnlcnnoedmfiaaAPBase
import Derived.Test.YtfnlcnnoedmfiaaAWLaw20
/- wide.Num (where PWide is not at hand; where it is, this text only imports PWide: see p49). -/
namespace Go.Proofs.Ytfnlcnnoedmfiaa.K
open Go
set_option linter.unusedVariables false
set_option linter.unusedSimpArgs false
end Go.Proofs.Ytfnlcnnoedmfiaa.K
