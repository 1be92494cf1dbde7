import Derived.Test.YtfnlcnnoedmfiaaAPSha
import Derived.Test.YtfnlcnnoedmfiaaAWLaw20
import Derived.Test.YtfnlcnnoedmfiaaAPNum
/- Package sum: what it reckons is the plain sum of PSha. -/
namespace Go.Proofs.Ytfnlcnnoedmfiaa.K
open Go
set_option linter.unusedVariables false
set_option linter.unusedSimpArgs false
end Go.Proofs.Ytfnlcnnoedmfiaa.K
