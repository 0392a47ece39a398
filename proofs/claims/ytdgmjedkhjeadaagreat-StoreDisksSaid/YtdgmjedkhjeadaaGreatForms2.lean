/- Contracts of Parse and Text of the reference, and of same. Conditions: as each statement says. -/
import Derived.Test.YtdgmjedkhjeadaaGreatBuilder
import Derived.Test.YtdgmjedkhjeadaaGreatZip
namespace Go.Proofs.YtdgmjedkhjeadaaGreat
open Go.RowKit
set_option linter.unusedVariables false
set_option linter.unusedSimpArgs false
end Go.Proofs.YtdgmjedkhjeadaaGreat
