/- Contracts of Parse and Text of the reference, and of same. Conditions: as each statement says. -/
import Derived.Test.YtblilfbhohnbgaaGreatBuilder
import Derived.Test.YtblilfbhohnbgaaGreatZip
namespace Go.Proofs.YtblilfbhohnbgaaGreat
open Go.RowKit
set_option linter.unusedVariables false
set_option linter.unusedSimpArgs false
end Go.Proofs.YtblilfbhohnbgaaGreat
