/- The contracts of at, times and Through of the reference. Conditions: as each statement says. -/
import Derived.Test.YtblilfbhohnbgaaGreatShareV
import Derived.Test.YtblilfbhohnbgaaGreatPush2
import Derived.Test.YtblilfbhohnbgaaGreatMath
import Derived.Test.YtblilfbhohnbgaaGreatField
import Derived.Test.YtblilfbhohnbgaaGreatTail
import Derived.Test.YtblilfbhohnbgaaGreatThru
namespace Go.Proofs.YtblilfbhohnbgaaGreat
open Go.RowKit
set_option linter.unusedVariables false
end Go.Proofs.YtblilfbhohnbgaaGreat
