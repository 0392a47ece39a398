/- Contracts of kept, zip and Xor. Conditions: as each statement says. -/
import Derived.Test.YtblilfbhohnbgaaGreatBits2
import Derived.Test.YtblilfbhohnbgaaGreatApp
import Derived.Test.YtblilfbhohnbgaaGreatField
import Derived.Test.YtblilfbhohnbgaaGreatMath
namespace Go.Proofs.YtblilfbhohnbgaaGreat
open Go.RowKit
set_option linter.unusedVariables false
set_option linter.unusedSimpArgs false
section
variable {w key : Nat} (hw : IsW w) (hk : key < 2 ^ w)
include hw hk
end
end Go.Proofs.YtblilfbhohnbgaaGreat
