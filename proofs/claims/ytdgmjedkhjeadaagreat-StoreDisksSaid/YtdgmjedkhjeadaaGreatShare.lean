/- Contracts of the functions of the shares of a secret. Conditions: as each statement says. -/
import Derived.Test.YtdgmjedkhjeadaaGreatProg
import Derived.Test.YtdgmjedkhjeadaaGreatBase
import Derived.Test.YtdgmjedkhjeadaaGreatField
import Derived.Test.YtdgmjedkhjeadaaGreatTypes
import Derived.Test.YtdgmjedkhjeadaaGreatTail
import Derived.Test.YtdgmjedkhjeadaaGreatMath
namespace Go.Proofs.YtdgmjedkhjeadaaGreat
open Go.RowKit
end Go.Proofs.YtdgmjedkhjeadaaGreat
