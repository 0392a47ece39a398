/- Contracts of the functions of the finite fields. Conditions: as each statement says. -/
import Derived.Test.YtdgmjedkhjeadaaGreatProg
import Derived.Test.YtdgmjedkhjeadaaGreatBase
import Derived.Test.YtdgmjedkhjeadaaGreatMath
namespace Go.Proofs.YtdgmjedkhjeadaaGreat
open Go.RowKit
end Go.Proofs.YtdgmjedkhjeadaaGreat
