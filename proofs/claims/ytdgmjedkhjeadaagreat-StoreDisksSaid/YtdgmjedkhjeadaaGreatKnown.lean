/- The examples of the chapter that each statement begins or ends with hold: 'known' returns true in every world. -/
import Derived.Test.YtdgmjedkhjeadaaGreatProg
import Derived.Test.YtdgmjedkhjeadaaGreatBuilder
import Derived.Test.YtdgmjedkhjeadaaGreatShare
namespace Go.Proofs.YtdgmjedkhjeadaaGreat
open Go.RowKit
def bs0 : List Bool := [true, true, false, true]
end Go.Proofs.YtdgmjedkhjeadaaGreat
