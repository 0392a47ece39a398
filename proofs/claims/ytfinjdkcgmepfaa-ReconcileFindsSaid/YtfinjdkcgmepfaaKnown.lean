/- The examples of the chapter that each statement begins or ends with hold: 'known' returns true in every world. -/
import Derived.Test.YtfinjdkcgmepfaaProg
import Derived.Test.YtfinjdkcgmepfaaBuilder
import Derived.Test.YtfinjdkcgmepfaaShare
namespace Go.Proofs.Ytfinjdkcgmepfaa
open Go.RowKit
def bs0 : List Bool := [true, true, false, true]
end Go.Proofs.Ytfinjdkcgmepfaa
