/- The examples of the chapter that each statement begins or ends with hold: 'known' returns true in every world. -/
import Derived.Test.YtoofnkkbebjldaaProg
import Derived.Test.YtoofnkkbebjldaaBuilder
import Derived.Test.YtoofnkkbebjldaaShare
namespace Go.Proofs.Ytoofnkkbebjldaa
open Go.RowKit
def bs0 : List Bool := [true, true, false, true]
end Go.Proofs.Ytoofnkkbebjldaa
