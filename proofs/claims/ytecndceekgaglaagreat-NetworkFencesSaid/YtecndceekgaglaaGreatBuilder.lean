/- Contracts of strings.Builder's WriteByte and String over this program. Conditions: the builder is one that the call itself has made. -/
import Derived.Test.YtecndceekgaglaaGreatProg
import Derived.Test.YtecndceekgaglaaGreatField
import Derived.Lib.Builder
import Derived.Shelf.Strings.Builder1
namespace Go.Proofs.YtecndceekgaglaaGreat
open Go.RowKit
end Go.Proofs.YtecndceekgaglaaGreat
/- Contracts of the functions that turn bit strings into texts, numbers and bytes, and back. Conditions: as each statement says. -/
namespace Go.Proofs.YtecndceekgaglaaGreat
open Go.RowKit
end Go.Proofs.YtecndceekgaglaaGreat
