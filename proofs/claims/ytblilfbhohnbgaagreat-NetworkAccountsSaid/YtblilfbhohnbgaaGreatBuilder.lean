/- Contracts of strings.Builder's WriteByte and String over this program. Conditions: the builder is one that the call itself has made. -/
import Derived.Test.YtblilfbhohnbgaaGreatProg
import Derived.Test.YtblilfbhohnbgaaGreatField
import Derived.Lib.Builder
import Derived.Shelf.Strings.Builder1
namespace Go.Proofs.YtblilfbhohnbgaaGreat
open Go.RowKit
end Go.Proofs.YtblilfbhohnbgaaGreat
