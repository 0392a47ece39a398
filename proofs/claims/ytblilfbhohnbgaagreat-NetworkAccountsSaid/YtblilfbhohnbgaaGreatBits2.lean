/- Contracts of the functions that combine bit strings (program and reference). Conditions: xs each statement says. -/
import Derived.Test.YtblilfbhohnbgaaGreatProg
import Derived.Test.YtblilfbhohnbgaaGreatField
import Derived.Deep.RegionHeld3
import Derived.Deep.AppendLies
namespace Go.Proofs.YtblilfbhohnbgaaGreat
open Go.RowKit
end Go.Proofs.YtblilfbhohnbgaaGreat
