/- Contracts of the functions that combine bit strings (program and reference). Conditions: xs each statement says. -/
import Derived.Test.YtecndceekgaglaaGreatProg
import Derived.Test.YtecndceekgaglaaGreatField
import Derived.Deep.RegionHeld3
import Derived.Deep.AppendLies
namespace Go.Proofs.YtecndceekgaglaaGreat
open Go.RowKit
end Go.Proofs.YtecndceekgaglaaGreat
/- Contracts of kept, Same, Count and zip. Conditions: as each statement says. -/
namespace Go.Proofs.YtecndceekgaglaaGreat
open Go.RowKit
end Go.Proofs.YtecndceekgaglaaGreat
