/- Contracts of the functions that combine bit strings (program and reference). Conditions: xs each statement says. -/
import Derived.Test.YtdgmjedkhjeadaaGreatProg
import Derived.Test.YtdgmjedkhjeadaaGreatTypes
import Derived.Deep.RegionHeld3
import Derived.Deep.AppendLies
namespace Go.Proofs.YtdgmjedkhjeadaaGreat
open Go.RowKit
end Go.Proofs.YtdgmjedkhjeadaaGreat
