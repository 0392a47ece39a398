/- The contracts of put and through of the program. Conditions: as each statement says. -/
import Derived.Test.YtblilfbhohnbgaaGreatShareV
import Derived.Test.YtblilfbhohnbgaaGreatOver
import Derived.BigRegion
import Derived.Test.YtblilfbhohnbgaaGreatBase
import Derived.Test.YtblilfbhohnbgaaGreatTail
namespace Go.Proofs.YtblilfbhohnbgaaGreat
open Go.RowKit
set_option linter.unusedVariables false
/-- No points. -/
abbrev zero35 : Array Value := #[.int .u8 0, .int .u8 0, .int .u8 0, .int .u8 0, .int .u8 0, .int .u8 0, .int .u8 0, .int .u8 0, .int .u8 0, .int .u8 0, .int .u8 0, .int .u8 0, .int .u8 0, .int .u8 0, .int .u8 0, .int .u8 0, .int .u8 0, .int .u8 0, .int .u8 0, .int .u8 0, .int .u8 0, .int .u8 0, .int .u8 0, .int .u8 0, .int .u8 0, .int .u8 0, .int .u8 0, .int .u8 0, .int .u8 0, .int .u8 0, .int .u8 0, .int .u8 0, .int .u8 0, .int .u8 0, .int .i64 0]
end Go.Proofs.YtblilfbhohnbgaaGreat
