/- The contracts of at, times and Through of the reference. Conditions: as each statement says. -/
import Derived.Test.YtecndceekgaglaaGreatShareV
import Derived.Test.YtecndceekgaglaaGreatPush2
import Derived.Test.YtecndceekgaglaaGreatMath
import Derived.Test.YtecndceekgaglaaGreatField
import Derived.Test.YtecndceekgaglaaGreatTail
import Derived.Test.YtecndceekgaglaaGreatThru
namespace Go.Proofs.YtecndceekgaglaaGreat
open Go.RowKit
set_option linter.unusedVariables false
end Go.Proofs.YtecndceekgaglaaGreat
/- The contract of Through of the reference. Conditions: as the statement says. -/
namespace Go.Proofs.YtecndceekgaglaaGreat
open Go.RowKit
set_option linter.unusedVariables false
end Go.Proofs.YtecndceekgaglaaGreat
/- The contract of Join of the reference. Conditions: as each statement says. -/
namespace Go.Proofs.YtecndceekgaglaaGreat
open Go.RowKit
set_option linter.unusedVariables false
end Go.Proofs.YtecndceekgaglaaGreat
/- The contract of Join of the reference, where it is not refused ahead. Conditions: as the statement says. -/
namespace Go.Proofs.YtecndceekgaglaaGreat
open Go.RowKit
set_option linter.unusedVariables false
end Go.Proofs.YtecndceekgaglaaGreat
/- Join of the program and of the reference in one form; both say the same of lists with the same views. Conditions: as each statement says. -/
namespace Go.Proofs.YtecndceekgaglaaGreat
open Go.RowKit
set_option linter.unusedVariables false
end Go.Proofs.YtecndceekgaglaaGreat
