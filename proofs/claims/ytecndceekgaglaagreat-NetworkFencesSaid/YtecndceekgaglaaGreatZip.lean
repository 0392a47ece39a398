/- Contracts of kept, zip and Xor. Conditions: as each statement says. -/
import Derived.Test.YtecndceekgaglaaGreatBits2
import Derived.Test.YtecndceekgaglaaGreatApp
import Derived.Test.YtecndceekgaglaaGreatField
import Derived.Test.YtecndceekgaglaaGreatMath
namespace Go.Proofs.YtecndceekgaglaaGreat
open Go.RowKit
end Go.Proofs.YtecndceekgaglaaGreat
/- Contracts of the functions between bits and numbers (program and reference): number, Word, Number. Conditions: as each statement says. -/
namespace Go.Proofs.YtecndceekgaglaaGreat
open Go.RowKit
set_option linter.unusedVariables false
set_option linter.unusedSimpArgs false
end Go.Proofs.YtecndceekgaglaaGreat
/- Plain mathematics of AlgebraHash: the words of a bit string; the program's hash (step by step) is the document's (a sum of words times powers). No program is in sight. -/
namespace Go.Proofs.YtecndceekgaglaaGreat
set_option linter.unusedVariables false
section
variable {w key : Nat} (hw : IsW w) (hk : key < 2 ^ w)
include hw hk
end
end Go.Proofs.YtecndceekgaglaaGreat
