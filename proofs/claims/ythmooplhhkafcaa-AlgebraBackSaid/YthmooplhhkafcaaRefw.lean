/- Contracts of the reference's small functions on widths. Conditions: as each statement says. -/
import Derived.Test.YthmooplhhkafcaaProg
import Derived.Test.YthmooplhhkafcaaField
namespace Go.Proofs.Ythmooplhhkafcaa
open Go.RowKit
def isWB (n : Int) : Bool := n == 8 || n == 16 || n == 32
theorem elemE_nil (n : Int) : elemE n [] = if isWB n then 0 else 2 := by
  unfold elemE isWB
  by_cases h : n = 8 ∨ n = 16 ∨ n = 32
  · rw [if_neg (by rw [modN_zero]; omega), if_pos (by simp), if_pos (by simpa [or_assoc] using h)]
  · rw [if_pos (by rw [modN_zero]; omega), if_neg (by simpa [or_assoc] using h)]
end Go.Proofs.Ythmooplhhkafcaa
