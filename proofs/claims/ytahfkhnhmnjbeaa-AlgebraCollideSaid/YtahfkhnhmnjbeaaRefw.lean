/- Contracts of the reference's small functions on widths. Conditions: as each statement says. -/
import Derived.Test.YtahfkhnhmnjbeaaProg
import Derived.Test.YtahfkhnhmnjbeaaField
namespace Go.Proofs.Ytahfkhnhmnjbeaa
open Go.RowKit
def isWB (n : Int) : Bool := n == 8 || n == 16 || n == 32
theorem Width_any (n : Int) (w : World) :
    Calls Try.prog 21 #[.int .i64 n] w fun e w' => e = .returned (.bool (isWB n)) ∧ w = w' := by
  go_enter Try.func21, Try.ntmps21
  go_wp2
  all_goals go_ret
  all_goals refine ⟨?_, rfl⟩
  all_goals simp_all [isWB]
theorem elemE_nil (n : Int) : elemE n [] = if isWB n then 0 else 2 := by
  unfold elemE isWB
  by_cases h : n = 8 ∨ n = 16 ∨ n = 32
  · rw [if_neg (by rw [modN_zero]; omega), if_pos (by simp), if_pos (by simpa [or_assoc] using h)]
  · rw [if_pos (by rw [modN_zero]; omega), if_neg (by simpa [or_assoc] using h)]
end Go.Proofs.Ytahfkhnhmnjbeaa
