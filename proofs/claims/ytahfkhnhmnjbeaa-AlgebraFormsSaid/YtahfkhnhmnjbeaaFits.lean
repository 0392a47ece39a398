/- Fits of the reference at any width from 0 to 64. Conditions: as the statement says. -/
import Derived.Test.YtahfkhnhmnjbeaaNum
namespace Go.Proofs.Ytahfkhnhmnjbeaa
open Go.RowKit
set_option linter.unusedVariables false
theorem Fits_wide (a width : Nat) (w : World) (ha : a < 18446744073709551616) (hw : width ≤ 64) :
    Calls Try.prog 35 #[.int .u64 a, .int .i64 width] w fun e w' => e = .returned (.bool (decide (a < 2 ^ width))) ∧ w = w' := by
  by_cases h64 : 64 ≤ width
  · have h1 : (64 : Int) ≤ (width : Int) := by omega
    have HE : Hid (decide (a < 2 ^ width) = true) := Lib.hid (by
      rw [decide_eq_true_eq, show width = 64 by omega]; exact Nat.lt_of_lt_of_le ha (by decide))
    clear h64
    go_enter Try.func35, Try.ntmps35
    go_wp2
    go_ret
    exact ⟨by rw [HE.out]; rfl, rfl⟩
  · have h1 : (width : Int) < 64 := by omega
    obtain ⟨P, hP⟩ : ∃ P, P = 2 ^ width := ⟨_, rfl⟩
    have hP2 : P ≤ 9223372036854775808 := by
      rw [hP]; exact Nat.le_trans (Nat.pow_le_pow_right (by omega) (show width ≤ 63 by omega)) (by decide)
    have hpw : (2 : Int) ^ width = (P : Int) := by rw [hP]; simp
    rw [← hP]
    clear hP h64
    go_enter Try.func35, Try.ntmps35
    go_wp2
    go_ret
    refine ⟨ret_bool ?_, rfl⟩
    rw [Bool.eq_iff_iff]
    simp
    try omega
end Go.Proofs.Ytahfkhnhmnjbeaa
