/- Sums of products of binomials. Conditions: none beyond those in each statement. -/
import Derived.Test.YtncjmndiafgaaaaNat17
namespace Go.Proofs.Ytncjmndiafgaaaa
open Go.RowKit
set_option linter.unusedVariables false
def sumB (b c s : Nat) : Nat → Nat
  | 0 => 0
  | k + 1 => sumB b c s k + bin b k * bin c (s - k)
theorem bin_succ (b k : Nat) : bin (b + 1) (k + 1) = bin b k + bin b (k + 1) := rfl
theorem sumB_mono (b c s : Nat) {k m : Nat} (h : k ≤ m) : sumB b c s k ≤ sumB b c s m := by
  induction m with
  | zero => rw [show k = 0 by omega]; exact Nat.le_refl _
  | succ m ih =>
    rcases Nat.lt_or_ge k (m + 1) with h1 | h1
    · exact Nat.le_trans (ih (by omega)) (by rw [sumB]; omega)
    · rw [show k = m + 1 by omega]; exact Nat.le_refl _
/-- One more bad thing. -/
theorem sumB_bad (b c s : Nat) : ∀ k, k ≤ s → sumB (b + 1) c (s + 1) (k + 2) = sumB b c (s + 1) (k + 2) + sumB b c s (k + 1)
  | 0, _ => by
    simp only [sumB, bin_zero, bin_succ, Nat.zero_add, Nat.one_mul, Nat.sub_zero]
    rw [show s + 1 - 1 = s by omega, Nat.add_mul]; omega
  | k + 1, h => by
    have e1 : sumB (b + 1) c (s + 1) (k + 1 + 2) = sumB (b + 1) c (s + 1) (k + 2) + (bin b (k + 1) + bin b (k + 2)) * bin c (s + 1 - (k + 2)) := rfl
    have e2 : sumB b c (s + 1) (k + 1 + 2) = sumB b c (s + 1) (k + 2) + bin b (k + 2) * bin c (s + 1 - (k + 2)) := rfl
    have e3 : sumB b c s (k + 1 + 1) = sumB b c s (k + 1) + bin b (k + 1) * bin c (s - (k + 1)) := rfl
    have h0 := sumB_bad b c s k (by omega)
    rw [e1, e2, e3, h0, show s + 1 - (k + 2) = s - (k + 1) by omega, Nat.add_mul]; omega
theorem sumB_bad0 (b c s : Nat) : sumB (b + 1) c s 1 = sumB b c s 1 := by simp [sumB, bin_zero]
/-- One more good thing. -/
theorem sumB_good (b c s : Nat) : ∀ k, k ≤ s + 1 → sumB b (c + 1) (s + 1) k = sumB b c (s + 1) k + sumB b c s k
  | 0, _ => rfl
  | k + 1, h => by
    rw [sumB, sumB_good b c s k (by omega), sumB, sumB, show s + 1 - k = (s - k) + 1 by omega, bin_succ, Nat.mul_add]; omega
/-- All of them. -/
theorem sumB_all : ∀ (b c s : Nat), sumB b c s (s + 1) = bin (b + c) s
  | 0, c, s => by
    have h : ∀ k, sumB 0 c s (k + 1) = bin c s := fun k => by
      induction k with
      | zero => simp [sumB, bin_zero]
      | succ k ih => rw [sumB, ih, bin_over 0 (k + 1) (by omega)]; simp
    rw [h, Nat.zero_add]
  | b + 1, c, 0 => by simp [sumB, bin_zero]
  | b + 1, c, s + 1 => by
    rw [sumB_bad b c s s (Nat.le_refl _), sumB_all b c (s + 1), sumB_all b c s, show b + 1 + c = (b + c) + 1 by omega, bin_succ]; omega
theorem sumB_le (b c s k : Nat) (h : k ≤ s + 1) : sumB b c s k ≤ bin (b + c) s := by
  rw [← sumB_all]; exact sumB_mono _ _ _ h
/-- With one more bad thing there are fewer samples with few bad ones. -/
theorem sumB_down (b c s k : Nat) (h : k ≤ s) : sumB (b + 1) c s (k + 1) ≤ sumB b (c + 1) s (k + 1) := by
  cases s with
  | zero =>
    obtain rfl : k = 0 := by omega
    simp [sumB, bin_zero]
  | succ s =>
    rcases Nat.lt_or_ge k (s + 1) with h1 | h1
    · rw [sumB_good b c s (k + 1) (by omega)]
      cases k with
      | zero => rw [sumB_bad0]; simp only [Nat.zero_add]; omega
      | succ k =>
        rw [sumB_bad b c s k (by omega)]
        have := sumB_mono b c s (show k + 1 ≤ k + 1 + 1 by omega)
        show sumB b c (s + 1) (k + 2) + _ ≤ sumB b c (s + 1) (k + 2) + _
        omega
    · obtain rfl : k = s + 1 := by omega
      rw [sumB_all, sumB_all, show b + 1 + c = b + (c + 1) by omega]; exact Nat.le_refl _
end Go.Proofs.Ytncjmndiafgaaaa
