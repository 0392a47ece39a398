/- Contracts of Unpack of the program. Conditions: as each statement says. -/
import Derived.Test.YtahfkhnhmnjbeaaUnpack
namespace Go.Proofs.Ytahfkhnhmnjbeaa
open Go.RowKit
set_option linter.unusedVariables false
set_option linter.unusedSimpArgs false
theorem Unpack_range (A : Option Addr) (m c : Nat) (n : Int) (w : World) (hm : m ≤ 1000000) (hn1 : n ≤ 9223372036854775807) (h : n < 0 ∨ 8 * (m : Int) < n ∨ (n + 7) / 8 ≠ m) :
    Calls Try.prog 60 #[.slice A m c, .int .i64 n] w fun e w' => e = .returned (.tuple #[.slice none 0 0, .int .i64 3]) ∧ w = w' := by
  have h3 : n < 0 ∨ (¬ n < 0 ∧ 8 * (m : Int) < n) ∨ (¬ n < 0 ∧ ¬ 8 * (m : Int) < n ∧ ((n + 7) / 8 != (m : Int)) = true) := by
    rw [bne_iff_ne]; omega
  clear h
  rcases h3 with g1 | ⟨g1, g2⟩ | ⟨g1, g2, g3⟩
  all_goals
    go_enter Try.func60, Try.ntmps60
    go_wp2
    go_ret2
    exact ⟨rfl, rfl⟩
theorem and_all : ∀ x, x < 256 → ∀ R, R < 8 → (x &&& 2 ^ (7 - R) != 0) = ((x / 2 ^ (7 - R)) % 2 == 1) := by decide +kernel
theorem and_bit (x R : Nat) (hx : x < 256) (hR : R < 8) : (bits .and .u8 (x : Int) (128 / 2 ^ R) != 0) = ((x / 2 ^ (7 - R)) % 2 == 1) := by
  have e : (128 : Int) / 2 ^ R = ((2 ^ (7 - R) : Nat) : Int) := by
    rcases (show R = 0 ∨ R = 1 ∨ R = 2 ∨ R = 3 ∨ R = 4 ∨ R = 5 ∨ R = 6 ∨ R = 7 by omega) with h | h | h | h | h | h | h | h <;> subst h <;> decide
  have hp : 2 ^ (7 - R) < 256 := Nat.lt_of_le_of_lt (Nat.pow_le_pow_right (by decide) (show 7 - R ≤ 7 by omega)) (by decide)
  rw [e, u8_and_nat x (2 ^ (7 - R)) hx hp, ← and_all x hx R hR, Bool.eq_iff_iff, bne_iff_ne, bne_iff_ne]
  omega
end Go.Proofs.Ytahfkhnhmnjbeaa
