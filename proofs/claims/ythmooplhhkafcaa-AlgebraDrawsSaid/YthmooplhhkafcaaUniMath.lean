/- Plain mathematics of AlgebraUniform: how many seeds have a hash. No program is in sight. -/
import Derived.Test.YthmooplhhkafcaaToepMath
import Derived.Test.YthmooplhhkafcaaNum
namespace Go.Proofs.Ythmooplhhkafcaa
def cU (F : Nat → Nat) : Nat → Nat → Nat
  | 0, _ => 0
  | N + 1, j => cU F N j + if F N = j then 1 else 0
/-- The number of the hash of the seed with a number. -/
def hW (a : List Bool) (m s i : Nat) : Nat := wordV (toepL (numL i s) a m a.length)
theorem hW_lt (a : List Bool) (m s i : Nat) : hW a m s i < 2 ^ m := by
  have := wordV_lt (toepL (numL i s) a m a.length)
  rwa [toepL_len] at this
def wantU (a : List Bool) (n s k : Nat) : Nat := if cnt a = 0 then (if k = 0 then 2 ^ s else 0) else 2 ^ (n - 1)
theorem cU_le (F : Nat → Nat) : ∀ N j, cU F N j ≤ N
  | 0, _ => Nat.le_refl _
  | N + 1, j => by have := cU_le F N j; simp only [cU]; split <;> omega
end Go.Proofs.Ythmooplhhkafcaa
