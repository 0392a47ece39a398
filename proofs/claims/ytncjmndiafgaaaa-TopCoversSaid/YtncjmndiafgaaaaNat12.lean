/- Laws for half: a list of limbs, halved. Conditions: as each statement says. -/
import Derived.Test.YtncjmndiafgaaaaNat11
namespace Go.Proofs.Ytncjmndiafgaaaa
open Go.RowKit
set_option linter.unusedVariables false
/-- Limbs, halved. -/
def halfL : List Nat → List Nat
  | [] => []
  | x :: l => (x / 2 + 2147483648 * (l.headD 0 % 2)) :: halfL l
theorem halfL_len : ∀ l : List Nat, (halfL l).length = l.length
  | [] => rfl
  | x :: l => by simp [halfL, halfL_len l]
theorem valL_odd : ∀ l : List Nat, valL l % 2 = l.headD 0 % 2
  | [] => rfl
  | x :: l => by simp only [valL, List.headD_cons]; omega
theorem halfL_val : ∀ l : List Nat, valL (halfL l) = valL l / 2
  | [] => rfl
  | x :: l => by
    have h1 := halfL_val l
    have h2 := valL_odd l
    simp only [halfL, valL]
    rw [h1]; omega
theorem halfL_limbs : ∀ {l : List Nat}, Limbs l → Limbs (halfL l)
  | [], _ => fun x hx => by simp [halfL] at hx
  | x :: l, h => fun y hy => by
    have hx := h x (by simp)
    simp only [halfL, List.mem_cons] at hy
    rcases hy with rfl | hy
    · omega
    · exact halfL_limbs (fun z hz => h z (by simp [hz])) y hy
theorem halfL_getD : ∀ (l : List Nat) (k : Nat), (halfL l).getD k 0 = l.getD k 0 / 2 + 2147483648 * (l.getD (k + 1) 0 % 2)
  | [], k => by simp [halfL]
  | x :: l, 0 => by cases l <;> simp [halfL]
  | x :: l, k + 1 => by
    have h := halfL_getD l k
    simp only [halfL, List.getD_cons_succ]
    exact h
/-- The or of a low number with bit 31. -/
theorem or_high (x y : Nat) (hx : x < 2147483648) : x ||| (2147483648 * (y % 2)) = x + 2147483648 * (y % 2) := by
  have := Nat.two_pow_add_eq_or_of_lt (i := 31) (b := x) hx (y % 2)
  rw [Nat.or_comm, show (2147483648 : Nat) = 2 ^ 31 by decide, ← this, Nat.add_comm]
#print axioms halfL_val
#print axioms halfL_getD
#print axioms or_high
end Go.Proofs.Ytncjmndiafgaaaa
