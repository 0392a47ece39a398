/- Contracts of the functions of the finite fields. Conditions: as each statement says. -/
import Derived.Test.YtdgmjedkhjeadaaProg
import Derived.Test.YtdgmjedkhjeadaaBase
import Derived.Test.YtdgmjedkhjeadaaMath
namespace Go.Proofs.Ytdgmjedkhjeadaa
open Go.RowKit


theorem u64_xor' {a b : Nat} (ha : a < 18446744073709551616) (hb : b < 18446744073709551616) : bits .xor .u64 (a : Int) (b : Int) = ((a ^^^ b : Nat) : Int) := u64_xor_nat a b ha hb

theorem xt_big {n a : Nat} (h : ((a : Int) * 2 / 2 ^ n != 0) = true) (hn : IsW n) (ha : a < 2 ^ n) : bits .xor .u64 ((a : Int) * 2) (modN n) = (xt n a : Int) := by
  have hp := hn.pow
  have hm := modN_lt hn
  have e : ((a : Int) * 2) = ((a * 2 : Nat) : Int) := by omega
  rw [e, u64_xor' (by omega) (by omega)]
  have h0 : a * 2 / 2 ^ n ≠ 0 := by
    intro h0
    rw [e] at h
    rw [show ((2 : Int) ^ n) = ((2 ^ n : Nat) : Int) by simp, ← Int.natCast_ediv, h0] at h
    simp at h
  rw [xt, if_neg h0]
theorem xt_small {n a : Nat} (h : ((a : Int) * 2 / 2 ^ n != 0) = false) : ((a : Int) * 2) = (xt n a : Int) := by
  have e : ((a : Int) * 2) = ((a * 2 : Nat) : Int) := by omega
  have h0 : a * 2 / 2 ^ n = 0 := by
    rw [e, show ((2 : Int) ^ n) = ((2 ^ n : Nat) : Int) by simp, ← Int.natCast_ediv] at h
    have h' : ((a * 2 / 2 ^ n : Nat) : Int) = 0 := by simpa only [bne_eq_false_iff_eq] using h
    omega
  rw [xt, if_pos h0, e]
theorem odd_yes {b : Nat} (hb : b < 18446744073709551616) (h : (bits BinOp.and IntKind.u64 (b : Int) 1 == 1) = true) : b % 2 = 1 := by
  rw [show (1 : Int) = ((1 : Nat) : Int) from rfl, u64_and_nat b 1 hb (by omega), nat_mask1] at h
  have h' := eq_of_beq h
  omega
theorem odd_no {b : Nat} (hb : b < 18446744073709551616) (h : (bits BinOp.and IntKind.u64 (b : Int) 1 == 1) = false) : ¬ b % 2 = 1 := by
  rw [show (1 : Int) = ((1 : Nat) : Int) from rfl, u64_and_nat b 1 hb (by omega), nat_mask1] at h
  have h' := ne_of_beq_false h
  omega

/-- The error of a width and some numbers. -/
def elemE (n : Int) (l : List Nat) : Int := if modN n.toNat = 0 then 2 else if l.all (fun x => decide (x / 2 ^ n.toNat = 0)) then 0 else 3
theorem modN_zero (n : Int) : modN n.toNat = 0 ↔ ¬ (n = 8 ∨ n = 16 ∨ n = 32) := by
  unfold modN
  repeat' split
  all_goals omega
theorem shr_zero {x n : Nat} : ((x : Int) / 2 ^ n != 0) = decide (x / 2 ^ n ≠ 0) := by
  rw [show ((2 : Int) ^ n) = ((2 ^ n : Nat) : Int) by simp, ← Int.natCast_ediv]
  rw [Bool.eq_iff_iff]
  simp only [bne_iff_ne, ne_eq, decide_eq_true_eq]
  omega

/-- The results of Mul. -/
def mulR (n : Int) (a b : Nat) : Nat × Int := if elemE n [a, b] = 0 then (gm n.toNat a b, 0) else (0, elemE n [a, b])
theorem elemE_ok {n : Int} {l : List Nat} (h : elemE n l = 0) : (n = 8 ∨ n = 16 ∨ n = 32) ∧ ∀ x ∈ l, x < 2 ^ n.toNat := by
  unfold elemE at h
  split at h
  · omega
  · rename_i hz
    have hw := (not_congr (modN_zero n)).1 hz
    split at h
    · rename_i ha
      refine ⟨by omega, fun x hx => ?_⟩
      have := List.all_eq_true.1 ha x hx
      have h0 : x / 2 ^ n.toNat = 0 := by simpa using this
      rcases Nat.lt_or_ge x (2 ^ n.toNat) with h1 | h1
      · exact h1
      · have := Nat.div_pos h1 (Nat.two_pow_pos _)
        omega
    · omega

/-- The results of Words. -/
def wordsR (n m : Int) : Int × Int := if elemE n [] ≠ 0 then (0, elemE n []) else if m < 0 ∨ m > 65536 then (0, 3) else (m / n + 2, 0)
end Go.Proofs.Ytdgmjedkhjeadaa
