/- The walk of AlgebraField: it returns true for every width and three numbers. -/
import Derived.Test.YthmooplhhkafcaaKnown
import Derived.Test.YthmooplhhkafcaaRefw
import Derived.Test.YthmooplhhkafcaaRefField
import Derived.Test.YthmooplhhkafcaaOver
import Derived.Test.YthmooplhhkafcaaOpenThree
namespace Go.Proofs.Ythmooplhhkafcaa
open Go.RowKit
theorem bcell {W w1 : World} (hb : Below W.heap.size W w1) : (∀ b o, b < W.heap.size → w1.cell? ⟨b, o, none⟩ = W.cell? ⟨b, o, none⟩) ∧ (∀ b o, b < W.heap.size → w1.frozen? ⟨b, o, none⟩ = W.frozen? ⟨b, o, none⟩) :=
  ⟨fun b o h => hb.cell (p := ⟨b, o, none⟩) h, fun b o h => hb.frozen (p := ⟨b, o, none⟩) h⟩
theorem div_zero_iff (x k : Nat) : x / 2 ^ k = 0 ↔ x < 2 ^ k := by
  constructor
  · intro h
    rcases Nat.lt_or_ge x (2 ^ k) with h1 | h1
    · exact h1
    · have := Nat.div_pos h1 (Nat.two_pow_pos _); omega
  · exact fun h => Nat.div_eq_of_lt h
theorem elemE_yes {n : Int} {l : List Nat} (hw : isWB n = true) : elemE n l = if l.all (fun x => fitB x n) then 0 else 3 := by
  have hn : n = 8 ∨ n = 16 ∨ n = 32 := by simpa [isWB, or_assoc] using hw
  unfold elemE
  rw [if_neg (by rw [modN_zero]; omega)]
  have e : ∀ x : Nat, decide (x / 2 ^ n.toNat = 0) = fitB x n := by
    intro x
    unfold fitB
    rw [Bool.eq_iff_iff]
    simp only [decide_eq_true_eq]
    exact div_zero_iff x n.toNat
  simp only [e]
theorem elemE_no {n : Int} {l : List Nat} (hw : isWB n = false) : elemE n l = 2 := by
  have hn : ¬ (n = 8 ∨ n = 16 ∨ n = 32) := by
    intro h
    have : isWB n = true := by simpa [isWB, or_assoc] using h
    rw [hw] at this; cases this
  unfold elemE
  rw [if_pos (by rw [modN_zero]; exact hn)]

theorem mulR_yes {n : Int} {a b : Nat} (hw : isWB n = true) : mulR n a b = if (fitB a n && fitB b n) then (gm n.toNat a b, 0) else (0, 3) := by
  unfold mulR
  rw [elemE_yes hw]
  simp only [List.all_cons, List.all_nil, Bool.and_true]
  cases fitB a n <;> cases fitB b n <;> simp
theorem invR_yes {n : Int} {c : Nat} (hw : isWB n = true) : invR n c = if fitB c n then (if c = 0 then (0, 7) else (inv n.toNat c, 0)) else (0, 3) := by
  unfold invR
  rw [elemE_yes hw]
  simp only [List.all_cons, List.all_nil, Bool.and_true]
  cases fitB c n <;> simp
end Go.Proofs.Ythmooplhhkafcaa
