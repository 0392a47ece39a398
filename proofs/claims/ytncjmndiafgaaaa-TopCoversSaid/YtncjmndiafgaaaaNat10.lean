/- Laws for split: a row that is cleared, a bit that is set. Conditions: as each statement says. -/
import Derived.Test.YtncjmndiafgaaaaNat9
import Derived.Lib.SliceRun
namespace Go.Proofs.Ytncjmndiafgaaaa
open Go.RowKit
set_option linter.unusedVariables false
theorem own_setCells {base g n c : Nat} {t : TypeId} (z : Value) : ∀ (m k : Nat) (w : World) (xs : List Value), k + m = n → w.ownsRow base t 1 (.slice (some ⟨g, 0, none⟩) n c) n xs → (w.setCells g k (List.replicate m z)).ownsRow base t 1 (.slice (some ⟨g, 0, none⟩) n c) n (xs.take k ++ List.replicate m z) ∧ w.grownBy (w.setCells g k (List.replicate m z)) (some g)
  | 0, k, w, xs, hk, h => by
    have hl : xs.length = n := by have := h.1; omega
    refine ⟨?_, World.grownBy.refl _ _⟩
    rw [List.replicate_zero, List.append_nil, List.take_of_length_le (by omega)]
    exact h
  | m + 1, k, w, xs, hk, h => by
    have hl : xs.length = n := by have := h.1; omega
    have h1 := (h.stored k z).1
    obtain ⟨a, b⟩ := own_setCells z m (k + 1) (w.setCell ⟨g, k, none⟩ z) (xs.set k z) (by omega) h1
    have e : (xs.set k z).take (k + 1) ++ List.replicate m z = xs.take k ++ List.replicate (m + 1) z := by
      have hk2 : k < (xs.set k z).length := by rw [List.length_set]; omega
      rw [take_snoc _ _ hk2, List.getElem_set_self, List.take_set_of_le (Nat.le_refl k), List.append_assoc, List.replicate_succ]; rfl
    rw [e] at a
    refine ⟨a, ?_⟩
    have hs : w.grownBy (w.setCell ⟨g, k, none⟩ z) (some g) := grown_set (World.grownBy.refl _ _) k z
    exact ⟨b.os.trans hs.os, b.tape.trans hs.tape, b.output.trans hs.output, Nat.le_trans hs.size b.size, fun j h1 h2 => (b.block j (Nat.lt_of_lt_of_le h1 hs.size) h2).trans (hs.block j h1 h2)⟩
theorem or_bit (x r : Nat) (h : x / 2 ^ r % 2 = 0) : x ||| 2 ^ r = x + 2 ^ r := by
  apply Nat.eq_of_testBit_eq
  intro i
  have hx : x = 2 ^ (r + 1) * (x / 2 ^ (r + 1)) + x % 2 ^ (r + 1) := (Nat.div_add_mod x (2 ^ (r + 1))).symm
  have hm : x % 2 ^ (r + 1) < 2 ^ r := by
    have h1 : x % 2 ^ (r + 1) = x % 2 ^ r + 2 ^ r * (x / 2 ^ r % 2) := Nat.mod_pow_succ
    rw [h, Nat.mul_zero, Nat.add_zero] at h1
    rw [h1]; exact Nat.mod_lt _ (Nat.pow_pos (by decide))
  have e : x + 2 ^ r = 2 ^ (r + 1) * (x / 2 ^ (r + 1)) + (x % 2 ^ (r + 1) + 2 ^ r) := by omega
  have hps : 2 ^ (r + 1) = 2 * 2 ^ r := by rw [Nat.pow_succ, Nat.mul_comm]
  have hlt : x % 2 ^ (r + 1) + 2 ^ r < 2 ^ (r + 1) := by omega
  have hl2 : x % 2 ^ (r + 1) < 2 ^ (r + 1) := by omega
  have e3 : x % 2 ^ (r + 1) + 2 ^ r = 2 ^ r ||| x % 2 ^ (r + 1) := by
    have := Nat.two_pow_add_eq_or_of_lt hm 1
    rw [Nat.mul_one] at this
    rw [← this]; omega
  have e4 : x + 2 ^ r = 2 ^ (r + 1) * (x / 2 ^ (r + 1)) ||| (2 ^ r ||| x % 2 ^ (r + 1)) := by
    rw [e, Nat.two_pow_add_eq_or_of_lt hlt, e3]
  have e5 : x = 2 ^ (r + 1) * (x / 2 ^ (r + 1)) ||| x % 2 ^ (r + 1) := by
    rw [← Nat.two_pow_add_eq_or_of_lt hl2]; exact hx
  rw [e4]
  conv => lhs; rw [e5]
  simp only [Nat.testBit_or]
  cases (2 ^ (r + 1) * (x / 2 ^ (r + 1))).testBit i <;> cases (x % 2 ^ (r + 1)).testBit i <;> cases (2 ^ r).testBit i <;> rfl
/-- One step of the division, bit by bit. -/
theorem split_step (V B i : Nat) (hB : 0 < B) : (V / 2 ^ i / B) * 2 ^ i = (V / 2 ^ (i + 1) / B) * 2 ^ (i + 1) + (if B ≤ 2 * (V / 2 ^ (i + 1) % B) + bitV V i then 2 ^ i else 0) ∧
    V / 2 ^ i % B = if B ≤ 2 * (V / 2 ^ (i + 1) % B) + bitV V i then 2 * (V / 2 ^ (i + 1) % B) + bitV V i - B else 2 * (V / 2 ^ (i + 1) % B) + bitV V i := by
  have h0 : V / 2 ^ (i + 1) = V / 2 ^ i / 2 := by rw [Nat.pow_succ, Nat.div_div_eq_div_mul]
  have h1 : V / 2 ^ i = 2 * (V / 2 ^ (i + 1)) + bitV V i := by unfold bitV; rw [h0]; omega
  have hb : bitV V i < 2 := Nat.mod_lt _ (by decide)
  generalize V / 2 ^ (i + 1) = W at *
  generalize bitV V i = b at *
  rw [h1]
  have hdm := Nat.div_add_mod W B
  have hml := Nat.mod_lt W hB
  generalize W / B = q at *
  generalize W % B = r at *
  subst hdm
  have e1 : 2 * (B * q + r) + b = (2 * r + b) + B * (2 * q) := by rw [Nat.mul_add, Nat.mul_left_comm]; omega
  rw [e1, Nat.add_mul_div_left _ _ hB, Nat.add_mul_mod_self_left, Nat.pow_succ]
  by_cases h : B ≤ 2 * r + b
  · rw [if_pos h, if_pos h]
    have hd : (2 * r + b) / B = 1 := by rw [Nat.div_eq_of_lt_le] <;> omega
    have hm : (2 * r + b) % B = 2 * r + b - B := by rw [Nat.mod_eq_sub_mod h, Nat.mod_eq_of_lt (by omega)]
    rw [hd, hm]
    refine ⟨?_, rfl⟩
    rw [Nat.add_mul, Nat.one_mul, Nat.mul_comm 2 q, Nat.mul_assoc, Nat.mul_comm 2]; omega
  · rw [if_neg h, if_neg h]
    rw [Nat.div_eq_of_lt (by omega), Nat.mod_eq_of_lt (by omega)]
    refine ⟨?_, rfl⟩
    rw [Nat.zero_add, Nat.mul_comm 2 q, Nat.mul_assoc, Nat.mul_comm 2]; omega
end Go.Proofs.Ytncjmndiafgaaaa
