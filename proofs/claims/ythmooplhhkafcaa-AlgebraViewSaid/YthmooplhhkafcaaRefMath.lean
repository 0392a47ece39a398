/- Plain mathematics: the reference's product (that of the polynomials, and then its rest) is the program's. No program is in sight. -/
import Derived.Test.YthmooplhhkafcaaGf
namespace Go.Proofs.Ythmooplhhkafcaa
set_option linter.unusedSectionVars false
set_option linter.unusedVariables false
def xtN (w : Nat) : Nat → Nat → Nat
  | 0, v => v
  | i + 1, v => xtN w i (xt w v)
/-- The rest of a polynomial. -/
def red (w n : Nat) : Nat := act w 64 n 1
section
variable {w : Nat} (hw : IsW w)
include hw
theorem xtN_lt : ∀ i {v : Nat}, v < 2 ^ w → xtN w i v < 2 ^ w
  | 0, _, h => h
  | i + 1, _, h => xtN_lt i (xt_lt hw h)
omit hw in
theorem act_shl (w : Nat) : ∀ (i f b v : Nat), act w (f + i) (b * 2 ^ i) v = act w f b (xtN w i v)
  | 0, _, _, _ => by simp [xtN]
  | i + 1, f, b, v => by
    have e : b * 2 ^ (i + 1) = 2 * (b * 2 ^ i) := by rw [Nat.pow_succ]; simp only [Nat.mul_comm, Nat.mul_left_comm]
    have e2 : ∀ x, act w (f + i + 1) (2 * x) v = act w (f + i) x (xt w v) := fun x => by
      show (if 2 * x % 2 = 1 then v else 0) ^^^ act w (f + i) (2 * x / 2) (xt w v) = _
      rw [if_neg (by omega), Nat.mul_div_cancel_left _ (by decide), Nat.zero_xor]
    rw [← Nat.add_assoc, e, e2, act_shl w i]
    rfl
theorem act_xtN : ∀ (i f b : Nat) {v : Nat}, v < 2 ^ w → act w f b (xtN w i v) = xtN w i (act w f b v)
  | 0, _, _, _, _ => rfl
  | i + 1, f, b, v, hv => by unfold xtN; rw [act_xtN i f b (xt_lt hw hv), act_xt hw f b v hv]
theorem act_pow {i v : Nat} (hi : i < 64) (hv : v < 2 ^ w) : act w 64 (2 ^ i) v = xtN w i v := by
  have h := act_shl w i (64 - i) 1 v
  rw [show 64 - i + i = 64 by omega, Nat.one_mul, show 64 - i = (64 - i - 1) + 1 by omega] at h
  rw [h]
  simp [act, act_zero]
theorem red_shl {a i : Nat} (ha : a < 2 ^ w) (hi : i ≤ 32) : red w (a * 2 ^ i) = act w 64 (2 ^ i) a := by
  have hb : a * 2 ^ i < 2 ^ 64 := by
    have h1 : a < 2 ^ 32 := Nat.lt_of_lt_of_le ha (Nat.pow_le_pow_right (by omega) hw.le)
    calc a * 2 ^ i ≤ a * 2 ^ 32 := Nat.mul_le_mul_left _ (Nat.pow_le_pow_right (by omega) hi)
      _ < 2 ^ 32 * 2 ^ 32 := Nat.mul_lt_mul_of_pos_right h1 (by decide)
      _ = 2 ^ 64 := by decide
  unfold red
  rw [act_pow hw (by omega) ha]
  have h := act_shl w i 64 a 1
  rw [act_more w 64 _ 1 hb i] at h
  rw [h, act_xtN hw i 64 a (one_lt' hw), act_self hw ha]
omit hw in
theorem red_modN {w : Nat} (hw : IsW w) : red w (modN w) = 0 := by rcases hw with rfl | rfl | rfl <;> decide +kernel
theorem red_mod_shl {k : Nat} (hk : k ≤ 31) : red w (modN w * 2 ^ k) = 0 := by
  have hb : modN w < 2 ^ 33 := by have := modN_lt hw; have := hw.pow; omega
  have hb2 : modN w * 2 ^ k < 2 ^ 64 := by
    calc modN w * 2 ^ k ≤ modN w * 2 ^ 31 := Nat.mul_le_mul_left _ (Nat.pow_le_pow_right (by omega) hk)
      _ < 2 ^ 33 * 2 ^ 31 := Nat.mul_lt_mul_of_pos_right hb (by decide)
      _ = 2 ^ 64 := by decide
  unfold red
  have h := act_shl w k 64 (modN w) 1
  rw [act_more w 64 _ 1 hb2 k] at h
  rw [h, act_xtN hw k 64 _ (one_lt' hw)]
  have : act w 64 (modN w) 1 = 0 := red_modN hw
  rw [this]
  have z : ∀ k, xtN w k 0 = 0 := by
    intro k
    induction k with
    | zero => rfl
    | succ k ih => unfold xtN; rw [xt_zero, ih]
  exact z k
theorem red_xor (m n : Nat) : red w (m ^^^ n) = red w m ^^^ red w n := act_xor_left hw 64 m n 1 (one_lt' hw)
theorem red_self {m : Nat} (hm : m < 2 ^ w) : red w m = m := act_self hw hm
/-! The first loop: products are added up. -/
def Mul1 (w a b i m : Nat) : Prop := m < 2 ^ (w + (i - 1)) ∧ red w m = act w 64 (b % 2 ^ i) a
omit hw in
theorem mod_snoc (b i : Nat) : b % 2 ^ (i + 1) = (b % 2 ^ i) ^^^ (if b / 2 ^ i % 2 = 1 then 2 ^ i else 0) := by
  apply Nat.eq_of_testBit_eq
  intro j
  have hbit : b.testBit i = decide (b / 2 ^ i % 2 = 1) := Nat.testBit_eq_decide_div_mod_eq
  rw [Nat.testBit_xor, Nat.testBit_mod_two_pow, Nat.testBit_mod_two_pow]
  by_cases hc : b / 2 ^ i % 2 = 1
  · rw [if_pos hc, Nat.testBit_two_pow]
    rw [decide_eq_true hc] at hbit
    rcases Nat.lt_trichotomy j i with h | h | h
    · simp [h, show j < i + 1 by omega, show ¬ i = j by omega]
    · subst h; simp [hbit]
    · simp [show ¬ j < i by omega, show ¬ j < i + 1 by omega, show ¬ i = j by omega]
  · rw [if_neg hc, Nat.zero_testBit]
    rw [decide_eq_false hc] at hbit
    rcases Nat.lt_trichotomy j i with h | h | h
    · simp [h, show j < i + 1 by omega]
    · subst h; simp [hbit]
    · simp [show ¬ j < i by omega, show ¬ j < i + 1 by omega]
theorem mul1_zero (a b : Nat) : Mul1 w a b 0 0 := ⟨Nat.two_pow_pos _, by simp [red, act_zero, Nat.mod_one]⟩
theorem mul1_skip {a b i m : Nat} (h : Mul1 w a b i m) (hb : ¬ b / 2 ^ i % 2 = 1) : Mul1 w a b (i + 1) m :=
  ⟨Nat.lt_of_lt_of_le h.1 (Nat.pow_le_pow_right (by omega) (by omega)), by rw [mod_snoc, if_neg hb, Nat.xor_zero]; exact h.2⟩
theorem shl_lt {a i : Nat} (ha : a < 2 ^ w) : a * 2 ^ i < 2 ^ (w + i) := by
  rw [Nat.pow_add]; exact Nat.mul_lt_mul_of_pos_right ha (Nat.two_pow_pos i)
theorem mul1_add {a b i m : Nat} (ha : a < 2 ^ w) (hi : i < w) (h : Mul1 w a b i m) (hb : b / 2 ^ i % 2 = 1) : Mul1 w a b (i + 1) (m ^^^ a * 2 ^ i) := by
  refine ⟨xor_lt (Nat.lt_of_lt_of_le h.1 (Nat.pow_le_pow_right (by omega) (by omega))) (by simpa using shl_lt hw ha), ?_⟩
  rw [mod_snoc, if_pos hb, red_xor hw, h.2, red_shl hw ha (by have := hw.le; omega), act_xor_left hw _ _ _ _ ha]
/-! The second loop: the rest. -/
def Mul2 (w a b j m : Nat) : Prop := m < 2 ^ j ∧ red w m = gm w a b
theorem mul2_start {a b m : Nat} (hb : b < 2 ^ w) (h : Mul1 w a b w m) : Mul2 w a b (2 * w - 1) m :=
  ⟨by have := h.1; rwa [show w + (w - 1) = 2 * w - 1 by have := hw.pos; omega] at this, by rw [h.2, Nat.mod_eq_of_lt hb, gm_act hw]⟩
theorem mul2_skip {a b j m : Nat} (h : Mul2 w a b (j + 1) m) (hb : ¬ m / 2 ^ j % 2 = 1) : Mul2 w a b j m := by
  refine ⟨?_, h.2⟩
  rcases Nat.lt_or_ge m (2 ^ j) with h1 | h1
  · exact h1
  · exfalso
    apply hb
    have h2 := h.1
    rw [Nat.pow_succ] at h2
    have : m / 2 ^ j = 1 := by
      apply Nat.le_antisymm
      · have := (Nat.div_lt_iff_lt_mul (Nat.two_pow_pos j) (x := m) (y := 2)).2 (by omega); omega
      · exact (Nat.le_div_iff_mul_le (Nat.two_pow_pos j)).2 (by omega)
    rw [this]
theorem mul2_add {a b j m : Nat} (hj : w ≤ j) (hj2 : j ≤ 2 * w - 2) (h : Mul2 w a b (j + 1) m) (hb : m / 2 ^ j % 2 = 1) : Mul2 w a b j (m ^^^ modN w * 2 ^ (j - w)) := by
  have hle := hw.le
  have hpos := hw.pos
  have hm1 : m < 2 ^ j * 2 := by rw [← Nat.pow_succ]; exact h.1
  have hm2 : 2 ^ j ≤ m := by
    rcases Nat.lt_or_ge m (2 ^ j) with h1 | h1
    · rw [Nat.div_eq_of_lt h1] at hb; simp at hb
    · exact h1
  have e : 2 ^ j = 2 ^ w * 2 ^ (j - w) := by rw [← Nat.pow_add]; congr 1; omega
  refine ⟨top_clear hm1 hm2 ?_ ?_, ?_⟩
  · rw [e, Nat.mul_right_comm]; exact Nat.mul_lt_mul_of_pos_right (modN_lt hw) (Nat.two_pow_pos _)
  · rw [e]; exact Nat.mul_le_mul_right _ (modN_ge hw)
  · rw [red_xor hw, h.2, red_mod_shl hw (by omega), Nat.xor_zero]
theorem mul2_end {a b m : Nat} (h : Mul2 w a b w m) : m = gm w a b := by rw [← red_self hw h.1]; exact h.2
theorem mul_bound {j m : Nat} (h : m < 2 ^ j) (hj : j ≤ 63) : m < 9223372036854775808 := Nat.lt_of_lt_of_le h (Nat.le_trans (Nat.pow_le_pow_right (by omega) hj) (by decide))
end
end Go.Proofs.Ythmooplhhkafcaa
