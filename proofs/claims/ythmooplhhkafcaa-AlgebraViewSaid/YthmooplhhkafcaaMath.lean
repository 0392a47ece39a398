/- Plain mathematics: the product of a finite field as the program multiplies. No program is in sight. -/
namespace Go.Proofs.Ythmooplhhkafcaa

/-- The polynomial of the field of a width. -/
def modN (w : Nat) : Nat := if w = 8 then 0x11b else if w = 16 then 0x1002b else if w = 32 then 0x10000008d else 0
/-- Times x. -/
def xt (w a : Nat) : Nat := if a * 2 / 2 ^ w = 0 then a * 2 else (a * 2) ^^^ modN w
/-- The program's product: f rounds. -/
def tim (w : Nat) : Nat → Nat → Nat → Nat → Nat
  | 0, _, _, n => n
  | f + 1, a, b, n => if b = 0 then n else tim w f (xt w a) (b / 2) (if b % 2 = 1 then n ^^^ a else n)
def IsW (w : Nat) : Prop := w = 8 ∨ w = 16 ∨ w = 32
theorem IsW.le {w : Nat} (h : IsW w) : w ≤ 32 := by unfold IsW at h; omega
theorem IsW.pos {w : Nat} (h : IsW w) : 8 ≤ w := by unfold IsW at h; omega
theorem IsW.pow {w : Nat} (h : IsW w) : 2 ^ w ≤ 4294967296 := by rcases h with rfl | rfl | rfl <;> decide
theorem modN_lt {w : Nat} (h : IsW w) : modN w < 2 ^ w * 2 := by rcases h with rfl | rfl | rfl <;> decide
theorem modN_ge {w : Nat} (h : IsW w) : 2 ^ w ≤ modN w := by rcases h with rfl | rfl | rfl <;> decide
theorem xor_lt {a b k : Nat} (ha : a < 2 ^ k) (hb : b < 2 ^ k) : a ^^^ b < 2 ^ k := Nat.xor_lt_two_pow ha hb

theorem top_clear {w a b : Nat} (ha : a < 2 ^ w * 2) (ha' : 2 ^ w ≤ a) (hb : b < 2 ^ w * 2) (hb' : 2 ^ w ≤ b) : a ^^^ b < 2 ^ w := by
  have e : 2 ^ w * 2 = 2 ^ (w + 1) := by rw [Nat.pow_succ]
  have h1 : a ^^^ b < 2 ^ (w + 1) := xor_lt (e ▸ ha) (e ▸ hb)
  have t : ∀ x, x < 2 ^ w * 2 → 2 ^ w ≤ x → x.testBit w = true := by
    intro x h h'
    rw [Nat.testBit_eq_decide_div_mod_eq]
    have : x / 2 ^ w = 1 := by
      have hp : 0 < 2 ^ w := Nat.two_pow_pos w
      apply Nat.le_antisymm
      · have : x / 2 ^ w < 2 := by rw [Nat.div_lt_iff_lt_mul hp]; omega
        omega
      · exact (Nat.le_div_iff_mul_le hp).2 (by omega)
    simp [this]
  refine Nat.lt_of_lt_of_le (m := 2 ^ w) ?_ (Nat.le_refl _)
  apply Nat.lt_pow_two_of_testBit
  intro i hi
  rcases Nat.lt_or_ge i (w + 1) with h | h
  · obtain rfl : i = w := by omega
    rw [Nat.testBit_xor, t a ha ha', t b hb hb']; rfl
  · exact Nat.testBit_lt_two_pow (Nat.lt_of_lt_of_le h1 (Nat.pow_le_pow_right (by omega) h))

theorem xt_lt {w a : Nat} (h : IsW w) (ha : a < 2 ^ w) : xt w a < 2 ^ w := by
  have hp : 0 < 2 ^ w := Nat.two_pow_pos w
  unfold xt
  split
  · rename_i h0
    rw [Nat.div_eq_zero_iff] at h0
    omega
  · rename_i h0
    have : 2 ^ w ≤ a * 2 := by
      rcases Nat.lt_or_ge (a * 2) (2 ^ w) with h1 | h1
      · exact absurd (Nat.div_eq_of_lt h1) h0
      · exact h1
    exact top_clear (by omega) this (modN_lt h) (modN_ge h)
theorem tim_lt {w : Nat} (h : IsW w) : ∀ f a b n, a < 2 ^ w → n < 2 ^ w → tim w f a b n < 2 ^ w
  | 0, _, _, _, _, hn => hn
  | f + 1, a, b, n, ha, hn => by
    unfold tim
    split
    · exact hn
    · refine tim_lt h f _ _ _ (xt_lt h ha) ?_
      split
      · exact xor_lt hn ha
      · exact hn
/-- More rounds than bits change nothing. -/
theorem tim_more (w : Nat) : ∀ f a b n, b < 2 ^ f → ∀ k, tim w (f + k) a b n = tim w f a b n
  | 0, a, b, n, hb, k => by
    obtain rfl : b = 0 := by simpa using hb
    cases k <;> simp [tim]
  | f + 1, a, b, n, hb, k => by
    rw [show f + 1 + k = (f + k) + 1 by omega]
    unfold tim
    split
    · rfl
    · exact tim_more w f _ _ _ (by rw [Nat.pow_succ] at hb; omega) k
theorem tim_zero (w f a n : Nat) : tim w f a 0 n = n := by cases f <;> simp [tim]
theorem tim_round (n f a b m : Nat) (hb : b ≠ 0) (hf : b < 2 ^ f) : ∃ g, f = g + 1 ∧ b / 2 < 2 ^ g ∧ tim n f a b m = tim n g (xt n a) (b / 2) (if b % 2 = 1 then m ^^^ a else m) := by
  cases f with
  | zero => exact absurd (by simpa using hf) hb
  | succ g =>
    refine ⟨g, rfl, by rw [Nat.pow_succ] at hf; omega, ?_⟩
    conv => lhs; unfold tim
    rw [if_neg hb]
/-- The product. -/
def gm (w a b : Nat) : Nat := tim w 64 a b 0
theorem gm_lt {w a b : Nat} (h : IsW w) (ha : a < 2 ^ w) : gm w a b < 2 ^ w := tim_lt h _ _ _ _ ha (Nat.two_pow_pos w)
end Go.Proofs.Ythmooplhhkafcaa
