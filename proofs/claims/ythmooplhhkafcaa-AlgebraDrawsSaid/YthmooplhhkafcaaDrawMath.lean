/- Plain mathematics of the draws: the state behind a draw and the number; different states draw different numbers. No program is in sight. -/
namespace Go.Proofs.Ythmooplhhkafcaa
def two64 : Nat := 18446744073709551616
def nextS (s : Nat) : Nat := (s * 4906513781625342421 + 1181783497276652981) % two64
def nextX (s : Nat) : Nat := ((s ^^^ s / 4294967296) * 7809847782465536323) % two64
def outY (x : Nat) : Nat := x ^^^ x / 536870912
/-- The number that a draw returns from a state. -/
def nextY (s : Nat) : Nat := outY (nextX (nextS s))
theorem nextS_lt (s : Nat) : nextS s < two64 := Nat.mod_lt _ (by decide)
theorem nextX_lt (s : Nat) : nextX s < two64 := Nat.mod_lt _ (by decide)
theorem outY_lt {x : Nat} (h : x < two64) : outY x < two64 :=
  Nat.xor_lt_two_pow (n := 64) h (Nat.lt_of_le_of_lt (Nat.div_le_self _ _) h)
theorem xs_inj (k : Nat) (hk : 0 < k) {x y : Nat} (h : x ^^^ x / 2 ^ k = y ^^^ y / 2 ^ k) : x = y := by
  have h2 : (x ^^^ y) = (x ^^^ y) / 2 ^ k := by
    rw [← Nat.shiftRight_eq_div_pow, Nat.shiftRight_xor_distrib, Nat.shiftRight_eq_div_pow, Nat.shiftRight_eq_div_pow]
    have : x ^^^ y ^^^ (x ^^^ x / 2 ^ k) ^^^ (y ^^^ y / 2 ^ k) = x / 2 ^ k ^^^ y / 2 ^ k := by
      apply Nat.eq_of_testBit_eq; intro i
      simp only [Nat.testBit_xor]
      cases x.testBit i <;> cases y.testBit i <;> cases (x / 2 ^ k).testBit i <;> cases (y / 2 ^ k).testBit i <;> rfl
    rw [h, Nat.xor_assoc, Nat.xor_self, Nat.xor_zero] at this
    exact this
  have h3 : x ^^^ y = 0 := by
    rcases Nat.eq_zero_or_pos (x ^^^ y) with h0 | h0
    · exact h0
    · have : (x ^^^ y) / 2 ^ k < x ^^^ y := Nat.div_lt_self h0 (Nat.one_lt_two_pow (by omega))
      omega
  have := congrArg (· ^^^ y) h3
  simpa [Nat.xor_assoc] using this
theorem mul_back (m i : Nat) (hmi : m * i % two64 = 1) {x : Nat} (hx : x < two64) : (x * m % two64) * i % two64 = x := by
  rw [Nat.mod_mul_mod, Nat.mul_assoc, Nat.mul_mod, hmi, Nat.mul_one, Nat.mod_mod, Nat.mod_eq_of_lt hx]
theorem mul_inj (m i : Nat) (hmi : m * i % two64 = 1) {x y : Nat} (hx : x < two64) (hy : y < two64) (h : x * m % two64 = y * m % two64) : x = y := by
  rw [← mul_back m i hmi hx, ← mul_back m i hmi hy, h]
theorem add_inj (c : Nat) {x y : Nat} (hx : x < two64) (hy : y < two64) (h : (x + c) % two64 = (y + c) % two64) : x = y := by
  unfold two64 at *; omega
theorem nextY_inj {a b : Nat} (ha : a < two64) (hb : b < two64) (h : nextY a = nextY b) : a = b := by
  have h1 : nextX (nextS a) = nextX (nextS b) := xs_inj 29 (by decide) h
  have lt : ∀ s, s < two64 → s ^^^ s / 4294967296 < two64 := fun s hs => Nat.xor_lt_two_pow (n := 64) hs (Nat.lt_of_le_of_lt (Nat.div_le_self _ _) hs)
  have h2 := mul_inj 7809847782465536323 6127482489802822507 (by decide) (lt _ (nextS_lt a)) (lt _ (nextS_lt b)) h1
  have h3 : nextS a = nextS b := xs_inj 32 (by decide) h2
  unfold nextS at h3
  have h4 : a * 4906513781625342421 % two64 = b * 4906513781625342421 % two64 := by
    refine add_inj 1181783497276652981 (Nat.mod_lt _ (by decide)) (Nat.mod_lt _ (by decide)) ?_
    rw [Nat.mod_add_mod, Nat.mod_add_mod]; exact h3
  exact mul_inj 4906513781625342421 12628439683255543677 (by decide) ha hb h4
end Go.Proofs.Ythmooplhhkafcaa
