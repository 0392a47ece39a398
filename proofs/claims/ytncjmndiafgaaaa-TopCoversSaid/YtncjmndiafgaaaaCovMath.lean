/- The counting behind TopCovers. Conditions: as each statement says. -/
import Derived.Test.YtncjmndiafgaaaaNat22
namespace Go.Proofs.Ytncjmndiafgaaaa
open Go.RowKit
set_option linter.unusedVariables false
/-- How many numbers below m have a property. -/
def cntTo (f : Nat → Bool) : Nat → Nat
  | 0 => 0
  | m + 1 => cntTo f m + (if f m then 1 else 0)
theorem cntTo_le {f g : Nat → Bool} : ∀ m, (∀ i, i < m → f i = true → g i = true) → cntTo f m ≤ cntTo g m
  | 0, _ => Nat.le_refl _
  | m + 1, h => by
    have ih := cntTo_le m (fun i hi => h i (by omega))
    have h1 := h m (by omega)
    rw [cntTo, cntTo]
    cases hf : f m
    · simp; omega
    · rw [h1 hf]; simpa using ih
theorem cntTo_none {f : Nat → Bool} : ∀ m, (∀ i, i < m → f i = false) → cntTo f m = 0
  | 0, _ => rfl
  | m + 1, h => by rw [cntTo, cntTo_none m (fun i hi => h i (by omega)), h m (by omega)]; rfl
theorem cntTo_same {f g : Nat → Bool} (m : Nat) (h : ∀ i, i < m → f i = g i) : cntTo f m = cntTo g m :=
  Nat.le_antisymm (cntTo_le m fun i hi e => by rw [← h i hi]; exact e) (cntTo_le m fun i hi e => by rw [h i hi]; exact e)
theorem cntTo_max (f : Nat → Bool) : ∀ m, cntTo f m ≤ m
  | 0 => Nat.le_refl _
  | m + 1 => by have := cntTo_max f m; rw [cntTo]; split <;> omega
theorem cntTo_two (f : Nat → Bool) : ∀ m, cntTo f (2 * m) = cntTo (fun i => f (2 * i)) m + cntTo (fun i => f (2 * i + 1)) m
  | 0 => rfl
  | m + 1 => by
    rw [show 2 * (m + 1) = 2 * m + 1 + 1 by omega, cntTo, cntTo, cntTo_two f m, cntTo, cntTo]; omega
theorem onesN_bit (m e : Nat) (he : e < 2) : onesN (2 * m + e) = e + onesN m := by
  rw [onesN_step, show (2 * m + e) % 2 = e by omega, show (2 * m + e) / 2 = m by omega]
theorem and_bit (m b e d : Nat) (he : e < 2) (hd : d < 2) : (2 * m + e) &&& (2 * b + d) = 2 * (m &&& b) + e * d := by
  have h1 : ((2 * m + e) &&& (2 * b + d)) / 2 = m &&& b := by
    rw [Nat.and_div_two, show (2 * m + e) / 2 = m by omega, show (2 * b + d) / 2 = b by omega]
  have h2 : ((2 * m + e) &&& (2 * b + d)) % 2 = e * d := by
    have h := Nat.and_mod_two_pow (a := 2 * m + e) (b := 2 * b + d) (n := 1)
    rw [Nat.pow_one, show (2 * m + e) % 2 = e by omega, show (2 * b + d) % 2 = d by omega] at h
    rw [h]
    rcases (by omega : e = 0 ∨ e = 1) with rfl | rfl <;> rcases (by omega : d = 0 ∨ d = 1) with rfl | rfl <;> rfl
  omega
theorem onesN_and_le : ∀ (m b : Nat), onesN (m &&& b) ≤ onesN m := by
  intro m
  induction m using Nat.strongRecOn with
  | ind m ih =>
    intro b
    by_cases hm : m = 0
    · subst hm; simp [onesN_zero]
    · have h := and_bit (m / 2) (b / 2) (m % 2) (b % 2) (by omega) (by omega)
      rw [show 2 * (m / 2) + m % 2 = m by omega, show 2 * (b / 2) + b % 2 = b by omega] at h
      have hl : m % 2 * (b % 2) ≤ m % 2 := by
        rcases (by omega : b % 2 = 0 ∨ b % 2 = 1) with e | e <;> rw [e] <;> omega
      rw [h, onesN_bit _ _ (by omega), onesN_step m]
      have := ih (m / 2) (by omega) (b / 2)
      omega
theorem onesN_le_bits : ∀ (n m : Nat), m < 2 ^ n → onesN m ≤ n
  | 0, m, h => by
    obtain rfl : m = 0 := by rw [Nat.pow_zero] at h; omega
    rw [onesN_zero]; exact Nat.le_refl _
  | n + 1, m, h => by
    rw [onesN_step]
    have := onesN_le_bits n (m / 2) (by rw [Nat.pow_succ] at h; omega)
    omega
/-- Sets of s bits that hold less than k of the bad ones. -/
def inM (bad s k i : Nat) : Bool := decide (onesN i = s ∧ onesN (i &&& bad) < k)
theorem sumB_00 (s : Nat) : ∀ k, k ≤ s + 1 + 1 → sumB 0 0 (s + 1) k = 0
  | 0, _ => rfl
  | k + 1, h => by
    rw [sumB, sumB_00 s k (by omega)]
    cases k with
    | zero => rw [bin_zero]; rfl
    | succ k => rw [show bin 0 (k + 1) = 0 from rfl]; simp
theorem count_in : ∀ (n bad s k : Nat), bad < 2 ^ n → k ≤ s + 1 → cntTo (inM bad s k) (2 ^ n) = sumB (onesN bad) (n - onesN bad) s k
  | 0, bad, s, k, h, hk => by
    obtain rfl : bad = 0 := by rw [Nat.pow_zero] at h; omega
    rw [onesN_zero, Nat.pow_zero, Nat.sub_zero, cntTo, cntTo]
    cases s with
    | zero =>
      rcases (by omega : k = 0 ∨ k = 1) with rfl | rfl
      · simp [inM, onesN_zero, sumB]
      · simp [inM, onesN_zero, sumB, bin_zero]
    | succ s =>
      rw [sumB_00 s k hk]
      simp [inM, onesN_zero]
  | n + 1, bad, s, k, h, hk => by
    have hb2 : bad / 2 < 2 ^ n := by rw [Nat.pow_succ] at h; omega
    have IH := count_in n (bad / 2)
    have hone := onesN_step bad
    have hle := onesN_le_bits n (bad / 2) hb2
    have hE : ∀ i, inM bad s k (2 * i) = inM (bad / 2) s k i := fun i => by
      have h1 := onesN_bit i 0 (by omega)
      have h2 := and_bit i (bad / 2) 0 (bad % 2) (by omega) (by omega)
      rw [Nat.add_zero, show 2 * (bad / 2) + bad % 2 = bad by omega, Nat.zero_mul, Nat.add_zero] at h2
      have h3 := onesN_bit (i &&& (bad / 2)) 0 (by omega)
      rw [Nat.add_zero, Nat.zero_add] at h1 h3
      unfold inM
      rw [h1, h2, h3]
    have hO : ∀ i, inM bad s k (2 * i + 1) = decide (1 + onesN i = s ∧ bad % 2 + onesN (i &&& (bad / 2)) < k) := fun i => by
      have h1 := onesN_bit i 1 (by omega)
      have h2 := and_bit i (bad / 2) 1 (bad % 2) (by omega) (by omega)
      rw [show 2 * (bad / 2) + bad % 2 = bad by omega, Nat.one_mul] at h2
      have h3 := onesN_bit (i &&& (bad / 2)) (bad % 2) (by omega)
      unfold inM
      rw [h1, h2, h3]
    rw [show (2 : Nat) ^ (n + 1) = 2 * 2 ^ n by rw [Nat.pow_succ]; omega, cntTo_two, cntTo_same (2 ^ n) (fun i _ => hE i), cntTo_same (2 ^ n) (fun i _ => hO i), IH s k hb2 hk]
    generalize onesN (bad / 2) = b at *
    obtain ⟨c, rfl⟩ : ∃ c, n = b + c := ⟨n - b, by omega⟩
    rw [show b + c - b = c by omega] at *
    cases s with
    | zero =>
      rw [cntTo_none (f := fun i => decide (1 + onesN i = 0 ∧ bad % 2 + onesN (i &&& (bad / 2)) < k)) _ (fun i _ => by simp)]
      rcases (by omega : bad % 2 = 0 ∨ bad % 2 = 1) with hd | hd
      · rw [hone, hd, Nat.zero_add, show b + c + 1 - b = c + 1 by omega]
        rcases (by omega : k = 0 ∨ k = 1) with rfl | rfl
        · rfl
        · simp [sumB, bin_zero]
      · rw [hone, hd, show b + c + 1 - (1 + b) = c by omega, Nat.add_comm 1 b]
        rcases (by omega : k = 0 ∨ k = 1) with rfl | rfl
        · rfl
        · rw [sumB_bad0]; rfl
    | succ s =>
      rcases (by omega : bad % 2 = 0 ∨ bad % 2 = 1) with hd | hd
      · rw [hone, hd, Nat.zero_add, show b + c + 1 - b = c + 1 by omega]
        have e1 : ∀ i, decide (1 + onesN i = s + 1 ∧ 0 + onesN (i &&& (bad / 2)) < k) = inM (bad / 2) s (min k (s + 1)) i := fun i => by
          unfold inM
          have := onesN_and_le i (bad / 2)
          refine decide_eq_decide.2 ?_
          omega
        rw [cntTo_same _ (fun i _ => e1 i), IH s _ hb2 (by omega)]
        rcases (by omega : k ≤ s + 1 ∨ k = s + 1 + 1) with hk2 | rfl
        · rw [show min k (s + 1) = k by omega]
          exact (sumB_good b c s k hk2).symm
        · rw [show min (s + 1 + 1) (s + 1) = s + 1 by omega, sumB_all, sumB_all, sumB_all, show b + (c + 1) = b + c + 1 by omega, bin_succ]; omega
      · rw [hone, hd, show b + c + 1 - (1 + b) = c by omega, Nat.add_comm 1 b]
        cases k with
        | zero =>
          rw [cntTo_none (f := fun i => decide (1 + onesN i = s + 1 ∧ 1 + onesN (i &&& (bad / 2)) < 0)) _ (fun i _ => by simp)]
          rfl
        | succ k =>
          have e1 : ∀ i, decide (1 + onesN i = s + 1 ∧ 1 + onesN (i &&& (bad / 2)) < k + 1) = inM (bad / 2) s k i := fun i => by
            unfold inM
            refine decide_eq_decide.2 ?_
            omega
          rw [cntTo_same _ (fun i _ => e1 i), IH s k hb2 (by omega)]
          cases k with
          | zero => rw [sumB_bad0]; rfl
          | succ k => exact (sumB_bad b c s k (by omega)).symm
theorem count_all (n bad s : Nat) (h : bad < 2 ^ n) : cntTo (fun i => decide (onesN i = s)) (2 ^ n) = bin n s := by
  have h1 := count_in n bad s (s + 1) h (Nat.le_refl _)
  rw [sumB_all, show onesN bad + (n - onesN bad) = n by have := onesN_le_bits n bad h; omega] at h1
  rw [← h1]
  refine cntTo_same _ (fun i _ => ?_)
  unfold inM
  refine decide_eq_decide.2 ?_
  have := onesN_and_le i bad
  omega
theorem last_in (P : Nat → Bool) : ∀ m, (∃ j, j ≤ m ∧ P j = true ∧ ∀ i, i ≤ m → P i = true → i ≤ j) ∨ ∀ i, i ≤ m → P i = false
  | 0 => by
    cases h : P 0
    · exact .inr (fun i hi => by obtain rfl : i = 0 := by omega
                                 exact h)
    · exact .inl ⟨0, Nat.le_refl _, h, fun i hi _ => hi⟩
  | m + 1 => by
    cases h : P (m + 1)
    · rcases last_in P m with ⟨j, h1, h2, h3⟩ | h1
      · refine .inl ⟨j, by omega, h2, fun i hi hp => ?_⟩
        rcases (by omega : i ≤ m ∨ i = m + 1) with h4 | rfl
        · exact h3 i h4 hp
        · rw [h] at hp; cases hp
      · refine .inr (fun i hi => ?_)
        rcases (by omega : i ≤ m ∨ i = m + 1) with h4 | rfl
        · exact h1 i h4
        · exact h
    · exact .inl ⟨m + 1, Nat.le_refl _, h, fun i hi _ => hi⟩
/-- A sample of s bits that the bound excludes. -/
def outF (n s v u bad i : Nat) : Bool := decide (onesN i = s) && !possB n s (onesN (i &&& bad)) v u (onesN bad)
theorem covers_law (n s v u bad : Nat) (h : bad < 2 ^ n) : cntTo (outF n s v u bad) (2 ^ n) * u ≤ v * bin n s := by
  rcases last_in (fun j => !possB n s j v u (onesN bad)) s with ⟨j, h1, h2, h3⟩ | h1
  · have h4 : cntTo (outF n s v u bad) (2 ^ n) ≤ cntTo (inM bad s (j + 1)) (2 ^ n) := cntTo_le _ (fun i _ hi => by
      unfold outF at hi
      rw [Bool.and_eq_true, decide_eq_true_eq] at hi
      have h5 := onesN_and_le i bad
      have h6 := h3 (onesN (i &&& bad)) (by omega) hi.2
      unfold inM
      rw [decide_eq_true_eq]
      omega)
    rw [count_in n bad s (j + 1) h (by omega)] at h4
    have h5 : possB n s j v u (onesN bad) = false := by simpa using h2
    unfold possB at h5
    rw [decide_eq_false_iff_not, waysS_sum] at h5
    have h6 := Nat.mul_le_mul_right u h4
    omega
  · rw [cntTo_none _ (fun i _ => ?_)]
    · simp
    · unfold outF
      by_cases e : onesN i = s
      · have := onesN_and_le i bad
        have h2 : (!possB n s (onesN (i &&& bad)) v u (onesN bad)) = false := h1 (onesN (i &&& bad)) (by omega)
        rw [h2, Bool.and_false]
      · simp [e]
/-- Beyond what the bound allows a number of bad things is excluded. -/
theorem poss_down (n s se v u L : Nat) (hse : se ≤ s) (h : possB n s se v u L = false) : ∀ d, L + d ≤ n → possB n s se v u (L + d) = false
  | 0, _ => h
  | d + 1, hd => by
    have ih := poss_down n s se v u L hse h d (by omega)
    unfold possB at ih ⊢
    rw [decide_eq_false_iff_not] at ih ⊢
    have h2 := ways_down n (L + d) s se (by omega) hse
    have h3 := Nat.mul_le_mul_right u h2
    rw [show L + (d + 1) = L + d + 1 by omega]
    omega
#print axioms covers_law
#print axioms count_all
#print axioms poss_down
end Go.Proofs.Ytncjmndiafgaaaa
