/- Plain mathematics of AlgebraUniform: each hash has as many seeds as any other. No program is in sight. -/
import Derived.Test.YthmooplhhkafcaaUniMath
namespace Go.Proofs.Ythmooplhhkafcaa
theorem cU_add (F : Nat → Nat) (N j : Nat) : ∀ K, cU F (N + K) j = cU F N j + cU (fun i => F (N + i)) K j
  | 0 => rfl
  | K + 1 => by
    rw [← Nat.add_assoc]
    simp only [cU]
    rw [cU_add F N j K, Nat.add_assoc]
theorem cU_congr {F G : Nat → Nat} {j k : Nat} : ∀ N, (∀ i, i < N → (F i = j ↔ G i = k)) → cU F N j = cU G N k
  | 0, _ => rfl
  | N + 1, h => by
    simp only [cU]
    rw [cU_congr N fun i hi => h i (by omega)]
    have := h N (by omega)
    by_cases e : F N = j
    · rw [if_pos e, if_pos (this.1 e)]
    · rw [if_neg e, if_neg fun h => e (this.2 h)]
theorem xor_eq_iff (x v j : Nat) : x ^^^ v = j ↔ x = j ^^^ v := by
  constructor
  · rintro rfl; rw [Nat.xor_assoc, Nat.xor_self, Nat.xor_zero]
  · rintro rfl; rw [Nat.xor_assoc, Nat.xor_self, Nat.xor_zero]
theorem cU_double {F : Nat → Nat} {t : Nat} (h : ∀ i, i < 2 ^ t → F (2 ^ t + i) = F i ^^^ F (2 ^ t)) (j : Nat) : cU F (2 ^ (t + 1)) j = cU F (2 ^ t) j + cU F (2 ^ t) (j ^^^ F (2 ^ t)) := by
  rw [show 2 ^ (t + 1) = 2 ^ t + 2 ^ t by rw [Nat.pow_succ]; omega, cU_add]
  congr 1
  exact cU_congr _ fun i hi => by rw [h i hi]; exact xor_eq_iff _ _ _
theorem wordV_bit (l : List Bool) : ∀ u, (wordV l).testBit u = (decide (u < l.length) && l.getD (l.length - 1 - u) false) := by
  suffices h : ∀ (r : List Bool) u, (wordV r.reverse).testBit u = (decide (u < r.length) && r.getD u false) by
    intro u
    have := h l.reverse u
    rw [List.reverse_reverse, List.length_reverse] at this
    rw [this]
    by_cases hu : u < l.length
    · simp only [hu, decide_true, Bool.true_and, List.getD_eq_getElem?_getD]
      rw [List.getElem?_reverse hu]
    · simp [hu]
  intro r
  induction r with
  | nil => intro u; simp [wordV]
  | cons b r ih =>
    intro u
    rw [List.reverse_cons, wordV_snoc]
    cases u with
    | zero => cases b <;> simp [Nat.testBit_zero] <;> omega
    | succ u =>
      rw [Nat.testBit_succ, show (2 * wordV r.reverse + if b = true then 1 else 0) / 2 = wordV r.reverse by split <;> omega, ih u]
      simp
theorem numL_getD (i s p : Nat) (hp : p < s) : (numL i s).getD p false = i.testBit (s - 1 - p) := by
  rw [List.getD_eq_getElem?_getD, Nat.testBit_eq_decide_div_mod_eq]
  simp [numL, hp]
  rw [Bool.eq_iff_iff]; simp
theorem hW_bit (a : List Bool) (m s i u : Nat) : (hW a m s i).testBit u = (decide (u < m) && tb (numL i s) a a.length (m - 1 - u) a.length) := by
  unfold hW
  rw [wordV_bit, toepL_len]
  by_cases hu : u < m
  · simp only [hu, decide_true, Bool.true_and, List.getD_eq_getElem?_getD]
    rw [List.getElem?_eq_getElem (by rw [toepL_len]; omega)]
    simp [toepL]
  · simp [hu]
theorem tb_seed (x y z a : List Bool) (n i : Nat) : ∀ k, k ≤ n → (∀ p, p < i + n → z.getD p false = (x.getD p false != y.getD p false)) → tb z a n i k = (tb x a n i k != tb y a n i k)
  | 0, _, _ => rfl
  | k + 1, hk, h => by
    simp only [tb]
    rw [tb_seed x y z a n i k (by omega) h, h (i + (n - 1 - k)) (by omega)]
    cases tb x a n i k <;> cases tb y a n i k <;> cases a.getD k false <;> cases x.getD (i + (n - 1 - k)) false <;> cases y.getD (i + (n - 1 - k)) false <;> rfl
theorem pow_add_bit (t i q : Nat) (hi : i < 2 ^ t) : (2 ^ t + i).testBit q = (i.testBit q != (2 ^ t).testBit q) := by
  have e := Nat.two_pow_add_eq_or_of_lt hi 1
  rw [Nat.mul_one] at e
  rw [e, Nat.testBit_or, Nat.testBit_two_pow]
  by_cases h : t = q
  · subst h
    rw [Nat.testBit_lt_two_pow hi]; simp
  · simp [h]
theorem hW_add (a : List Bool) (m s t i : Nat) (hm : m ≠ 0) (hs : s = a.length + m - 1) (hi : i < 2 ^ t) : hW a m s (2 ^ t + i) = hW a m s i ^^^ hW a m s (2 ^ t) := by
  apply Nat.eq_of_testBit_eq
  intro u
  rw [Nat.testBit_xor, hW_bit, hW_bit, hW_bit]
  by_cases hu : u < m
  · simp only [hu, decide_true, Bool.true_and]
    exact tb_seed _ _ _ a a.length (m - 1 - u) a.length (Nat.le_refl _) fun p hp => by
      rw [numL_getD _ _ _ (by omega), numL_getD _ _ _ (by omega), numL_getD _ _ _ (by omega)]
      exact pow_add_bit t i _ hi
  · simp [hu]
/-- A seed with one bit: the hash shows one bit of a. -/
theorem tb_one (a seed : List Bool) (n i c : Nat) (h : ∀ p, p < i + n → seed.getD p false = decide (p = c)) : ∀ k, k ≤ n → tb seed a n i k = (decide (i ≤ c ∧ c - i < n ∧ n - 1 - (c - i) < k) && a.getD (n - 1 - (c - i)) false)
  | 0, _ => by simp [tb]
  | k + 1, hk => by
    simp only [tb]
    rw [tb_one a seed n i c h k (by omega), h (i + (n - 1 - k)) (by omega)]
    by_cases e : i + (n - 1 - k) = c
    · have e1 : n - 1 - (c - i) = k := by omega
      have e2 : i ≤ c ∧ c - i < n := by omega
      simp [e, e1, e2]
    · by_cases e3 : i ≤ c ∧ c - i < n ∧ n - 1 - (c - i) < k
      · have e4 : i ≤ c ∧ c - i < n ∧ n - 1 - (c - i) < k + 1 := by omega
        simp [e, e3, e4]
      · have e4 : ¬ (i ≤ c ∧ c - i < n ∧ n - 1 - (c - i) < k + 1) := by omega
        simp [e, e3, e4]
theorem hW_one (a : List Bool) (m s t u : Nat) (hm : m ≠ 0) (hs : s = a.length + m - 1) (ht : t < s) : (hW a m s (2 ^ t)).testBit u = (decide (u < m ∧ u ≤ t) && a.getD (t - u) false) := by
  rw [hW_bit]
  by_cases hu : u < m
  · rw [tb_one a _ a.length (m - 1 - u) (s - 1 - t) (fun p hp => by
      rw [numL_getD _ _ _ (by omega), Nat.testBit_two_pow]
      rw [Bool.eq_iff_iff]; simp; omega) a.length (Nat.le_refl _)]
    simp only [hu, decide_true, Bool.true_and]
    by_cases h1 : u ≤ t ∧ t - u < a.length
    · have e : a.length - 1 - (s - 1 - t - (m - 1 - u)) = t - u := by omega
      rw [e]
      congr 1
      rw [Bool.eq_iff_iff]; simp; omega
    · have e1 : decide (m - 1 - u ≤ s - 1 - t ∧ s - 1 - t - (m - 1 - u) < a.length ∧ a.length - 1 - (s - 1 - t - (m - 1 - u)) < a.length) = false := by
        rw [decide_eq_false_iff_not]; omega
      rw [e1]
      by_cases h2 : u ≤ t
      · have h3 : a.getD (t - u) false = false := by
          rw [List.getD_eq_getElem?_getD, List.getElem?_eq_none (by omega)]; rfl
        rw [h3]; simp
      · simp [h2]
  · simp [hu]
end Go.Proofs.Ythmooplhhkafcaa
