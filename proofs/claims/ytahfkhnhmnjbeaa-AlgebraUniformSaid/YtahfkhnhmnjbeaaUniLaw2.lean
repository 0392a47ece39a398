/- Plain mathematics of AlgebraUniform, second part: the count. No program is in sight. -/
import Derived.Test.YtahfkhnhmnjbeaaUniLaw
import Derived.Test.YtahfkhnhmnjbeaaMath
namespace Go.Proofs.Ytahfkhnhmnjbeaa
theorem cU_const {F : Nat → Nat} {c j : Nat} : ∀ N, (∀ i, i < N → F i = c) → cU F N j = if c = j then N else 0
  | 0, _ => by simp [cU]
  | N + 1, h => by
    simp only [cU]
    rw [cU_const N fun i hi => h i (by omega), h N (by omega)]
    split <;> omega
theorem tb_none (seed a : List Bool) (n i : Nat) (h : ∀ k, a.getD k false = false) : ∀ k, tb seed a n i k = false
  | 0 => rfl
  | k + 1 => by
    simp only [tb]
    rw [tb_none seed a n i h k, h k]
    rfl
theorem cnt_zero {a : List Bool} (h : cnt a = 0) (k : Nat) : a.getD k false = false := by
  unfold cnt at h
  have h1 : a.filter id = [] := List.eq_nil_of_length_eq_zero h
  rw [List.filter_eq_nil_iff] at h1
  rw [List.getD_eq_getElem?_getD]
  cases hk : a[k]? with
  | none => rfl
  | some b =>
    have := h1 b (List.mem_of_getElem? hk)
    cases b <;> simp_all
theorem cnt_some {a : List Bool} (h : cnt a ≠ 0) : ∃ k, a.getD k false = true := by
  apply Classical.byContradiction
  intro hn
  apply h
  unfold cnt
  rw [List.length_eq_zero_iff, List.filter_eq_nil_iff]
  intro x hx hxt
  obtain ⟨k, hk⟩ := List.getElem?_of_mem hx
  apply hn
  refine ⟨k, ?_⟩
  rw [List.getD_eq_getElem?_getD, hk]
  simpa using hxt
theorem least {p : Nat → Bool} : ∀ k, p k = true → ∃ k1, k1 ≤ k ∧ p k1 = true ∧ ∀ i, i < k1 → p i = false := by
  intro k
  induction k using Nat.strongRecOn with
  | _ k ih =>
    intro h
    by_cases hx : ∃ i, i < k ∧ p i = true
    · obtain ⟨i, hi, hp⟩ := hx
      obtain ⟨k1, h1, h2, h3⟩ := ih i hi hp
      exact ⟨k1, by omega, h2, h3⟩
    · refine ⟨k, Nat.le_refl _, h, fun i hi => ?_⟩
      cases hb : p i with
      | false => rfl
      | true => exact absurd ⟨i, hi, hb⟩ hx
theorem uni_law (a : List Bool) (n m s j : Nat) (hl : a.length = n) (hn : 1 ≤ n) (hs : s = n + m - 1) (hj : j < 2 ^ m) : cU (hW a m s) (2 ^ s) j = wantU a n s j := by
  unfold wantU
  by_cases h0 : cnt a = 0
  · rw [if_pos h0]
    have hz : ∀ i, hW a m s i = 0 := fun i => by
      apply Nat.eq_of_testBit_eq
      intro u
      rw [hW_bit, tb_none _ _ _ _ (cnt_zero h0)]
      simp
    rw [cU_const (c := 0) _ fun i _ => hz i]
    by_cases e : j = 0
    · rw [if_pos e.symm, if_pos e]
    · rw [if_neg (Ne.symm e), if_neg e]
  · rw [if_neg h0]
    by_cases hm : m = 0
    · subst hm
      have hz : ∀ i, hW a 0 s i = 0 := fun i => by have := hW_lt a 0 s i; omega
      rw [cU_const (c := 0) _ fun i _ => hz i, if_pos (by omega), hs, Nat.add_zero]
    · obtain ⟨k0, hk0⟩ := cnt_some h0
      obtain ⟨k1, _, hk1, hlow⟩ := least (p := fun k => a.getD k false) k0 hk0
      try simp only at hk1 hlow
      have hkn : k1 < n := by
        apply Classical.byContradiction
        intro hge
        rw [List.getD_eq_getElem?_getD, List.getElem?_eq_none (by omega)] at hk1
        cases hk1
      have hsl : s = a.length + m - 1 := by rw [hl]; exact hs
      generalize hF : hW a m s = F
      have hadd : ∀ t i, i < 2 ^ t → F (2 ^ t + i) = F i ^^^ F (2 ^ t) := fun t i hi => by rw [← hF]; exact hW_add a m s t i hm hsl hi
      have hone : ∀ t u, t < s → (F (2 ^ t)).testBit u = (decide (u < m ∧ u ≤ t) && a.getD (t - u) false) := fun t u ht => by rw [← hF]; exact hW_one a m s t u hm hsl ht
      have hlt : ∀ i, F i < 2 ^ m := fun i => by rw [← hF]; exact hW_lt a m s i
      have hzero : F 0 = 0 := by
        have h := hadd 0 0 (by decide)
        rw [Nat.add_zero] at h
        have h2 : F 0 = F (2 ^ 0) ^^^ F (2 ^ 0) := by
          have := (xor_eq_iff (F 0) (F (2 ^ 0)) (F (2 ^ 0))).1 h.symm
          exact this
        rwa [Nat.xor_self] at h2
      -- the bits below the least one of a
      have stA : ∀ t, t ≤ k1 → ∀ j, cU F (2 ^ t) j = if j = 0 then 2 ^ t else 0 := by
        intro t
        induction t with
        | zero =>
          intro _ j
          simp only [Nat.pow_zero, cU, hzero]
          by_cases e : j = 0
          · subst e; simp
          · rw [if_neg (Ne.symm e), if_neg e]
        | succ t ih =>
          intro ht j
          have hv : F (2 ^ t) = 0 := by
            apply Nat.eq_of_testBit_eq
            intro u
            rw [hone t u (by omega), hlow (t - u) (by omega)]
            simp
          rw [cU_double (hadd t), hv, Nat.xor_zero, ih (by omega) j, Nat.pow_succ]
          split <;> omega
      -- the next m bits: one new bit of the hash each
      have stB : ∀ r, r ≤ m → ∀ j, cU F (2 ^ (k1 + r)) j = if j < 2 ^ r then 2 ^ k1 else 0 := by
        intro r
        induction r with
        | zero =>
          intro _ j
          rw [Nat.add_zero, stA k1 (Nat.le_refl _) j, Nat.pow_zero]
          by_cases e : j = 0
          · rw [if_pos e, if_pos (by omega)]
          · rw [if_neg e, if_neg (by omega)]
        | succ r ih =>
          intro hr j
          have hb : (F (2 ^ (k1 + r))).testBit r = true := by
            rw [hone (k1 + r) r (by omega), show k1 + r - r = k1 by omega, hk1]
            simp; omega
          have hge : 2 ^ r ≤ F (2 ^ (k1 + r)) := Nat.ge_two_pow_of_testBit hb
          have hlt2 : F (2 ^ (k1 + r)) < 2 ^ (r + 1) := by
            apply Nat.lt_pow_two_of_testBit
            intro u hu
            rw [hone (k1 + r) u (by omega)]
            by_cases h1 : u ≤ k1 + r
            · rw [hlow (k1 + r - u) (by omega)]; simp
            · simp [h1]
          have e2 : 2 ^ (r + 1) = 2 ^ r * 2 := Nat.pow_succ ..
          rw [show k1 + (r + 1) = (k1 + r) + 1 by omega, cU_double (hadd (k1 + r)), ih (by omega) j, ih (by omega)]
          generalize F (2 ^ (k1 + r)) = v at hge hlt2
          by_cases c1 : j < 2 ^ r
          · have c2 : ¬ j ^^^ v < 2 ^ r := fun h => by
              have h3 := xor_lt c1 h
              rw [← Nat.xor_assoc, Nat.xor_self, Nat.zero_xor] at h3
              omega
            rw [if_pos c1, if_neg c2, if_pos (by omega), Nat.add_zero]
          · by_cases c3 : j < 2 ^ (r + 1)
            · have c2 : j ^^^ v < 2 ^ r := top_clear (by omega) (by omega) (by omega) hge
              rw [if_neg c1, if_pos c2, if_pos c3]; omega
            · have c2 : ¬ j ^^^ v < 2 ^ (r + 1) := fun h => by
                have h3 := xor_lt h hlt2
                rw [Nat.xor_assoc, Nat.xor_self, Nat.xor_zero] at h3
                omega
              rw [if_neg c1, if_neg (by omega), if_neg c3]
      -- the rest doubles
      have stC : ∀ d, k1 + m + d ≤ s → ∀ j, j < 2 ^ m → cU F (2 ^ (k1 + m + d)) j = 2 ^ (k1 + d) := by
        intro d
        induction d with
        | zero => intro _ j hj; rw [Nat.add_zero, stB m (Nat.le_refl _) j, if_pos hj, Nat.add_zero]
        | succ d ih =>
          intro hd j hj
          rw [show k1 + m + (d + 1) = (k1 + m + d) + 1 by omega, cU_double (hadd _), ih (by omega) j hj, ih (by omega) _ (xor_lt hj (hlt _)), show k1 + (d + 1) = (k1 + d) + 1 by omega, Nat.pow_succ]
          omega
      have h := stC (n - 1 - k1) (by omega) j hj
      rw [show k1 + m + (n - 1 - k1) = s by omega, show k1 + (n - 1 - k1) = n - 1 by omega] at h
      exact h
end Go.Proofs.Ytahfkhnhmnjbeaa
