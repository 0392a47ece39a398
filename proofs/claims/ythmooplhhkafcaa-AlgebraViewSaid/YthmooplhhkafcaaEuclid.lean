/- Plain mathematics: Euclid's steps on polynomials find the inverse. No program is in sight. -/
import Derived.Test.YthmooplhhkafcaaRefMath
namespace Go.Proofs.Ythmooplhhkafcaa
set_option linter.unusedSectionVars false
set_option linter.unusedVariables false
/-- The product of two polynomials. -/
def cm (a b : Nat) : Nat := if h : a = 0 then 0 else (if a % 2 = 1 then b else 0) ^^^ 2 * cm (a / 2) b
termination_by a
decreasing_by omega
theorem cm_zero_left (b : Nat) : cm 0 b = 0 := by rw [cm]; simp
theorem cm_step (a b : Nat) : cm a b = (if a % 2 = 1 then b else 0) ^^^ 2 * cm (a / 2) b := by
  by_cases h : a = 0
  · subst h; simp [cm_zero_left]
  · rw [cm, dif_neg h]
theorem cm_ind {P : Nat → Prop} (h0 : P 0) (hs : ∀ a, a ≠ 0 → P (a / 2) → P a) : ∀ a, P a := by
  intro a
  induction a using Nat.strongRecOn with
  | _ a ih =>
    by_cases h : a = 0
    · subst h; exact h0
    · exact hs a h (ih _ (by omega))
theorem cm_zero_right (a : Nat) : cm a 0 = 0 := by
  refine cm_ind (P := fun a => cm a 0 = 0) (cm_zero_left 0) (fun a _ ih => ?_) a
  rw [cm_step, ih]; simp
theorem cm_xor_right (a b c : Nat) : cm a (b ^^^ c) = cm a b ^^^ cm a c := by
  refine cm_ind (P := fun a => cm a (b ^^^ c) = cm a b ^^^ cm a c) (by simp [cm_zero_left]) (fun a _ ih => ?_) a
  rw [cm_step, cm_step a b, cm_step a c, ih, two_xor, xor4 (if a % 2 = 1 then b else 0)]
  congr 1
  split <;> simp
theorem cm_xor_left (b : Nat) : ∀ (n s t : Nat), s + t ≤ n → cm (s ^^^ t) b = cm s b ^^^ cm t b := by
  intro n
  induction n with
  | zero =>
    intro s t h
    obtain rfl : s = 0 := by omega
    obtain rfl : t = 0 := by omega
    simp [cm_zero_left]
  | succ n ih =>
    intro s t h
    by_cases h0 : s = 0 ∧ t = 0
    · obtain ⟨rfl, rfl⟩ := h0; simp [cm_zero_left]
    · rw [cm_step, cm_step s, cm_step t, xor_half, ih (s / 2) (t / 2) (by omega), two_xor, xor4 (if s % 2 = 1 then b else 0)]
      congr 1
      rw [xor_odd]
      rcases Nat.mod_two_eq_zero_or_one s with h | h <;> rcases Nat.mod_two_eq_zero_or_one t with h' | h' <;> simp [h, h']
theorem cm_two_left (s b : Nat) : cm (2 * s) b = 2 * cm s b := by
  rw [cm_step, if_neg (by omega), Nat.zero_xor, Nat.mul_div_cancel_left _ (by decide)]
theorem cm_two_right (s b : Nat) : cm s (2 * b) = 2 * cm s b := by
  refine cm_ind (P := fun s => cm s (2 * b) = 2 * cm s b) (by simp [cm_zero_left]) (fun s _ ih => ?_) s
  rw [cm_step, cm_step s b, ih, two_xor]
  congr 1
  split <;> simp
theorem cm_shl (s b : Nat) : ∀ n, cm s (b * 2 ^ n) = cm (s * 2 ^ n) b
  | 0 => by simp
  | n + 1 => by
    rw [Nat.pow_succ, ← Nat.mul_assoc, Nat.mul_comm _ 2, cm_two_right, ← Nat.mul_assoc, Nat.mul_comm _ 2, cm_two_left, cm_shl s b n]
theorem cm_one_left (b : Nat) : cm 1 b = b := by rw [cm_step]; simp [cm_zero_left]
theorem cm_big {d v : Nat} (h1 : 2 ^ d ≤ v) (h2 : v < 2 ^ (d + 1)) (t : Nat) (ht : t ≠ 0) : 2 ^ d ≤ cm t v := by
  revert ht
  refine cm_ind (P := fun t => t ≠ 0 → 2 ^ d ≤ cm t v) (fun h => absurd rfl h) (fun t _ ih ht => ?_) t
  by_cases h0 : t / 2 = 0
  · obtain rfl : t = 1 := by omega
    rw [cm_one_left]; exact h1
  · have h3 := ih h0
    rw [cm_step]
    have hb : (if t % 2 = 1 then v else 0) < 2 ^ (d + 1) := by split; exact h2; exact Nat.two_pow_pos _
    generalize (if t % 2 = 1 then v else 0) = x at hb
    generalize cm (t / 2) v = y at h3
    have h4 : (x ^^^ 2 * y) / 2 ^ (d + 1) = 2 * y / 2 ^ (d + 1) := by
      rw [← Nat.shiftRight_eq_div_pow, Nat.shiftRight_xor_distrib, Nat.shiftRight_eq_div_pow, Nat.div_eq_of_lt hb, Nat.zero_xor, Nat.shiftRight_eq_div_pow]
    have h5 : 1 ≤ (x ^^^ 2 * y) / 2 ^ (d + 1) := by
      rw [h4]; exact (Nat.le_div_iff_mul_le (Nat.two_pow_pos _)).2 (by rw [Nat.pow_succ]; omega)
    have h6 := (Nat.le_div_iff_mul_le (Nat.two_pow_pos _)).1 h5
    rw [Nat.pow_succ] at h6
    omega
def Bez (u v : Nat) : Prop := ∃ s t, cm s u ^^^ cm t v = 1
theorem Bez.symm {u v : Nat} (h : Bez u v) : Bez v u := by obtain ⟨s, t, h⟩ := h; exact ⟨t, s, by rw [Nat.xor_comm]; exact h⟩
theorem Bez.step {u v : Nat} (h : Bez u v) (n : Nat) : Bez (u ^^^ v * 2 ^ n) v := by
  obtain ⟨s, t, h⟩ := h
  refine ⟨s, s * 2 ^ n ^^^ t, ?_⟩
  rw [cm_xor_right, cm_shl, cm_xor_left v _ _ _ (Nat.le_refl _), Nat.xor_assoc, ← Nat.xor_assoc (cm (s * 2 ^ n) v), Nat.xor_self, Nat.zero_xor]
  exact h
theorem Bez.zero {v : Nat} (h : Bez 0 v) : v = 1 := by
  obtain ⟨s, t, h⟩ := h
  rw [cm_zero_right, Nat.zero_xor] at h
  have ht : t ≠ 0 := by rintro rfl; rw [cm_zero_left] at h; exact absurd h (by decide)
  rcases Nat.lt_or_ge v 2 with h1 | h1
  · have : v = 0 ∨ v = 1 := by omega
    rcases this with rfl | rfl
    · rw [cm_zero_right] at h; exact absurd h (by decide)
    · rfl
  · exfalso
    have h2 := cm_big (d := Nat.log2 v) (Nat.log2_self_le (by omega)) Nat.lt_log2_self t ht
    have h3 : 2 ^ 1 ≤ 2 ^ Nat.log2 v := Nat.pow_le_pow_right (by omega) ((Nat.le_log2 (by omega)).2 (by simpa using h1))
    omega
section
variable {w : Nat} (hw : IsW w)
include hw
theorem act_cm : ∀ (f s v : Nat), v < 2 ^ w → s < 2 ^ f → ∃ q, act w f s v ^^^ cm s v = cm q (modN w)
  | 0, s, v, _, hs => by
    obtain rfl : s = 0 := by simpa using hs
    exact ⟨0, by simp [act, cm_zero_left]⟩
  | f + 1, s, v, hv, hs => by
    obtain ⟨q, hq⟩ := act_cm f (s / 2) (xt w v) (xt_lt hw hv) (by rw [Nat.pow_succ] at hs; omega)
    have e1 : cm (s / 2) (xt w v) = 2 * cm (s / 2) v ^^^ cm (if v.testBit (w - 1) then s / 2 else 0) (modN w) := by
      rw [xt_eq w v hv, cm_xor_right, cm_two_right]
      congr 1
      split
      · rfl
      · rw [cm_zero_right, cm_zero_left]
    refine ⟨q ^^^ (if v.testBit (w - 1) then s / 2 else 0), ?_⟩
    rw [cm_xor_left _ _ _ _ (Nat.le_refl _), ← hq, e1]
    show ((if s % 2 = 1 then v else 0) ^^^ act w f (s / 2) (xt w v)) ^^^ cm s v = _
    rw [cm_step s v, xor4, Nat.xor_self, Nat.zero_xor, Nat.xor_assoc, xor_cancel]
theorem bez_start {a : Nat} (ha : a < 2 ^ w) (h0 : a ≠ 0) : Bez a (modN w) := by
  obtain ⟨q, hq⟩ := act_cm hw 64 (inv w a) a ha (lt64 hw (inv_lt hw a))
  rw [← gm_act hw, gm_inv hw ha h0] at hq
  exact ⟨inv w a, q, by rw [← hq, Nat.xor_comm 1, ← Nat.xor_assoc, Nat.xor_self, Nat.zero_xor]⟩
end
/-- The state of Euclid's steps: lu and lv are the lengths of u and v. -/
structure Euc (w a u v x y lu lv : Nat) : Prop where
  u1 : 2 ^ (lu - 1) ≤ u
  u2 : u < 2 ^ lu
  u3 : 1 ≤ lu
  u4 : lu ≤ w + 1
  v1 : 2 ^ (lv - 1) ≤ v
  v2 : v < 2 ^ lv
  v3 : 2 ≤ lv
  v4 : lv ≤ w + 1
  x1 : x < 2 ^ (w + 2 - lv)
  y1 : y < 2 ^ (w + 2 - lu)
  xu : act w 64 u 1 = act w 64 x a
  yv : act w 64 v 1 = act w 64 y a
  bez : Bez u v
/-- What is known of a length. -/
def LenIs (u l : Nat) : Prop := u < 2 ^ l ∧ (u ≠ 0 → 1 ≤ l ∧ 2 ^ (l - 1) ≤ u)
theorem LenIs.unique {u l m : Nat} (h : LenIs u l) (h0 : u ≠ 0) (h1 : 2 ^ (m - 1) ≤ u) (h2 : u < 2 ^ m) (h3 : 1 ≤ m) : l = m := by
  obtain ⟨a1, a2⟩ := h
  obtain ⟨a2, a3⟩ := a2 h0
  rcases Nat.lt_trichotomy l m with hlt | heq | hgt
  · have := Nat.pow_le_pow_right (show 0 < 2 by omega) (show l ≤ m - 1 by omega); omega
  · exact heq
  · have := Nat.pow_le_pow_right (show 0 < 2 by omega) (show m ≤ l - 1 by omega); omega
section
variable {w : Nat} (hw : IsW w)
include hw
theorem Euc.start {a : Nat} (ha : a < 2 ^ w) (h0 : a ≠ 0) : ∃ lu, Euc w a a (modN w) 1 0 lu (w + 1) := by
  have hp := hw.pos
  refine ⟨Nat.log2 a + 1, ⟨by simpa using Nat.log2_self_le h0, Nat.lt_log2_self, by omega, ?_, by simpa using modN_ge hw, by rw [Nat.pow_succ]; exact modN_lt hw, by omega, by omega, by simp, Nat.two_pow_pos _, ?_, ?_, bez_start hw ha h0⟩⟩
  · have := (Nat.log2_lt h0).2 ha; omega
  · rw [act_self hw ha, show act w 64 1 a = gm w a 1 from (gm_act hw a 1).symm, gm_one hw]
  · rw [act_zero]; exact red_modN hw
theorem shl_act {v n x : Nat} (hv : v * 2 ^ n < 2 ^ 64) (hn : n < 64) (hx : x < 2 ^ w) : act w 64 (v * 2 ^ n) x = xtN w n (act w 64 v x) := by
  have h := act_shl w n 64 v x
  rw [act_more w 64 _ x hv n] at h
  rw [h, act_xtN hw n 64 v hx]
theorem Euc.next {a u v x y lu lv : Nat} (ha : a < 2 ^ w) (h : Euc w a u v x y lu lv) (hle : lv ≤ lu) :
    v * 2 ^ (lu - lv) < 18446744073709551616 ∧ y * 2 ^ (lu - lv) < 18446744073709551616 ∧ u < 9223372036854775808 ∧ x < 9223372036854775808 ∧
      ∃ lu', lu' < lu ∧ Euc w a (u ^^^ v * 2 ^ (lu - lv)) v (x ^^^ y * 2 ^ (lu - lv)) y lu' lv := by
  have hwl := hw.le
  have h1 := h.u1; have h2 := h.u2; have h3 := h.u3; have h4 := h.u4; have h5 := h.v1; have h6 := h.v2; have h7 := h.v3; have h8 := h.v4; have h9 := h.x1; have h10 := h.y1
  have e1 : 2 ^ lu = 2 ^ lv * 2 ^ (lu - lv) := by rw [← Nat.pow_add]; congr 1; omega
  have e2 : 2 ^ (lu - 1) = 2 ^ (lv - 1) * 2 ^ (lu - lv) := by rw [← Nat.pow_add]; congr 1; omega
  have e3 : 2 ^ (w + 2 - lv) = 2 ^ (w + 2 - lu) * 2 ^ (lu - lv) := by rw [← Nat.pow_add]; congr 1; omega
  have g1 : v * 2 ^ (lu - lv) < 2 ^ lu := by rw [e1]; exact Nat.mul_lt_mul_of_pos_right h6 (Nat.two_pow_pos _)
  have g2 : 2 ^ (lu - 1) ≤ v * 2 ^ (lu - lv) := by rw [e2]; exact Nat.mul_le_mul_right _ h5
  have g3 : y * 2 ^ (lu - lv) < 2 ^ (w + 2 - lv) := by rw [e3]; exact Nat.mul_lt_mul_of_pos_right h10 (Nat.two_pow_pos _)
  have p1 : (2 : Nat) ^ lu ≤ 2 ^ 33 := Nat.pow_le_pow_right (by omega) (by omega)
  have p2 : (2 : Nat) ^ (w + 2 - lv) ≤ 2 ^ 32 := Nat.pow_le_pow_right (by omega) (by omega)
  refine ⟨by omega, by omega, by omega, by omega, ?_⟩
  have e4 : 2 ^ lu = 2 ^ (lu - 1) * 2 := by rw [← Nat.pow_succ]; congr 1; omega
  have hu' : u ^^^ v * 2 ^ (lu - lv) < 2 ^ (lu - 1) := top_clear (by rw [← e4]; exact h2) h1 (by rw [← e4]; exact g1) g2
  have hbez := h.bez.step (lu - lv)
  have hne : u ^^^ v * 2 ^ (lu - lv) ≠ 0 := by
    intro h0
    rw [h0] at hbez
    have := hbez.zero
    subst this
    have : (2 : Nat) ^ 1 ≤ 2 ^ (lv - 1) := Nat.pow_le_pow_right (by omega) (by omega)
    omega
  have hl : Nat.log2 (u ^^^ v * 2 ^ (lu - lv)) < lu - 1 := (Nat.log2_lt hne).2 hu'
  refine ⟨Nat.log2 (u ^^^ v * 2 ^ (lu - lv)) + 1, by omega, ⟨by simpa using Nat.log2_self_le hne, Nat.lt_log2_self, by omega, by omega, h5, h6, h7, h8, xor_lt h9 g3, Nat.lt_of_lt_of_le h10 (Nat.pow_le_pow_right (by omega) (by omega)), ?_, h.yv, hbez⟩⟩
  rw [act_xor_left hw _ _ _ _ (one_lt' hw), act_xor_left hw _ _ _ _ ha, h.xu, shl_act hw (by omega) (by omega) (one_lt' hw), shl_act hw (by omega) (by omega) ha, h.yv]
omit hw in
theorem Euc.swap {w a u v x y lu lv : Nat} (h : Euc w a u v x y lu lv) (h1 : u ≠ 1) (hlt : lu < lv) : Euc w a v u y x lv lu :=
  ⟨h.v1, h.v2, by have := h.v3; omega, h.v4, h.u1, h.u2, by
    rcases Nat.lt_or_ge lu 2 with h2 | h2
    · obtain rfl : lu = 1 := by have := h.u3; omega
      have := h.u1; have := h.u2; simp at *; omega
    · exact h2, h.u4, h.y1, h.x1, h.yv, h.xu, h.bez.symm⟩
theorem Euc.done {a v x y lu lv : Nat} (ha : a < 2 ^ w) (h : Euc w a 1 v x y lu lv) : x = inv w a := by
  have hx : x < 2 ^ w := Nat.lt_of_lt_of_le h.x1 (Nat.pow_le_pow_right (by omega) (by have := h.v3; omega))
  refine inv_unique hw ha hx ?_
  rw [gm_act hw, ← h.xu, act_self hw (one_lt' hw)]
end
end Go.Proofs.Ythmooplhhkafcaa
