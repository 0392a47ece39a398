/- Contracts of the reference's functions of the finite fields: they return what the program's return. Conditions: as each statement says. -/
import Derived.Test.YthmooplhhkafcaaProg
import Derived.Test.YthmooplhhkafcaaField
import Derived.Test.YthmooplhhkafcaaRefMath
namespace Go.Proofs.Ythmooplhhkafcaa
open Go.RowKit
theorem refModulus_any (n : Int) (w : World) (hn : n = 8 ∨ n = 16 ∨ n = 32) :
    Calls Try.prog 100 #[.int .i64 n] w fun e w' => e = .returned (.int .u64 (modN n.toNat)) ∧ w = w' := by
  rcases hn with rfl | rfl | rfl
  all_goals
    go_enter Try.func100, Try.ntmps100
    go_wp2
    go_ret
    exact ⟨rfl, rfl⟩
theorem pow_cast (k : Nat) : ((2 : Int) ^ k) = ((2 ^ k : Nat) : Int) := by simp
theorem bit_yes {b k : Nat} (h : (((b : Int) / 2 ^ k).tmod 2 == 1) = true) : b / 2 ^ k % 2 = 1 := by
  have h := eq_of_beq h
  rw [pow_cast, ← Int.natCast_ediv, Int.tmod_eq_emod_of_nonneg (Int.natCast_nonneg _)] at h
  omega
theorem bit_no {b k : Nat} (h : (((b : Int) / 2 ^ k).tmod 2 == 1) = false) : ¬ b / 2 ^ k % 2 = 1 := by
  have h := ne_of_beq_false h
  rw [pow_cast, ← Int.natCast_ediv, Int.tmod_eq_emod_of_nonneg (Int.natCast_nonneg _)] at h
  omega
theorem shl_val {m a k : Nat} (hm : m < 9223372036854775808) (ha : a * 2 ^ k < 18446744073709551616) : bits .xor .u64 (m : Int) (IntKind.u64.wrap ((a : Int) * 2 ^ k)) = ((m ^^^ a * 2 ^ k : Nat) : Int) := by
  rw [pow_cast, ← Int.natCast_mul, IntKind.wrap_u64, Int.emod_eq_of_lt (by omega) (by omega), u64_xor_nat _ _ (by omega) ha]
set_option maxHeartbeats 400000 in
theorem refMul_nat (n a b : Nat) (hn : IsW n) (ha : a < 2 ^ n) (hb : b < 2 ^ n) (w : World) :
    Calls Try.prog 89 #[.int .i64 n, .int .u64 a, .int .u64 b] w fun e w' => e = .returned (.int .u64 (gm n a b)) ∧ w = w' := by
  have hq := hn.le
  have hq' := hn.pos
  have hp := hn.pow
  have HW := Lib.hid hn; clear hn
  go_enter Try.func89, Try.ntmps89
  go_wp2
  go_loop [7, 8] (fun m i => ∃ k m' : Nat, k ≤ n ∧ i = .int .i64 k ∧ m = .int .u64 m' ∧ Mul1 n a b k m') (fun _ i => n - (intOf i).toNat)
  case atStart => exact ⟨0, 0, Nat.zero_le _, rfl, rfl, mul1_zero HW.out a b⟩
  case round =>
    obtain ⟨k, m, hk, rfl, rfl, hm⟩ := hrel
    have hmb := mul_bound HW.out (j := n + (k - 1)) hm.1 (by omega)
    have HM := Lib.hid hm; clear hm
    by_cases hlt : k < n
    · go_wp2
      · have h1 := bit_yes (by assumption)
        have ha2 : a * 2 ^ k < 18446744073709551616 := Nat.lt_of_lt_of_le (shl_lt HW.out (i := k) ha) (Nat.le_trans (Nat.pow_le_pow_right (by omega) (show n + k ≤ 64 by omega)) (by decide))
        exact ⟨⟨k + 1, m ^^^ a * 2 ^ k, by omega, by go_num, by rw [shl_val hmb ha2], mul1_add HW.out ha hlt HM.out h1⟩, by simp [intOf]; omega⟩
      · have h1 := bit_no (by assumption)
        exact ⟨⟨k + 1, m, by omega, by go_num, rfl, mul1_skip HW.out HM.out h1⟩, by simp [intOf]; omega⟩
    · go_wp2
      obtain rfl : k = n := by omega
      have hs := mul2_start HW.out hb HM.out
      have HS := Lib.hid hs; clear hs HM hmb
      go_loop [7, 9] (fun m i => ∃ j m' : Nat, k ≤ j ∧ j ≤ 2 * k - 1 ∧ i = .int .i64 ((j : Int) - 1) ∧ m = .int .u64 m' ∧ Mul2 k a b j m') (fun _ i => (intOf i + 1).toNat)
      case atStart => exact ⟨2 * k - 1, m, by omega, by omega, by go_num, rfl, HS.out⟩
      case round =>
        obtain ⟨j, m2, hj, hj2, rfl, rfl, hm⟩ := hrel
        have hmb := mul_bound HW.out hm.1 (by omega)
        have HM := Lib.hid hm; clear hm
        by_cases hlt2 : k < j
        · obtain ⟨i, rfl⟩ : ∃ i, j = i + 1 := ⟨j - 1, by omega⟩
          have hsub : ((i : Int) - (k : Int)) = ((i - k : Nat) : Int) := by omega
          have hik : 0 ≤ (i : Int) - (k : Int) := by omega
          have hik2 : (i : Int) - (k : Int) ≤ 64 := by omega
          have HSUB := Lib.hid hsub; clear hsub
          go_wp2_with (go_at_call 100; refine (refModulus_any _ _ (by have := HW.out; unfold IsW at this; omega)).mono ?_; rintro e w' ⟨rfl, rfl⟩)
          · have h1 := bit_yes (by assumption)
            have hq2 : modN k * 2 ^ (i - k) < 18446744073709551616 := by
              have : modN k < 2 ^ 33 := by have := modN_lt HW.out; omega
              calc modN k * 2 ^ (i - k) ≤ modN k * 2 ^ 31 := Nat.mul_le_mul_left _ (Nat.pow_le_pow_right (by omega) (by omega))
                _ < 2 ^ 33 * 2 ^ 31 := Nat.mul_lt_mul_of_pos_right this (by decide)
                _ = 18446744073709551616 := by decide
            exact ⟨⟨i, m2 ^^^ modN k * 2 ^ (i - k), by omega, by omega, by go_num, by rw [shl_val hmb hq2], mul2_add HW.out (by omega) (by omega) HM.out h1⟩, by simp [intOf]⟩
          · have h1 := bit_no (by assumption)
            exact ⟨⟨i, m2, by omega, by omega, by go_num, rfl, mul2_skip HW.out HM.out h1⟩, by simp [intOf]⟩
        · go_wp2
          go_ret
          obtain rfl : j = k := by omega
          exact ⟨ret_int (by rw [mul2_end HW.out HM.out]), rfl⟩
theorem refMul_any (n a b : Int) (hn : n = 8 ∨ n = 16 ∨ n = 32) (ha0 : 0 ≤ a) (ha : a.toNat < 2 ^ n.toNat) (hb0 : 0 ≤ b) (hb : b.toNat < 2 ^ n.toNat) (w : World) :
    Calls Try.prog 89 #[.int .i64 n, .int .u64 a, .int .u64 b] w fun e w' => e = .returned (.int .u64 (gm n.toNat a.toNat b.toNat)) ∧ w = w' := by
  have h := refMul_nat n.toNat a.toNat b.toNat (by unfold IsW; omega) ha hb w
  rw [toNat_cast_eq (by omega), toNat_cast_eq ha0, toNat_cast_eq hb0] at h
  exact h

set_option maxHeartbeats 400000 in
/-- Power: the power, by squares. -/
theorem power_any (n : Int) (hn : n = 8 ∨ n = 16 ∨ n = 32) (a e0 : Nat) (he0 : e0 ≤ 9223372036854775807) (ha : a < 2 ^ n.toNat) (w : World) :
    Calls Try.prog 101 #[.int .i64 n, .int .u64 a, .int .i64 e0] w fun e w' => e = .returned (.int .u64 (pw n.toNat a e0)) ∧ w = w' := by
  have hw : IsW n.toNat := by unfold IsW; omega
  have hp := hw.pow
  have HW := Lib.hid hw; clear hw
  have HN := Lib.hid hn; clear hn
  go_enter Try.func101, Try.ntmps101
  go_wp2
  go_loop [1, 2, 7] (fun x y z => ∃ b k o : Nat, b < 2 ^ n.toNat ∧ k ≤ 9223372036854775807 ∧ o < 2 ^ n.toNat ∧ x = .int .u64 b ∧ y = .int .i64 k ∧ z = .int .u64 o ∧ pw n.toNat a e0 = gm n.toNat o (pw n.toNat b k)) (fun _ y _ => (intOf y).toNat)
  case atStart => exact ⟨a, e0, 1, ha, he0, one_lt' HW.out, rfl, rfl, rfl, (one_gm HW.out (pw_lt HW.out _)).symm⟩
  case round =>
    obtain ⟨b, k, o, hb, hk, ho, rfl, rfl, rfl, hr⟩ := hrel
    have HR := Lib.hid hr; clear hr
    by_cases h0 : k = 0
    · subst h0
      go_wp2
      go_ret
      exact ⟨ret_int (by rw [HR.out, show pw n.toNat b 0 = 1 from rfl, gm_one HW.out]), rfl⟩
    · have hlt : 0 < (k : Int) := by omega
      have hsq : gm n.toNat b b < 2 ^ n.toNat := gm_lt HW.out hb
      have hst : pw n.toNat b k = if k % 2 = 1 then gm n.toNat b (pw n.toNat (gm n.toNat b b) (k / 2)) else pw n.toNat (gm n.toNat b b) (k / 2) := by
        have hs2 : ∀ j, pw n.toNat b (j + j) = pw n.toNat (gm n.toNat b b) j := by
          intro j
          induction j with
          | zero => rfl
          | succ j ih =>
            show pw n.toNat b (j + 1 + (j + 1)) = gm n.toNat (pw n.toNat (gm n.toNat b b) j) (gm n.toNat b b)
            rw [show j + 1 + (j + 1) = (j + j) + 2 by omega, pw_add HW.out hb, ih]
            congr 1
            show gm n.toNat (gm n.toNat 1 b) b = _
            rw [one_gm HW.out hb]
        split
        · rw [show k = 1 + (k / 2 + k / 2) by omega, pw_add HW.out hb, pw_one HW.out hb, hs2]
          congr 2; omega
        · rw [show k = (k / 2 + k / 2) by omega, hs2]; congr 1; omega
      rw [hst] at HR
      have hkk : (k : Int) / 2 = ((k / 2 : Nat) : Int) := by omega
      by_cases hodd : k % 2 = 1
      · have ht : ((k : Int) % 2 == 1) = true := by rw [beq_iff_eq]; omega
        rw [if_pos hodd] at HR
        clear hodd hst h0
        have HK := Lib.hid hkk; clear hkk
        have hob : gm n.toNat o b < 2 ^ n.toNat := gm_lt HW.out ho
        go_wp2_with (go_at_call 89; refine (refMul_any _ _ _ HN.out (by omega) (by simpa using ‹_›) (by omega) (by simpa using ‹_›) _).mono ?_; rintro e w' ⟨rfl, rfl⟩)
        exact ⟨⟨gm n.toNat b b, k / 2, gm n.toNat o b, hsq, by omega, hob, rfl, by rw [HK.out], rfl, by rw [HR.out, gm_assoc HW.out ho hb (pw_lt HW.out _)]⟩, by simp [intOf]; omega⟩
      · have ht : ((k : Int) % 2 == 1) = false := by rw [beq_eq_false_iff_ne]; omega
        rw [if_neg hodd] at HR
        clear hodd hst h0
        have HK := Lib.hid hkk; clear hkk
        go_wp2_with (go_at_call 89; refine (refMul_any _ _ _ HN.out (by omega) (by simpa using ‹_›) (by omega) (by simpa using ‹_›) _).mono ?_; rintro e w' ⟨rfl, rfl⟩)
        exact ⟨⟨gm n.toNat b b, k / 2, o, hsq, by omega, ho, rfl, by rw [HK.out], rfl, HR.out⟩, by simp [intOf]; omega⟩
theorem refInverse_any (n : Int) (hn : n = 8 ∨ n = 16 ∨ n = 32) (a : Nat) (ha : a < 2 ^ n.toNat) (w : World) :
    Calls Try.prog 90 #[.int .i64 n, .int .u64 a] w fun e w' => e = .returned (.int .u64 (inv n.toNat a)) ∧ w = w' := by
  rcases hn with rfl | rfl | rfl
  · have h := fun w => power_any 8 (.inl rfl) a 254 (by decide) ha w
    have H := Lib.hid h; clear h
    go_enter Try.func90, Try.ntmps90
    go_wp2_with (go_at_call 101; refine (H.out _).mono ?_; rintro e w' ⟨rfl, rfl⟩)
    go_ret
    exact ⟨rfl, rfl⟩
  · have h := fun w => power_any 16 (.inr (.inl rfl)) a 65534 (by decide) ha w
    have H := Lib.hid h; clear h
    go_enter Try.func90, Try.ntmps90
    go_wp2_with (go_at_call 101; refine (H.out _).mono ?_; rintro e w' ⟨rfl, rfl⟩)
    go_ret
    exact ⟨ret_int (by show ((pw 16 a 65534 : Nat) : Int) = _; rfl), rfl⟩
  · have h := fun w => power_any 32 (.inr (.inr rfl)) a 4294967294 (by decide) ha w
    have H := Lib.hid h; clear h
    go_enter Try.func90, Try.ntmps90
    go_wp2_with (go_at_call 101; refine (H.out _).mono ?_; rintro e w' ⟨rfl, rfl⟩)
    go_ret
    refine ⟨ret_int ?_, rfl⟩
    have e : (2 ^ (32 : Int).toNat - 2) = 4294967294 := by decide
    unfold inv
    rw [e]
    rfl
/-- Whether a number is an element. -/
def fitB (a : Nat) (n : Int) : Bool := decide (a < 2 ^ n.toNat)
end Go.Proofs.Ythmooplhhkafcaa
