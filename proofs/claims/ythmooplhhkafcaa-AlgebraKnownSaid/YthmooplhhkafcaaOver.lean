/- Contracts of the inverse of a finite field (Euclid's steps), of bits.Len64 and of Inverse. Conditions: as each statement says. -/
import Derived.Test.YthmooplhhkafcaaProg
import Derived.Test.YthmooplhhkafcaaDraw
import Derived.Test.YthmooplhhkafcaaDrawMath
import Derived.Shelf.Strconv.Itoa0
import Derived.Lib.ItoaNum
namespace Go.Proofs.Ythmooplhhkafcaa
open Go.RowKit
def lenRen : Go.Shelf.Ren := ⟨fun | 129 => 96 | n => n, fun | 53 => 33 | 3 => 3 | 4 => 4 | 46 => 121 | 5 => 5 | 9 => 9 | n => n, fun | n => n⟩
theorem lenLays : Go.Proofs.Lays.n129 Try.prog lenRen := {
  mixed := by kernel_rfl
  f129 := Try.func96.trans (congrArg some (by kernel_rfl))
  t3 := Try.underlying3
  a3 := Try.isAgg3
  z3 := Try.sizeOf3
  v3 := Try.zeroValue3
  t4 := Try.underlying4
  a4 := Try.isAgg4
  z4 := Try.sizeOf4
  v4 := Try.zeroValue4
  t5 := Try.underlying5
  a5 := Try.isAgg5
  z5 := Try.sizeOf5
  v5 := Try.zeroValue5
  t9 := Try.underlying9
  a9 := Try.isAgg9
  z9 := Try.sizeOf9
  v9 := Try.zeroValue9
  t46 := Try.underlying121
  a46 := Try.isAgg121
  z46 := Try.sizeOf121
  v46 := Try.zeroValue121
  t53 := Try.underlying33
  a53 := Try.isAgg33
  z53 := Try.sizeOf33
  v53 := Try.zeroValue33 }
theorem len64_any (x : Int) (l : Nat) (w : World) (hx0 : 0 ≤ x) (hx : x ≤ 18446744073709551615) (h1 : 1 ≤ l) (h2 : 2 ^ (l - 1) ≤ x.toNat) (h3 : x.toNat < 2 ^ l) :
    Calls Try.prog 96 #[.int .u64 x] w fun e w' => e = .returned (.int .i64 l) ∧ w = w' := by
  refine (Any.bits_Len64 lenLays x w hx0 hx).mono ?_
  rintro e w' ⟨rfl, hw⟩
  have hne : x.toNat ≠ 0 := by have := Nat.two_pow_pos (l - 1); omega
  obtain ⟨a1, a2, a3⟩ := Lib.bitLenAux_bounds 64 x.toNat (by omega) hne
  have : Lib.bitLen x.toNat = l := LenIs.unique (u := x.toNat) ⟨a3, fun _ => ⟨a1, a2⟩⟩ hne h2 h3 h1
  rw [this]
  exact ⟨rfl, hw.symm⟩
/-- Euclid's measure in the slots. -/
def eucM (u v : Value) : Nat := Lib.bitLen (intOf u).toNat + Lib.bitLen (intOf v).toNat
theorem bitLen_is {u l : Nat} (h1 : 1 ≤ l) (h2 : 2 ^ (l - 1) ≤ u) (h3 : u < 2 ^ l) (h4 : l ≤ 64) : Lib.bitLen u = l := by
  have hne : u ≠ 0 := by have := Nat.two_pow_pos (l - 1); omega
  obtain ⟨a1, a2, a3⟩ := Lib.bitLenAux_bounds 64 u (Nat.lt_of_lt_of_le h3 (Nat.pow_le_pow_right (by omega) h4)) hne
  exact LenIs.unique (u := u) ⟨a3, fun _ => ⟨a1, a2⟩⟩ hne h2 h3 h1
theorem Euc.m {w a u v x y lu lv : Nat} (hw : IsW w) (h : Euc w a u v x y lu lv) : eucM (.int .u64 u) (.int .u64 v) = lu + lv := by
  have := hw.le; have := h.u4; have := h.v4; have := h.v3
  unfold eucM intOf
  rw [Int.toNat_natCast, Int.toNat_natCast, bitLen_is h.u3 h.u1 h.u2 (by omega), bitLen_is (by omega) h.v1 h.v2 (by omega)]
theorem xor_shl_val {m a k : Nat} (hm : m < 9223372036854775808) (ha : a * 2 ^ k < 18446744073709551616) : bits .xor .u64 (m : Int) (IntKind.u64.wrap ((a : Int) * 2 ^ k)) = ((m ^^^ a * 2 ^ k : Nat) : Int) := by
  rw [show ((2 : Int) ^ k) = ((2 ^ k : Nat) : Int) by simp, ← Int.natCast_mul, IntKind.wrap_u64, Int.emod_eq_of_lt (by omega) (by omega), u64_xor_nat _ _ (by omega) ha]
set_option maxHeartbeats 1000000 in
theorem over_any (n : Int) (hn : n = 8 ∨ n = 16 ∨ n = 32) (a : Nat) (ha : a < 2 ^ n.toNat) (h0 : a ≠ 0) (w : World) :
    Calls Try.prog 79 #[.int .i64 n, .int .u64 a] w fun e w' => e = .returned (.int .u64 (inv n.toNat a)) ∧ w = w' := by
  have hw : IsW n.toNat := by unfold IsW; omega
  have hle := hw.le
  have HW := Lib.hid hw; clear hw
  have HA := Lib.hid ha; clear ha
  obtain ⟨lu0, hs⟩ := Euc.start HW.out HA.out h0
  have HS := Lib.hid hs; clear hs h0 hn
  go_enter Try.func79, Try.ntmps79
  go_wp2_with (go_at_call 95; refine (modulus_any _ _).mono ?_; rintro e w' ⟨rfl, rfl⟩)
  go_loop [5, 6, 7, 8] (fun p q r s => ∃ u v x y lu lv : Nat, p = .int .u64 u ∧ q = .int .u64 v ∧ r = .int .u64 x ∧ s = .int .u64 y ∧ Euc n.toNat a u v x y lu lv) (fun p q _ _ => eucM p q)
  case atStart => exact ⟨a, modN n.toNat, 1, 0, lu0, _, rfl, rfl, rfl, rfl, HS.out⟩
  case round =>
    obtain ⟨u, v, x, y, lu, lv, rfl, rfl, rfl, rfl, hE⟩ := hrel
    have hu4 := hE.u4
    have hv4 := hE.v4
    have hub : u < 18446744073709551616 := Nat.lt_of_lt_of_le hE.u2 (Nat.le_trans (Nat.pow_le_pow_right (by omega) (show lu ≤ 64 by omega)) (by decide))
    have hvb : v < 18446744073709551616 := Nat.lt_of_lt_of_le hE.v2 (Nat.le_trans (Nat.pow_le_pow_right (by omega) (show lv ≤ 64 by omega)) (by decide))
    have HE := Lib.hid hE; clear hE
    by_cases h1 : u = 1
    · subst h1
      go_wp2
      go_ret
      exact ⟨ret_int (by rw [HE.out.done HW.out HA.out]), rfl⟩
    · have ht : ((u : Int) != 1) = true := by rw [bne_iff_ne]; omega
      have H1 := Lib.hid h1; clear h1
      rcases Nat.lt_or_ge lu lv with hlt | hge
      · have hE2 := HE.out.swap H1.out hlt
        obtain ⟨b1, b2, b3, b4, lu', hl', hE3⟩ := hE2.next HW.out HA.out (by omega)
        have HE3 := Lib.hid hE3; clear hE3 hE2
        have HB1 := Lib.hid b1; have HB2 := Lib.hid b2; have HB3 := Lib.hid b3; have HB4 := Lib.hid b4; clear b1 b2 b3 b4
        have hltI : (lu : Int) - (lv : Int) < 0 := by omega
        go_wp2_with fail
        refine (len64_any _ lu _ (by omega) (by omega) HE.out.u3 (by simpa using HE.out.u1) (by simpa using HE.out.u2)).mono ?_
        rintro e w' ⟨rfl, rfl⟩
        go_wp2_with fail
        refine (len64_any _ lv _ (by omega) (by omega) (by have := HE.out.v3; omega) (by simpa using HE.out.v1) (by simpa using HE.out.v2)).mono ?_
        rintro e w' ⟨rfl, rfl⟩
        go_wp2_with fail
        have e : (-((lu : Int) - (lv : Int))).toNat = lv - lu := by omega
        rw [e, xor_shl_val HB3.out HB1.out, xor_shl_val HB4.out HB2.out]
        exact ⟨⟨_, _, _, _, lu', lu, rfl, rfl, rfl, rfl, HE3.out⟩, by rw [HE3.out.m HW.out, HE.out.m HW.out]; omega⟩
      · obtain ⟨b1, b2, b3, b4, lu', hl', hE3⟩ := HE.out.next HW.out HA.out hge
        have HE3 := Lib.hid hE3; clear hE3
        have HB1 := Lib.hid b1; have HB2 := Lib.hid b2; have HB3 := Lib.hid b3; have HB4 := Lib.hid b4; clear b1 b2 b3 b4
        have hltI : ¬ (lu : Int) - (lv : Int) < 0 := by omega
        go_wp2_with fail
        refine (len64_any _ lu _ (by omega) (by omega) HE.out.u3 (by simpa using HE.out.u1) (by simpa using HE.out.u2)).mono ?_
        rintro e w' ⟨rfl, rfl⟩
        go_wp2_with fail
        refine (len64_any _ lv _ (by omega) (by omega) (by have := HE.out.v3; omega) (by simpa using HE.out.v1) (by simpa using HE.out.v2)).mono ?_
        rintro e w' ⟨rfl, rfl⟩
        go_wp2_with fail
        have e : ((lu : Int) - (lv : Int)).toNat = lu - lv := by omega
        simp only [e] at *
        rw [xor_shl_val HB3.out HB1.out, xor_shl_val HB4.out HB2.out]
        exact ⟨⟨_, _, _, _, lu', lv, rfl, rfl, rfl, rfl, HE3.out⟩, by rw [HE3.out.m HW.out, HE.out.m HW.out]; omega⟩
/-- The results of Inverse. -/
def invR (n : Int) (a : Nat) : Nat × Int := if elemE n [a] ≠ 0 then (0, elemE n [a]) else if a = 0 then (0, 7) else (inv n.toNat a, 0)
theorem Inverse_any (n : Int) (a : Nat) (w : World) :
    Calls Try.prog 46 #[.int .i64 n, .int .u64 a] w fun e w' => e = .returned (.tuple #[.int .u64 (invR n a).1, .int .i64 (invR n a).2]) ∧ Below w.heap.size w w' := by
  by_cases hz : elemE n [a] = 0
  · have h2 := elemE_ok hz
    have hz' : (elemE n [a] != 0) = false := by simp [hz]
    have hn := h2.1
    have ha := h2.2 a (by simp)
    clear h2
    by_cases h0 : a = 0
    · have HR := Lib.hid (show invR n a = (0, 7) by unfold invR; rw [if_neg (by simp [hz]), if_pos h0])
      have h0' : ((a : Int) == 0) = true := by rw [beq_iff_eq]; omega
      have HZ := Lib.hid hz; have HN := Lib.hid hn; clear hz ha hn h0
      go_enter Try.func46, Try.ntmps46
      go_wp2_with fail
      refine (elements_any _ _ _ _ [a] _ _ (by omega) (Rd.new w #[.int .u64 a] 33 1 1 rfl)).mono ?_
      rintro e w' ⟨rfl, rfl⟩
      go_wp2_with fail
      go_ret2
      exact ⟨by rw [HR.out]; rfl, by go_grown⟩
    · have HR := Lib.hid (show invR n a = (inv n.toNat a, 0) by unfold invR; rw [if_neg (by simp [hz]), if_neg h0])
      have h0' : ((a : Int) == 0) = false := by rw [beq_eq_false_iff_ne]; omega
      have HZ := Lib.hid hz; have HN := Lib.hid hn; have HA := Lib.hid ha; have H0 := Lib.hid h0; clear hz ha hn h0
      go_enter Try.func46, Try.ntmps46
      go_wp2_with fail
      refine (elements_any _ _ _ _ [a] _ _ (by omega) (Rd.new w #[.int .u64 a] 33 1 1 rfl)).mono ?_
      rintro e w' ⟨rfl, rfl⟩
      go_wp2_with fail
      refine (over_any _ HN.out _ HA.out H0.out _).mono ?_
      rintro e w' ⟨rfl, rfl⟩
      go_wp2_with fail
      go_ret2
      exact ⟨by rw [HR.out]; rfl, by go_grown⟩
  · have HR := Lib.hid (show invR n a = (0, elemE n [a]) by unfold invR; rw [if_pos hz])
    have hz' : (elemE n [a] != 0) = true := by simp [hz]
    have HZ := Lib.hid hz; clear hz
    go_enter Try.func46, Try.ntmps46
    go_wp2_with fail
    refine (elements_any _ _ _ _ [a] _ _ (by omega) (Rd.new w #[.int .u64 a] 33 1 1 rfl)).mono ?_
    rintro e w' ⟨rfl, rfl⟩
    go_wp2_with fail
    go_ret2
    exact ⟨by rw [HR.out]; rfl, by go_grown⟩
end Go.Proofs.Ythmooplhhkafcaa
