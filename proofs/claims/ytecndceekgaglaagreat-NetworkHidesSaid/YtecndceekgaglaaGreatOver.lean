/- Contracts of the inverse of a finite field (Euclid's steps), of bits.Len64 and of Inverse. Conditions: as each statement says. -/
import Derived.Test.YtecndceekgaglaaGreatProg
import Derived.Test.YtecndceekgaglaaGreatField
import Derived.Test.YtecndceekgaglaaGreatMath
import Derived.Shelf.Strconv.Itoa0
import Derived.Lib.ItoaNum
namespace Go.Proofs.YtecndceekgaglaaGreat
open Go.RowKit
def lenRen : Go.Shelf.Ren := ⟨fun | 129 => 102 | n => n, fun | 53 => 143 | 3 => 3 | 4 => 4 | 46 => 42 | 5 => 5 | 9 => 9 | n => n, fun | n => n⟩
theorem lenLays : Go.Proofs.Lays.n129 Tryz.prog lenRen := {
  mixed := by kernel_rfl
  f129 := Tryz.func102.trans (congrArg some (by kernel_rfl))
  t3 := Tryz.underlying3
  a3 := Tryz.isAgg3
  z3 := Tryz.sizeOf3
  v3 := Tryz.zeroValue3
  t4 := Tryz.underlying4
  a4 := Tryz.isAgg4
  z4 := Tryz.sizeOf4
  v4 := Tryz.zeroValue4
  t5 := Tryz.underlying5
  a5 := Tryz.isAgg5
  z5 := Tryz.sizeOf5
  v5 := Tryz.zeroValue5
  t9 := Tryz.underlying9
  a9 := Tryz.isAgg9
  z9 := Tryz.sizeOf9
  v9 := Tryz.zeroValue9
  t46 := Tryz.underlying42
  a46 := Tryz.isAgg42
  z46 := Tryz.sizeOf42
  v46 := Tryz.zeroValue42
  t53 := Tryz.underlying143
  a53 := Tryz.isAgg143
  z53 := Tryz.sizeOf143
  v53 := Tryz.zeroValue143 }
theorem len64_any (x : Int) (l : Nat) (w : World) (hx0 : 0 ≤ x) (hx : x ≤ 18446744073709551615) (h1 : 1 ≤ l) (h2 : 2 ^ (l - 1) ≤ x.toNat) (h3 : x.toNat < 2 ^ l) :
    Calls Tryz.prog 102 #[.int .u64 x] w fun e w' => e = .returned (.int .i64 l) ∧ w = w' := by
  refine (Any.bits_Len64 lenLays x w hx0 hx).mono ?_
  rintro e w' ⟨rfl, hw⟩
  have hne : x.toNat ≠ 0 := by have := Nat.two_pow_pos (l - 1); omega
  obtain ⟨a1, a2, a3⟩ := Lib.bitLenAux_bounds 64 x.toNat (by omega) hne
  have : Lib.bitLen x.toNat = l := LenIs.unique (u := x.toNat) ⟨a3, fun _ => ⟨a1, a2⟩⟩ hne h2 h3 h1
  rw [this]
  exact ⟨rfl, hw.symm⟩
/-- Euclid's measure in the slots. -/
def eucM (u v : Value) : Nat := Lib.bitLen (intOf u).toNat + Lib.bitLen (intOf v).toNat
theorem bitLen_is {u l : Nat} (h1 : 1 ≤ l) (h2 : 2 ^ (l - 1) ≤ u) (h3 : u < 2 ^ l) (h4 : l ≤ 64) : Lib.bitLen u = l := by
  have hne : u ≠ 0 := by have := Nat.two_pow_pos (l - 1); omega
  obtain ⟨a1, a2, a3⟩ := Lib.bitLenAux_bounds 64 u (Nat.lt_of_lt_of_le h3 (Nat.pow_le_pow_right (by omega) h4)) hne
  exact LenIs.unique (u := u) ⟨a3, fun _ => ⟨a1, a2⟩⟩ hne h2 h3 h1
theorem Euc.m {w a u v x y lu lv : Nat} (hw : IsW w) (h : Euc w a u v x y lu lv) : eucM (.int .u64 u) (.int .u64 v) = lu + lv := by
  have := hw.le; have := h.u4; have := h.v4; have := h.v3
  unfold eucM intOf
  rw [Int.toNat_natCast, Int.toNat_natCast, bitLen_is h.u3 h.u1 h.u2 (by omega), bitLen_is (by omega) h.v1 h.v2 (by omega)]
theorem xor_shl_val {m a k : Nat} (hm : m < 9223372036854775808) (ha : a * 2 ^ k < 18446744073709551616) : bits .xor .u64 (m : Int) (IntKind.u64.wrap ((a : Int) * 2 ^ k)) = ((m ^^^ a * 2 ^ k : Nat) : Int) := by
  rw [show ((2 : Int) ^ k) = ((2 ^ k : Nat) : Int) by simp, ← Int.natCast_mul, IntKind.wrap_u64, Int.emod_eq_of_lt (by omega) (by omega), u64_xor_nat _ _ (by omega) ha]
set_option maxHeartbeats 1000000 in
theorem over_any (n : Int) (hn : n = 8 ∨ n = 16 ∨ n = 32) (a : Nat) (ha : a < 2 ^ n.toNat) (h0 : a ≠ 0) (w : World) :
    Calls Tryz.prog 78 #[.int .i64 n, .int .u64 a] w fun e w' => e = .returned (.int .u64 (inv n.toNat a)) ∧ w = w' := by
  have hw : IsW n.toNat := by unfold IsW; omega
  have hle := hw.le
  have HW := Lib.hid hw; clear hw
  have HA := Lib.hid ha; clear ha
  obtain ⟨lu0, hs⟩ := Euc.start HW.out HA.out h0
  have HS := Lib.hid hs; clear hs h0 hn
  go_enter Tryz.func78, Tryz.ntmps78
  go_wp2_with (go_at_call 101; refine (modulus_any _ _).mono ?_; rintro e w' ⟨rfl, rfl⟩)
  go_loop [5, 6, 7, 8] (fun p q r s => ∃ u v x y lu lv : Nat, p = .int .u64 u ∧ q = .int .u64 v ∧ r = .int .u64 x ∧ s = .int .u64 y ∧ Euc n.toNat a u v x y lu lv) (fun p q _ _ => eucM p q)
  case atStart => exact ⟨a, modN n.toNat, 1, 0, lu0, _, rfl, rfl, rfl, rfl, HS.out⟩
  case round =>
    obtain ⟨u, v, x, y, lu, lv, rfl, rfl, rfl, rfl, hE⟩ := hrel
    have hu4 := hE.u4
    have hv4 := hE.v4
    have hub : u < 18446744073709551616 := Nat.lt_of_lt_of_le hE.u2 (Nat.le_trans (Nat.pow_le_pow_right (by omega) (show lu ≤ 64 by omega)) (by decide))
    have hvb : v < 18446744073709551616 := Nat.lt_of_lt_of_le hE.v2 (Nat.le_trans (Nat.pow_le_pow_right (by omega) (show lv ≤ 64 by omega)) (by decide))
    have HE := Lib.hid hE; clear hE
    by_cases h1 : u = 1
    · subst h1
      go_wp2
      go_ret
      exact ⟨ret_int (by rw [HE.out.done HW.out HA.out]), rfl⟩
    · have ht : ((u : Int) != 1) = true := by rw [bne_iff_ne]; omega
      have H1 := Lib.hid h1; clear h1
      rcases Nat.lt_or_ge lu lv with hlt | hge
      · have hE2 := HE.out.swap H1.out hlt
        obtain ⟨b1, b2, b3, b4, lu', hl', hE3⟩ := hE2.next HW.out HA.out (by omega)
        have HE3 := Lib.hid hE3; clear hE3 hE2
        have HB1 := Lib.hid b1; have HB2 := Lib.hid b2; have HB3 := Lib.hid b3; have HB4 := Lib.hid b4; clear b1 b2 b3 b4
        have hltI : (lu : Int) - (lv : Int) < 0 := by omega
        go_wp2_with fail
        refine (len64_any _ lu _ (by omega) (by omega) HE.out.u3 (by simpa using HE.out.u1) (by simpa using HE.out.u2)).mono ?_
        rintro e w' ⟨rfl, rfl⟩
        go_wp2_with fail
        refine (len64_any _ lv _ (by omega) (by omega) (by have := HE.out.v3; omega) (by simpa using HE.out.v1) (by simpa using HE.out.v2)).mono ?_
        rintro e w' ⟨rfl, rfl⟩
        go_wp2_with fail
        have e : (-((lu : Int) - (lv : Int))).toNat = lv - lu := by omega
        rw [e, xor_shl_val HB3.out HB1.out, xor_shl_val HB4.out HB2.out]
        exact ⟨⟨_, _, _, _, lu', lu, rfl, rfl, rfl, rfl, HE3.out⟩, by rw [HE3.out.m HW.out, HE.out.m HW.out]; omega⟩
      · obtain ⟨b1, b2, b3, b4, lu', hl', hE3⟩ := HE.out.next HW.out HA.out hge
        have HE3 := Lib.hid hE3; clear hE3
        have HB1 := Lib.hid b1; have HB2 := Lib.hid b2; have HB3 := Lib.hid b3; have HB4 := Lib.hid b4; clear b1 b2 b3 b4
        have hltI : ¬ (lu : Int) - (lv : Int) < 0 := by omega
        go_wp2_with fail
        refine (len64_any _ lu _ (by omega) (by omega) HE.out.u3 (by simpa using HE.out.u1) (by simpa using HE.out.u2)).mono ?_
        rintro e w' ⟨rfl, rfl⟩
        go_wp2_with fail
        refine (len64_any _ lv _ (by omega) (by omega) (by have := HE.out.v3; omega) (by simpa using HE.out.v1) (by simpa using HE.out.v2)).mono ?_
        rintro e w' ⟨rfl, rfl⟩
        go_wp2_with fail
        have e : ((lu : Int) - (lv : Int)).toNat = lu - lv := by omega
        simp only [e] at *
        rw [xor_shl_val HB3.out HB1.out, xor_shl_val HB4.out HB2.out]
        exact ⟨⟨_, _, _, _, lu', lv, rfl, rfl, rfl, rfl, HE3.out⟩, by rw [HE3.out.m HW.out, HE.out.m HW.out]; omega⟩
/-- The results of Inverse. -/
def invR (n : Int) (a : Nat) : Nat × Int := if elemE n [a] ≠ 0 then (0, elemE n [a]) else if a = 0 then (0, 7) else (inv n.toNat a, 0)
end Go.Proofs.YtecndceekgaglaaGreat
