/- Bits of 32-bit words; the contracts of bit, double, half. Conditions: as each statement says. -/
import Derived.Test.YtncjmndiafgaaaaNat7
namespace Go.Proofs.Ytncjmndiafgaaaa
open Go.RowKit
set_option linter.unusedVariables false
theorem ofInt32 {x : Nat} (hx : x < 4294967296) : (BitVec.ofInt 32 (x : Int)).toNat = x := by
  rw [BitVec.toNat_ofInt]; omega
theorem u32_and_n (x y : Nat) (hx : x < 4294967296) (hy : y < 4294967296) : bits BinOp.and IntKind.u32 (x : Int) (y : Int) = ((x &&& y : Nat) : Int) := by
  have h1 := ofInt32 hx; have h2 := ofInt32 hy
  unfold bits
  simp only
  show IntKind.u32.wrap (((BitVec.ofInt 32 (x : Int) &&& BitVec.ofInt 32 (y : Int)).toNat : Nat) : Int) = _
  rw [BitVec.toNat_and, h1, h2, IntKind.wrap_u32]
  have : x &&& y < 4294967296 := Nat.lt_of_le_of_lt Nat.and_le_left hx
  omega
theorem u32_or_n (x y : Nat) (hx : x < 4294967296) (hy : y < 4294967296) : bits BinOp.or IntKind.u32 (x : Int) (y : Int) = ((x ||| y : Nat) : Int) := by
  have h1 := ofInt32 hx; have h2 := ofInt32 hy
  unfold bits
  simp only
  show IntKind.u32.wrap (((BitVec.ofInt 32 (x : Int) ||| BitVec.ofInt 32 (y : Int)).toNat : Nat) : Int) = _
  rw [BitVec.toNat_or, h1, h2, IntKind.wrap_u32]
  have : x ||| y < 2 ^ 32 := Nat.or_lt_two_pow hx hy
  omega
theorem u32_odd (x : Nat) (hx : x < 4294967296) : bits BinOp.and IntKind.u32 (x : Int) 1 = ((x % 2 : Nat) : Int) := by
  rw [show (1 : Int) = ((1 : Nat) : Int) from rfl, u32_and_n x 1 hx (by decide), Nat.and_one_is_mod]
/-- A number's bit. -/
def bitV (v i : Nat) : Nat := v / 2 ^ i % 2
theorem bit_at {l : List Nat} {i : Nat} (hl : Limbs l) (hi : i / 32 < l.length) : bitV (valL l) i = l.getD (i / 32) 0 / 2 ^ (i % 32) % 2 := by
  obtain ⟨q, hq⟩ : ∃ q, q = i / 32 := ⟨_, rfl⟩
  obtain ⟨r, hr⟩ : ∃ r, r = i % 32 := ⟨_, rfl⟩
  have hi2 : i = 32 * q + r := by omega
  rw [← hq] at hi; rw [← hq, ← hr]
  have e : l = l.take q ++ (l[q] :: l.drop (q + 1)) := by rw [← List.drop_eq_getElem_cons hi, List.take_append_drop]
  have ev : valL l = valL (l.take q) + 2 ^ (32 * q) * (l[q] + 4294967296 * valL (l.drop (q + 1))) := by
    conv => lhs; rw [e, valL_append, List.length_take, Nat.min_eq_left (by omega), valL, two_pow32]
  have hlt := valL_lt (hl.take q)
  rw [List.length_take, Nat.min_eq_left (by omega), two_pow32] at hlt
  have eg : l.getD q 0 = l[q] := by rw [List.getD_eq_getElem?_getD, List.getElem?_eq_getElem hi]; rfl
  unfold bitV
  rw [ev, hi2, Nat.pow_add, ← Nat.div_div_eq_div_mul, Nat.add_mul_div_left _ _ (Nat.pow_pos (by decide)), Nat.div_eq_of_lt hlt, Nat.zero_add, eg]
  generalize valL (l.drop (q + 1)) = z
  generalize l[q] = x
  have e3 : 4294967296 * z = 2 ^ r * (2 * (2 ^ (31 - r) * z)) := by
    rw [← Nat.mul_assoc 2, ← Nat.pow_succ', ← Nat.mul_assoc, ← Nat.pow_add, show r + (31 - r + 1) = 32 by omega]
  rw [e3, Nat.add_mul_div_left _ _ (Nat.pow_pos (by decide))]
  omega
set_option maxHeartbeats 1000000 in
theorem bit_any (A : Option Addr) (n c i B : Nat) (a : List Nat) (w : World) (hn : n ≤ 90000) (hi : i < 32 * n) (ha : Limbs a) (h : Rd w B 1 A n (limC a)) :
    Calls Try.prog 62 #[.slice A n c, .int .i64 i] w fun e w' => e = .returned (.int .u32 (bitV (valL a) i : Nat)) ∧ w = w' := by
  have hl : a.length = n := by have := h.1; simpa using this
  have hq : i / 32 < n := by omega
  obtain ⟨b1, o1, rfl, _, r1⟩ := lim_cell h hq
  have hx := ha.getD (i / 32)
  have HB := Lib.hid (bit_at (i := i) ha (by rw [hl]; exact hq))
  generalize a.getD (i / 32) 0 = x at r1 hx HB
  have hd : x / 2 ^ (i % 32) ≤ x := Nat.div_le_self _ _
  have HV : Hid (bits BinOp.and IntKind.u32 ((x : Int) / 2 ^ (i % 32)) 1 = ((bitV (valL a) i : Nat) : Int)) := Lib.hid (by
    have e : (x : Int) / 2 ^ (i % 32) = ((x / 2 ^ (i % 32) : Nat) : Int) := by simp
    rw [e, u32_odd _ (by omega), HB.out])
  have j1 : (0 : Int) ≤ (i : Int) / 32 := by omega
  have j2 : (i : Int) / 32 < (n : Int) := by omega
  have j3 : ((i : Int) / 32).toNat = i / 32 := by omega
  have j4 : (0 : Int) ≤ (i : Int) % 32 := by omega
  clear h hl hd HB
  go_enter Try.func62, Try.ntmps62
  go_wp2_with fail
  go_ret
  refine ⟨?_, rfl⟩
  rw [← HV.out]
  rfl
#print axioms bit_any
end Go.Proofs.Ytncjmndiafgaaaa
