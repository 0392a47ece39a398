/- The contracts of size and bit. Conditions: as each statement says. -/
import Derived.Test.YtncjmndiafgaaaaNat6
namespace Go.Proofs.Ytncjmndiafgaaaa
open Go.RowKit
set_option linter.unusedVariables false
/-- sz is how many binary digits v has. -/
def IsSize (v sz : Nat) : Prop := v < 2 ^ sz ∧ (0 < sz → 2 ^ (sz - 1) ≤ v)
theorem IsSize.uniq {v a b : Nat} (h : IsSize v a) (k : IsSize v b) : a = b := by
  rcases Nat.lt_trichotomy a b with g | g | g
  · have h1 := k.2 (by omega)
    have h2 : 2 ^ a ≤ 2 ^ (b - 1) := Nat.pow_le_pow_right (by decide) (by omega)
    have := h.1; omega
  · exact g
  · have h1 := h.2 (by omega)
    have h2 : 2 ^ b ≤ 2 ^ (a - 1) := Nat.pow_le_pow_right (by decide) (by omega)
    have := k.1; omega
theorem two_pow32 (n : Nat) : 4294967296 ^ n = 2 ^ (32 * n) := by rw [Nat.pow_mul]
theorem size_top {l : List Nat} {m j : Nat} (hl : Limbs l) (hm : l.length = m + 1) (h0 : l.getD m 0 / 2 ^ j = 0) (h1 : 0 < j → l.getD m 0 / 2 ^ (j - 1) ≠ 0) (hn : l.getD m 0 ≠ 0) : IsSize (valL l) (32 * m + j) := by
  have e : valL l = valL (l.take m) + 2 ^ (32 * m) * l.getD m 0 := by
    have := val_take l m
    rwa [List.take_of_length_le (by omega), two_pow32] at this
  have hlt := valL_lt (hl.take m)
  rw [List.length_take, Nat.min_eq_left (by omega), two_pow32] at hlt
  generalize l.getD m 0 = x at *
  have hx : x < 2 ^ j := by
    rcases Nat.lt_or_ge x (2 ^ j) with h | h
    · exact h
    · exact absurd h0 (by have := Nat.div_pos h (Nat.pow_pos (by decide)); omega)
  have hj : 0 < j := by
    rcases Nat.eq_zero_or_pos j with h | h
    · subst h; simp at hx; omega
    · exact h
  have hx2 : 2 ^ (j - 1) ≤ x := by
    have := h1 hj
    rcases Nat.lt_or_ge x (2 ^ (j - 1)) with h | h
    · exact absurd (Nat.div_eq_of_lt h) this
    · exact h
  refine ⟨?_, fun _ => ?_⟩
  · rw [e, Nat.pow_add]
    have h2 : 2 ^ (32 * m) * (x + 1) ≤ 2 ^ (32 * m) * 2 ^ j := Nat.mul_le_mul_left _ hx
    rw [Nat.mul_succ] at h2
    omega
  · rw [e, show 32 * m + j - 1 = 32 * m + (j - 1) by omega, Nat.pow_add]
    have h2 := Nat.mul_le_mul_left (2 ^ (32 * m)) hx2
    omega
def SizeP (v n : Nat) (w : World) (e : Ending) (w' : World) : Prop := (∃ sz : Nat, IsSize v sz ∧ sz ≤ 32 * n ∧ e = .returned (.int .i64 sz)) ∧ w = w'
set_option maxHeartbeats 2000000 in
theorem size_of (A : Option Addr) (n c : Nat) (a : List Nat) (w : World) (hn : n ≤ 90000) (hc : n ≤ c) (ha : Limbs a) (h : Rd w w.heap.size 1 A n (limC a)) :
    Calls Try.prog 33 #[.slice A n c] w (SizeP (valL a) n w) := by
  have hl : a.length = n := by have := h.1; simpa using this
  obtain ⟨k, hk⟩ : ∃ k, k = trimN a n := ⟨_, rfl⟩
  have hkn : k ≤ n := by rw [hk]; exact trimN_le _ _
  have hp := h.pre hkn
  have ht : trimL a = a.take k := by unfold trimL; rw [hl, hk]
  have hv := trimL_val a
  have hll := trimL_len a
  rw [hl, ← hk] at hll
  have HNR := Lib.hid (trimL_nrm a); have HLM := Lib.hid (trimL_limbs ha)
  rw [← ht] at hp
  generalize trimL a = x at *
  have H := Lib.hid h; have HP := Lib.hid hp; have HK := Lib.hid hk; have HV := Lib.hid hv; have HLL := Lib.hid hll
  clear h hp hk hv hll ht hl ha
  go_enter Try.func33, Try.ntmps33
  go_wp2_with fail
  refine (trim_any A n c w.heap.size a _ (by omega) hc H.out).mono ?_
  rintro e w' ⟨rfl, rfl⟩
  rw [← HK.out]
  rcases Nat.eq_zero_or_pos k with h0 | h0
  · subst h0
    have HE : Hid (IsSize (valL a) 0) := Lib.hid (by
      have hx : x = [] := List.eq_nil_of_length_eq_zero HLL.out
      rw [← HV.out, hx]; exact ⟨by simp [valL], fun h => absurd h (by omega)⟩)
    go_wp2_with fail
    go_ret
    exact ⟨⟨0, HE.out, by omega, rfl⟩, rfl⟩
  · obtain ⟨m, rfl⟩ : ∃ m, k = m + 1 := ⟨k - 1, by omega⟩
    have hk0 : ((((m + 1 : Nat) : Int)) == 0) = false := by simpa using (by omega : ¬ (((m + 1 : Nat) : Int)) = 0)
    obtain ⟨b1, o1, rfl, _, r1⟩ := lim_cell HP.out (k := m) (by omega)
    have hxl := HLM.out.getD m
    have hx0 : x.getD m 0 ≠ 0 := by
      rcases HNR.out with h | h
      · rw [h] at HLL; exact absurd HLL.out (by simp)
      · rw [HLL.out] at h; exact h
    obtain ⟨t, htt⟩ : ∃ t, t = x.getD m 0 := ⟨_, rfl⟩
    have HTT := Lib.hid htt
    rw [← htt] at r1 hxl hx0
    have HX0 := Lib.hid hx0
    obtain ⟨t0, ht0⟩ : ∃ t0 : Int, t0 = (t : Int) := ⟨_, rfl⟩
    rw [← ht0] at r1
    have HT0 := Lib.hid ht0
    clear htt hx0 ht0
    go_wp2_with fail
    go_loop [3, 4] (fun nv xv => ∃ (j : Nat) (nI xI : Int), j ≤ 32 ∧ nv = .int .i64 nI ∧ xv = .int .u32 xI ∧ nI = (32 * m + j : Nat) ∧ xI = ((t / 2 ^ j : Nat) : Int) ∧ (0 < j → t / 2 ^ (j - 1) ≠ 0)) (fun _ xv => (intOf xv).toNat)
    case atStart => exact ⟨0, _, t0, by omega, rfl, rfl, by simp, by rw [HT0.out]; simp, fun h => absurd h (by omega)⟩
    case round =>
      obtain ⟨j, nI, xI, hj, rfl, rfl, hnI, hxI, hj1⟩ := hrel
      obtain ⟨q, hqd⟩ : ∃ q, q = t / 2 ^ j := ⟨_, rfl⟩
      have hqt : q ≤ t := by rw [hqd]; exact Nat.div_le_self _ _
      rw [← hqd] at hxI
      have HQD := Lib.hid hqd
      have HJ1 := Lib.hid hj1; have HNI := Lib.hid hnI; have HXI := Lib.hid hxI
      have hx1 : 0 ≤ xI := by omega
      have hx2 : xI ≤ 4294967295 := by omega
      have hn1 : 0 ≤ nI := by omega
      have hn2 : nI ≤ 3000000 := by omega
      clear hj1 hnI hqd
      by_cases h0 : xI = 0
      · subst h0
        have HE : Hid (IsSize (valL a) (32 * m + j)) := Lib.hid (by
          rw [← HV.out]
          refine size_top HLM.out HLL.out ?_ ?_ ?_
          · rw [← HTT.out, ← HQD.out]; have := HXI.out; omega
          · rw [← HTT.out]; exact HJ1.out
          · rw [← HTT.out]; exact HX0.out)
        clear hxI
        go_wp2_with fail
        go_ret
        exact ⟨⟨32 * m + j, HE.out, by omega, by rw [← HNI.out]; rfl⟩, rfl⟩
      · have h0' : 0 < xI := by omega
        have HD : Hid (xI / 2 = ((t / 2 ^ (j + 1) : Nat) : Int)) := Lib.hid (by
          rw [HXI.out, Nat.pow_succ, ← Nat.div_div_eq_div_mul, ← HQD.out]; omega)
        have HNZ : Hid (t / 2 ^ j ≠ 0) := Lib.hid (by have := HXI.out; rw [← HQD.out]; omega)
        have hj32 : j < 32 := by
          rcases Nat.lt_or_ge j 32 with h | h
          · exact h
          · have : t < 2 ^ j := Nat.lt_of_lt_of_le hxl (show 4294967296 ≤ 2 ^ j from Nat.le_trans (by decide : 4294967296 ≤ 2 ^ 32) (Nat.pow_le_pow_right (by decide) h))
            exact absurd (Nat.div_eq_of_lt this) HNZ.out
        clear h0 hxI
        go_wp2_with fail
        go_round
        case rel => exact ⟨j + 1, _, _, by omega, rfl, rfl, by have := HNI.out; omega, HD.out, fun _ => HNZ.out⟩
        case measure => simp [intOf]; omega
#print axioms size_of
end Go.Proofs.Ytncjmndiafgaaaa
