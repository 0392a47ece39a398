/- Binomials, and the contract of choose at small numbers. Conditions: as each statement says. -/
import Derived.Test.YtncjmndiafgaaaaNat16
namespace Go.Proofs.Ytncjmndiafgaaaa
open Go.RowKit
set_option linter.unusedVariables false
/-- How many sets of k there are among n things. -/
def bin : Nat → Nat → Nat
  | _, 0 => 1
  | 0, _ + 1 => 0
  | n + 1, k + 1 => bin n k + bin n (k + 1)
theorem bin_zero (n : Nat) : bin n 0 = 1 := by cases n <;> rfl
theorem bin_over : ∀ (n k : Nat), n < k → bin n k = 0
  | _, 0, h => by omega
  | 0, k + 1, _ => rfl
  | n + 1, k + 1, h => by rw [bin, bin_over n k (by omega), bin_over n (k + 1) (by omega)]
theorem bin_mul : ∀ (n k : Nat), bin n (k + 1) * (k + 1) = bin n k * (n - k)
  | 0, k => by
    have : bin 0 (k + 1) = 0 := rfl
    rw [this]; simp
  | n + 1, 0 => by
    have h := bin_mul n 0
    simp only [bin_zero, Nat.zero_add, Nat.mul_one, Nat.sub_zero, Nat.one_mul] at h ⊢
    show bin n 0 + bin n 1 = _
    rw [bin_zero]; omega
  | n + 1, k + 1 => by
    have h1 := bin_mul n k
    have h2 := bin_mul n (k + 1)
    rw [bin, bin, Nat.add_mul, h2]
    rcases Nat.lt_or_ge k n with hk | hk
    · obtain ⟨d, rfl⟩ : ∃ d, n = k + 1 + d := ⟨n - (k + 1), by omega⟩
      rw [show k + 1 + d - k = d + 1 by omega] at h1
      rw [show k + 1 + d - (k + 1) = d by omega, show k + 1 + d + 1 - (k + 1) = d + 1 by omega, Nat.add_mul]
      generalize bin (k + 1 + d) k = x at *
      generalize bin (k + 1 + d) (k + 1) = y at *
      rw [Nat.mul_add y (k + 1) 1, Nat.mul_add y d 1, h1]; omega
    · have e1 : bin n (k + 1) = 0 := bin_over _ _ (by omega)
      rw [e1, show n + 1 - (k + 1) = n - k by omega]
      rw [e1] at h1
      have : bin n k * (n - k) = 0 := by omega
      rw [Nat.add_mul, this]; simp
theorem bin_step (n k : Nat) (h : k ≤ n) : bin n (k + 1) = bin n k * (n - k) / (k + 1) := by
  rw [← bin_mul, Nat.mul_div_cancel _ (by omega)]
theorem bin_le_all : ∀ n : Fin 11, ∀ k : Fin 12, bin n k ≤ 252 := by decide
theorem bin_le (n : Nat) (hn : n ≤ 10) (k : Nat) : bin n k ≤ 252 := by
  rcases Nat.lt_or_ge k 12 with h | h
  · exact bin_le_all ⟨n, by omega⟩ ⟨k, h⟩
  · rw [bin_over n k (by omega)]; omega
theorem bin_symm_all : ∀ n : Fin 11, ∀ k : Fin 11, k.val ≤ n.val → bin n (n.val - k.val) = bin n k := by decide
theorem bin_symm (n : Nat) (hn : n ≤ 10) (k : Nat) (hk : k ≤ n) : bin n (n - k) = bin n k := bin_symm_all ⟨n, by omega⟩ ⟨k, by omega⟩ hk
theorem bin_pos_all : ∀ n : Fin 11, ∀ k : Fin 11, k.val ≤ n.val → 0 < bin n k := by decide
theorem bin_pos (n : Nat) (hn : n ≤ 10) (k : Nat) (hk : k ≤ n) : 0 < bin n k := bin_pos_all ⟨n, by omega⟩ ⟨k, by omega⟩ hk
set_option maxRecDepth 100000 in
set_option maxHeartbeats 400000 in
theorem choose_num {w : World} (N k : Nat) (NI kI : Int) (hNI : NI = N) (hkI : kI = k) (hN : N ≤ 10) (hk : k ≤ N) :
    Calls Try.prog 29 #[.int .i64 NI, .int .i64 kI] w (RetNum w (bin N k)) := by
  have c1 : NI ≤ N := by omega
  have c2 : (N : Int) ≤ NI := by omega
  have c3 : kI ≤ k := by omega
  have c4 : (k : Int) ≤ kI := by omega
  clear hNI hkI
  have b0 : 0 ≤ kI := by omega
  have b1 : kI ≤ NI := by omega
  have b2 : NI ≤ 10 := by omega
  have b3 : ¬ kI < 0 := by omega
  have b4 : ¬ NI < kI := by omega
  have hcs : (kI < NI - kI) ∨ (NI - kI < kI) ∨ (¬ kI < NI - kI ∧ ¬ NI - kI < kI) := by omega
  rcases hcs with g | g | ⟨g, g'⟩
  · go_enter Try.func29, Try.ntmps29
    go_wp2_with fail
    have HL0 : Hid (NumR (w.alloc (.cells #[.int .u32 1] 47)) (w.alloc (.cells #[.int .u32 1] 47)).heap.size (some ⟨w.heap.size, 0, none⟩) 1 1 (bin N 0)) := Lib.hid (by rw [bin_zero]; exact (num_lit w 1 1 rfl (by omega)).mono (by simp))
    have HB0 : Hid (Below w.heap.size w (w.alloc (.cells #[.int .u32 1] 47))) := Lib.hid ((Below.refl _ _).alloc (Nat.le_refl _) _)
    generalize w.alloc (.cells #[.int .u32 1] 47) = w1 at HL0 HB0 ⊢
    go_loopw [5, 20] (fun cv i wr => ∃ (j : Nat) (A : Option Addr) (n c : Nat), (j : Int) ≤ kI ∧ i = .int .i64 j ∧ cv = .slice A n c ∧ NumR wr wr.heap.size A n c (bin N j) ∧ Below w.heap.size w wr) (fun _ i _ => N - (intOf i).toNat)
    case atStart => exact ⟨0, _, _, _, by omega, rfl, rfl, HL0.out, HB0.out⟩
    case round =>
      obtain ⟨j, A, n, c, hj, rfl, rfl, hr, hb⟩ := hrel
      obtain ⟨wa, rfl⟩ : ∃ z : World, z = wr := ⟨_, rfl⟩
      have HR := Lib.hid hr; have HB := Lib.hid hb
      clear hr hb HL0 HB0
      by_cases hlt : (j : Int) < kI
      · obtain ⟨d, hd⟩ : ∃ d : Nat, NI - (j : Int) = d := ⟨N - j, by omega⟩
        have HS := Lib.hid (bin_step N j (by omega))
        have hb1 : bin N j ≤ 252 := bin_le N (by omega) j
        have hb2 : bin N j * d ≤ 252 * 10 := Nat.mul_le_mul hb1 (by omega)
        have HD := Lib.hid hd
        go_wp2_with fail
        refine (next_num NI (j : Int) d j rfl HD.out (by omega) (by omega) HR.out (by omega)).mono ?_
        rintro e w2 ⟨A2, n2, c2, rfl, hr2, hb2⟩
        have HE : Hid (bin N j * d / (j + 1) = bin N (j + 1)) := Lib.hid (by
          have h1 := HD.out
          rw [HS.out, show N - j = d by omega])
        rw [HE.out] at hr2
        have HR2 := Lib.hid hr2; have HB2 := Lib.hid (HB.out.trans (hb2.mono HB.out.size))
        clear hr2 hb2
        go_wp2_with fail
        go_roundw
        case rel => exact ⟨j + 1, A2, n2, c2, by omega, by go_num, rfl, HR2.out, HB2.out⟩
        case measure => simp [intOf]; omega
      · have hjm : (j : Int) = kI := by omega
        have HV : Hid (bin N j = bin N k) := Lib.hid (by rw [show j = k by omega])
        clear hjm
        go_wp2_with fail
        go_ret
        exact ⟨A, n, c, rfl, by rw [← HV.out]; exact HR.out, HB.out⟩
  · go_enter Try.func29, Try.ntmps29
    go_wp2_with fail
    have HL0 : Hid (NumR (w.alloc (.cells #[.int .u32 1] 47)) (w.alloc (.cells #[.int .u32 1] 47)).heap.size (some ⟨w.heap.size, 0, none⟩) 1 1 (bin N 0)) := Lib.hid (by rw [bin_zero]; exact (num_lit w 1 1 rfl (by omega)).mono (by simp))
    have HB0 : Hid (Below w.heap.size w (w.alloc (.cells #[.int .u32 1] 47))) := Lib.hid ((Below.refl _ _).alloc (Nat.le_refl _) _)
    generalize w.alloc (.cells #[.int .u32 1] 47) = w1 at HL0 HB0 ⊢
    go_loopw [5, 20] (fun cv i wr => ∃ (j : Nat) (A : Option Addr) (n c : Nat), (j : Int) ≤ NI - kI ∧ i = .int .i64 j ∧ cv = .slice A n c ∧ NumR wr wr.heap.size A n c (bin N j) ∧ Below w.heap.size w wr) (fun _ i _ => N - (intOf i).toNat)
    case atStart => exact ⟨0, _, _, _, by omega, rfl, rfl, HL0.out, HB0.out⟩
    case round =>
      obtain ⟨j, A, n, c, hj, rfl, rfl, hr, hb⟩ := hrel
      obtain ⟨wa, rfl⟩ : ∃ z : World, z = wr := ⟨_, rfl⟩
      have HR := Lib.hid hr; have HB := Lib.hid hb
      clear hr hb HL0 HB0
      by_cases hlt : (j : Int) < NI - kI
      · obtain ⟨d, hd⟩ : ∃ d : Nat, NI - (j : Int) = d := ⟨N - j, by omega⟩
        have HS := Lib.hid (bin_step N j (by omega))
        have hb1 : bin N j ≤ 252 := bin_le N (by omega) j
        have hb2 : bin N j * d ≤ 252 * 10 := Nat.mul_le_mul hb1 (by omega)
        have HD := Lib.hid hd
        go_wp2_with fail
        refine (next_num NI (j : Int) d j rfl HD.out (by omega) (by omega) HR.out (by omega)).mono ?_
        rintro e w2 ⟨A2, n2, c2, rfl, hr2, hb2⟩
        have HE : Hid (bin N j * d / (j + 1) = bin N (j + 1)) := Lib.hid (by
          have h1 := HD.out
          rw [HS.out, show N - j = d by omega])
        rw [HE.out] at hr2
        have HR2 := Lib.hid hr2; have HB2 := Lib.hid (HB.out.trans (hb2.mono HB.out.size))
        clear hr2 hb2
        go_wp2_with fail
        go_roundw
        case rel => exact ⟨j + 1, A2, n2, c2, by omega, by go_num, rfl, HR2.out, HB2.out⟩
        case measure => simp [intOf]; omega
      · have hjm : (j : Int) = NI - kI := by omega
        have HV : Hid (bin N j = bin N k) := Lib.hid (by rw [show j = N - k by omega]; exact bin_symm N hN k (by omega))
        clear hjm
        go_wp2_with fail
        go_ret
        exact ⟨A, n, c, rfl, by rw [← HV.out]; exact HR.out, HB.out⟩
  · go_enter Try.func29, Try.ntmps29
    go_wp2_with fail
    have HL0 : Hid (NumR (w.alloc (.cells #[.int .u32 1] 47)) (w.alloc (.cells #[.int .u32 1] 47)).heap.size (some ⟨w.heap.size, 0, none⟩) 1 1 (bin N 0)) := Lib.hid (by rw [bin_zero]; exact (num_lit w 1 1 rfl (by omega)).mono (by simp))
    have HB0 : Hid (Below w.heap.size w (w.alloc (.cells #[.int .u32 1] 47))) := Lib.hid ((Below.refl _ _).alloc (Nat.le_refl _) _)
    generalize w.alloc (.cells #[.int .u32 1] 47) = w1 at HL0 HB0 ⊢
    go_loopw [5, 20] (fun cv i wr => ∃ (j : Nat) (A : Option Addr) (n c : Nat), (j : Int) ≤ kI ∧ i = .int .i64 j ∧ cv = .slice A n c ∧ NumR wr wr.heap.size A n c (bin N j) ∧ Below w.heap.size w wr) (fun _ i _ => N - (intOf i).toNat)
    case atStart => exact ⟨0, _, _, _, by omega, rfl, rfl, HL0.out, HB0.out⟩
    case round =>
      obtain ⟨j, A, n, c, hj, rfl, rfl, hr, hb⟩ := hrel
      obtain ⟨wa, rfl⟩ : ∃ z : World, z = wr := ⟨_, rfl⟩
      have HR := Lib.hid hr; have HB := Lib.hid hb
      clear hr hb HL0 HB0
      by_cases hlt : (j : Int) < kI
      · obtain ⟨d, hd⟩ : ∃ d : Nat, NI - (j : Int) = d := ⟨N - j, by omega⟩
        have HS := Lib.hid (bin_step N j (by omega))
        have hb1 : bin N j ≤ 252 := bin_le N (by omega) j
        have hb2 : bin N j * d ≤ 252 * 10 := Nat.mul_le_mul hb1 (by omega)
        have HD := Lib.hid hd
        go_wp2_with fail
        refine (next_num NI (j : Int) d j rfl HD.out (by omega) (by omega) HR.out (by omega)).mono ?_
        rintro e w2 ⟨A2, n2, c2, rfl, hr2, hb2⟩
        have HE : Hid (bin N j * d / (j + 1) = bin N (j + 1)) := Lib.hid (by
          have h1 := HD.out
          rw [HS.out, show N - j = d by omega])
        rw [HE.out] at hr2
        have HR2 := Lib.hid hr2; have HB2 := Lib.hid (HB.out.trans (hb2.mono HB.out.size))
        clear hr2 hb2
        go_wp2_with fail
        go_roundw
        case rel => exact ⟨j + 1, A2, n2, c2, by omega, by go_num, rfl, HR2.out, HB2.out⟩
        case measure => simp [intOf]; omega
      · have hjm : (j : Int) = kI := by omega
        have HV : Hid (bin N j = bin N k) := Lib.hid (by rw [show j = k by omega])
        clear hjm
        go_wp2_with fail
        go_ret
        exact ⟨A, n, c, rfl, by rw [← HV.out]; exact HR.out, HB.out⟩
#print axioms choose_num
end Go.Proofs.Ytncjmndiafgaaaa
