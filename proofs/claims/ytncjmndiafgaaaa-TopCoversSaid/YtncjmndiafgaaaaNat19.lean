/- The contract of ways at small numbers. Conditions: as each statement says. -/
import Derived.Test.YtncjmndiafgaaaaNat18
namespace Go.Proofs.Ytncjmndiafgaaaa
open Go.RowKit
set_option linter.unusedVariables false
/-- How many sets of s among T things have fewer than k of b bad ones. -/
def waysS (T b s : Nat) : Nat → Nat
  | 0 => 0
  | k + 1 => waysS T b s k + bin b k * bin (T - b) (s - k)
theorem ways_le (T b s : Nat) (hT : T ≤ 10) (hb : b ≤ T) : ∀ k, waysS T b s k ≤ k * 63504
  | 0 => by simp [waysS]
  | k + 1 => by
    have h1 := ways_le T b s hT hb k
    have h2 : bin b k * bin (T - b) (s - k) ≤ 252 * 252 := Nat.mul_le_mul (bin_le b (by omega) k) (bin_le _ (by omega) _)
    rw [waysS]; omega
theorem ways_low (T b s : Nat) (hT : T ≤ 10) (hb : b ≤ T) : ∀ k : Nat, (k : Int) ≤ (s : Int) - ((T : Int) - (b : Int)) → waysS T b s k = 0
  | 0, _ => rfl
  | k + 1, h => by
    rw [waysS, ways_low T b s hT hb k (by omega), bin_over (T - b) (s - k) (by omega)]; simp
theorem ways_high (T b s : Nat) : ∀ d, waysS T b s (b + 1 + d) = waysS T b s (b + 1)
  | 0 => rfl
  | d + 1 => by
    rw [← Nat.add_assoc, waysS, ways_high T b s d, bin_over b (b + 1 + d) (by omega)]; simp
theorem ways_over (T b s k : Nat) (h : b ≤ k) : waysS T b s (k + 1) = waysS T b s (b + 1) := by
  obtain ⟨d, rfl⟩ : ∃ d, k = b + d := ⟨k - b, by omega⟩
  rw [show b + d + 1 = b + 1 + d by omega]; exact ways_high T b s d
theorem bin_down (M l : Nat) (h0 : 0 < l) (h : l ≤ M) : bin M (l - 1) = bin M l * l / (M - l + 1) := by
  have h1 := bin_mul M (l - 1)
  rw [show l - 1 + 1 = l by omega, show M - (l - 1) = M - l + 1 by omega] at h1
  rw [h1, Nat.mul_div_cancel _ (by omega)]
set_option maxRecDepth 100000 in
set_option maxHeartbeats 4000000 in
theorem ways_num {w : World} (T b s se : Nat) (TI bI sI seI : Int) (hTI : TI = T) (hbI : bI = b) (hsI : sI = s) (hseI : seI = se) (hT : T ≤ 10) (hb : b ≤ T) (hs : s ≤ T) (hse : se ≤ s) :
    Calls Try.prog 31 #[.int .i64 TI, .int .i64 bI, .int .i64 sI, .int .i64 seI] w (RetNum w (waysS T b s (se + 1))) := by
  have c1 : TI ≤ T := by omega
  have c2 : (T : Int) ≤ TI := by omega
  have c3 : bI ≤ b := by omega
  have c4 : (b : Int) ≤ bI := by omega
  have c5 : sI ≤ s := by omega
  have c6 : (s : Int) ≤ sI := by omega
  have c7 : seI ≤ se := by omega
  have c8 : (se : Int) ≤ seI := by omega
  clear hTI hbI hsI hseI
  have d1 : 0 ≤ bI := by omega
  have d2 : bI ≤ TI := by omega
  have d3 : TI ≤ 10 := by omega
  have d4 : 0 ≤ sI := by omega
  have d5 : sI ≤ TI := by omega
  have d6 : 0 ≤ seI := by omega
  have d7 : seI ≤ sI := by omega
  have d8 : ¬ sI < seI := by omega
  have hcs : (bI < seI ∧ ¬ sI < bI) ∨ ¬ bI < seI := by omega
  have hcf : (0 < sI - (TI - bI)) ∨ (¬ 0 < sI - (TI - bI)) := by omega
  rcases hcs with ⟨g1, g2⟩ | g1 <;> rcases hcf with g3 | g3
  · skip
    by_cases hnil : bI < sI - (TI - bI)
    · have HZ : Hid (waysS T b s (se + 1) = 0) := Lib.hid (by rw [ways_over T b s se (by omega)]; exact ways_low T b s hT hb (b + 1) (by omega))
      go_enter Try.func31, Try.ntmps31
      go_wp2_with fail
      go_ret
      exact ⟨none, 0, 0, rfl, by rw [HZ.out]; exact num_zero _ _ _, Below.refl _ _⟩
    · obtain ⟨f, hf1, hf2⟩ : ∃ f : Nat, sI - (TI - bI) ≤ f ∧ (f : Int) ≤ sI - (TI - bI) := ⟨(sI - (TI - bI)).toNat, by omega, by omega⟩
      obtain ⟨m, hm1, hm2⟩ : ∃ m : Nat, bI ≤ m ∧ (m : Int) ≤ bI := ⟨(bI).toNat, by omega, by omega⟩
      have hfm : f ≤ m := by omega
      have hfs : s ≤ f + (T - b) := by omega
      have hms : m ≤ s := by omega
      have hmb : m ≤ b := by omega
      have HW0 : Hid (waysS T b s f = 0) := Lib.hid (by first | exact ways_low T b s hT hb f (by omega) | (rw [show f = 0 by omega]; rfl))
      have HWE : Hid (waysS T b s (m + 1) = waysS T b s (se + 1)) := Lib.hid (by first | rw [show m = se by omega] | (rw [show m = b by omega]; exact (ways_over T b s se (by omega)).symm))
      go_enter Try.func31, Try.ntmps31
      go_wp2_with fail
      refine (choose_num b f bI (sI - (TI - bI)) (by omega) (by omega) (by omega) (by omega)).mono ?_
      rintro e w1 ⟨A1, n1, k1, rfl, hr1, hb1⟩
      have HR1 := Lib.hid hr1; have HB1 := Lib.hid hb1
      clear hr1 hb1
      go_wp2_with fail
      refine (choose_num (T - b) (s - f) (TI - bI) _ (by omega) (by omega) (by omega) (by omega)).mono ?_
      rintro e w2 ⟨A2, n2, k2, rfl, hr2, hb2⟩
      have HR2 := Lib.hid hr2; have HB2 := Lib.hid (bnextN HB1.out hb2); have HR1' := Lib.hid (HR1.out.next hb2)
      clear hr2 hb2 HR1
      go_wp2_with fail
      go_loopw [9, 11, 12, 13] (fun sv av bv i wr => ∃ (j : Nat) (jI : Int) (A1 : Option Addr) (n1 k1 : Nat) (A2 : Option Addr) (n2 k2 : Nat) (A3 : Option Addr) (n3 k3 : Nat), f ≤ j ∧ j ≤ m + 1 ∧ jI ≤ j ∧ (j : Int) ≤ jI ∧ i = .int .i64 jI ∧ sv = .slice A1 n1 k1 ∧ av = .slice A2 n2 k2 ∧ bv = .slice A3 n3 k3 ∧ NumR wr wr.heap.size A1 n1 k1 (waysS T b s j) ∧ NumR wr wr.heap.size A2 n2 k2 (bin b j) ∧ NumR wr wr.heap.size A3 n3 k3 (bin (T - b) (s - j)) ∧ Below w.heap.size w wr) (fun _ _ _ i _ => m + 1 - (intOf i).toNat)
      case atStart => exact ⟨f, sI - (TI - bI), none, 0, 0, A1, n1, k1, A2, n2, k2, Nat.le_refl _, by omega, by omega, by omega, rfl, rfl, rfl, rfl, by rw [HW0.out]; exact num_zero _ _ _, HR1'.out, HR2.out, HB2.out⟩
      case round =>
        clear HR1' HR2 HB1 HB2
        obtain ⟨j, jI, A1, n1, k1, A2, n2, k2, A3, n3, k3, hj1, hj2, hj3, hj4, rfl, rfl, rfl, rfl, hr1, hr2, hr3, hbw⟩ := hrel
        obtain ⟨wa, rfl⟩ : ∃ z : World, z = wr := ⟨_, rfl⟩
        have HR1 := Lib.hid hr1; have HR2 := Lib.hid hr2; have HR3 := Lib.hid hr3; have HB := Lib.hid hbw
        clear hr1 hr2 hr3 hbw
        by_cases hlt : j ≤ m
        · have hki : jI ≤ bI := by omega
          have hj0 : 0 ≤ jI := by omega
          have hw := ways_le T b s hT hb j
          have hx := bin_le b (by omega) j
          have hy := bin_le (T - b) (by omega) (s - j)
          have hxy : bin b j * bin (T - b) (s - j) ≤ 252 * 252 := Nat.mul_le_mul hx hy
          have hxb : bin b j * (b - j) ≤ 252 * 10 := Nat.mul_le_mul hx (by omega)
          have hyl : bin (T - b) (s - j) * (s - j) ≤ 252 * 10 := Nat.mul_le_mul hy (by omega)
          have hjw : j * 63504 ≤ 10 * 63504 := Nat.mul_le_mul_right _ (by omega)
          have HS : Hid (waysS T b s j + bin b j * bin (T - b) (s - j) = waysS T b s (j + 1)) := Lib.hid rfl
          have HN : Hid (bin b j * (b - j) / (j + 1) = bin b (j + 1)) := Lib.hid (bin_step b j (by omega)).symm
          go_wp2_with fail
          refine (times_num HR2.out HR3.out (by omega)).mono ?_
          rintro e w1 ⟨B1, q1, p1, rfl, hr, hb'⟩
          have HT := Lib.hid hr; have HB1 := Lib.hid (bnextN HB.out hb'); have HR1' := Lib.hid (HR1.out.next hb'); have HR2' := Lib.hid (HR2.out.next hb'); have HR3' := Lib.hid (HR3.out.next hb')
          clear hr hb' HR1 HR2 HR3
          go_wp2_with fail
          refine (plus_num HR1'.out HT.out (by omega)).mono ?_
          rintro e w2 ⟨B2, q2, p2, rfl, hr, hb'⟩
          rw [HS.out] at hr
          have HSUM := Lib.hid hr; have HB2 := Lib.hid (bnextN HB1.out hb'); have HR2 := Lib.hid (HR2'.out.next hb'); have HR3 := Lib.hid (HR3'.out.next hb')
          clear hr hb' HR1' HR2' HR3' HB1 HT
          go_wp2_with fail
          refine (next_num bI jI (b - j) j (by omega) (by omega) (by omega) (by omega) HR2.out (by omega)).mono ?_
          rintro e w3 ⟨B3, q3, p3, rfl, hr, hb'⟩
          rw [HN.out] at hr
          have HA := Lib.hid hr; have HB3 := Lib.hid (bnextN HB2.out hb'); have HSUM2 := Lib.hid (HSUM.out.next hb'); have HR3' := Lib.hid (HR3.out.next hb')
          clear hr hb' HR2 HSUM HB2 HR3
          by_cases hl : j < s
          · have hl1 : jI < sI := by omega
            obtain ⟨lI, hlI⟩ : ∃ lI : Int, lI = ((s - j : Nat) : Int) := ⟨_, rfl⟩
            obtain ⟨mI, hmI⟩ : ∃ mI : Int, mI = ((T - b - (s - j) + 1 : Nat) : Int) := ⟨_, rfl⟩
            have x1 : IntKind.u32.wrap (sI - jI) = lI := by rw [IntKind.wrap_u32]; omega
            have x2 : IntKind.u32.wrap (TI - bI - (sI - jI) + 1) = mI := by rw [IntKind.wrap_u32]; omega
            have HL := Lib.hid hlI; have HM := Lib.hid hmI
            have HD : Hid (bin (T - b) (s - j) * (s - j) / (T - b - (s - j) + 1) = bin (T - b) (s - (j + 1))) := Lib.hid (by
              rw [← bin_down (T - b) (s - j) (by omega) (by omega)]; congr 1)
            clear hlI hmI
            go_wp2_with fail
            refine (times_num (HR3'.out.next ((Below.refl _ _).alloc (Nat.le_refl _) (.cells #[.int .u32 lI] 47))) ((num_lit w3 lI (s - j) HL.out (by omega)).mono (by simp)) (by omega)).mono ?_
            rintro e w4 ⟨B4, q4, p4, rfl, hr, hb'⟩
            have hb4 : Below w3.heap.size w3 w4 := ((Below.refl _ _).alloc (Nat.le_refl _) _).trans (hb'.mono (by simp))
            have HQ := Lib.hid hr; have HB4 := Lib.hid (bnextN HB3.out hb4); have HSUM3 := Lib.hid (HSUM2.out.next hb4); have HA2 := Lib.hid (HA.out.next hb4)
            clear hr hb' hb4 HSUM2 HA HB3
            go_wp2_with fail
            refine (split_num (HQ.out.next ((Below.refl _ _).alloc (Nat.le_refl _) (.cells #[.int .u32 mI] 47))) ((num_lit w4 mI _ HM.out (by omega)).mono (by simp)) (by omega) (by omega) (by omega)).mono ?_
            rintro e w5 ⟨B5, q5, p5, B6, q6, p6, rfl, hr, hr6, hb'⟩
            have hb5 : Below w4.heap.size w4 w5 := ((Below.refl _ _).alloc (Nat.le_refl _) _).trans (hb'.mono (by simp))
            rw [HD.out] at hr
            have HC := Lib.hid hr; have HB5 := Lib.hid (bnextN HB4.out hb5); have HSUM4 := Lib.hid (HSUM3.out.next hb5); have HA3 := Lib.hid (HA2.out.next hb5)
            clear hr hr6 hb' hb5 HSUM3 HA2 HB4
            go_wp2_with fail
            go_roundw
            case rel => exact ⟨j + 1, _, _, _, _, _, _, _, _, _, _, by omega, by omega, by omega, by omega, rfl, rfl, rfl, rfl, HSUM4.out, HA3.out, HC.out, HB5.out⟩
            case measure => simp [intOf]; omega
          · have hl1 : ¬ jI < sI := by omega
            have HD : Hid (bin (T - b) (s - (j + 1)) = bin (T - b) (s - j)) := Lib.hid (by congr 1; omega)
            have hl3 : sI - jI = 0 := by omega
            clear hl hl1
            go_wp2_with fail
            go_roundw
            case rel => exact ⟨j + 1, _, _, _, _, _, _, _, _, _, _, by omega, by omega, by omega, by omega, rfl, rfl, rfl, rfl, HSUM2.out, HA.out, by rw [HD.out]; exact HR3'.out, HB3.out⟩
            case measure => simp [intOf]; omega
        · have hki : ¬ jI ≤ bI := by omega
          have HE : Hid (waysS T b s j = waysS T b s (se + 1)) := Lib.hid (by rw [← HWE.out, show j = m + 1 by omega])
          go_wp2_with fail
          go_ret
          exact ⟨_, _, _, rfl, by rw [← HE.out]; exact HR1.out, HB.out⟩
  · skip
    by_cases hnil : bI < (0 : Int)
    · exfalso; omega
    · obtain ⟨f, hf1, hf2⟩ : ∃ f : Nat, (0 : Int) ≤ f ∧ (f : Int) ≤ (0 : Int) := ⟨((0 : Int)).toNat, by omega, by omega⟩
      obtain ⟨m, hm1, hm2⟩ : ∃ m : Nat, bI ≤ m ∧ (m : Int) ≤ bI := ⟨(bI).toNat, by omega, by omega⟩
      have hfm : f ≤ m := by omega
      have hfs : s ≤ f + (T - b) := by omega
      have hms : m ≤ s := by omega
      have hmb : m ≤ b := by omega
      have HW0 : Hid (waysS T b s f = 0) := Lib.hid (by first | exact ways_low T b s hT hb f (by omega) | (rw [show f = 0 by omega]; rfl))
      have HWE : Hid (waysS T b s (m + 1) = waysS T b s (se + 1)) := Lib.hid (by first | rw [show m = se by omega] | (rw [show m = b by omega]; exact (ways_over T b s se (by omega)).symm))
      go_enter Try.func31, Try.ntmps31
      go_wp2_with fail
      refine (choose_num b f bI ((0 : Int)) (by omega) (by omega) (by omega) (by omega)).mono ?_
      rintro e w1 ⟨A1, n1, k1, rfl, hr1, hb1⟩
      have HR1 := Lib.hid hr1; have HB1 := Lib.hid hb1
      clear hr1 hb1
      go_wp2_with fail
      refine (choose_num (T - b) (s - f) (TI - bI) _ (by omega) (by omega) (by omega) (by omega)).mono ?_
      rintro e w2 ⟨A2, n2, k2, rfl, hr2, hb2⟩
      have HR2 := Lib.hid hr2; have HB2 := Lib.hid (bnextN HB1.out hb2); have HR1' := Lib.hid (HR1.out.next hb2)
      clear hr2 hb2 HR1
      go_wp2_with fail
      go_loopw [9, 11, 12, 13] (fun sv av bv i wr => ∃ (j : Nat) (jI : Int) (A1 : Option Addr) (n1 k1 : Nat) (A2 : Option Addr) (n2 k2 : Nat) (A3 : Option Addr) (n3 k3 : Nat), f ≤ j ∧ j ≤ m + 1 ∧ jI ≤ j ∧ (j : Int) ≤ jI ∧ i = .int .i64 jI ∧ sv = .slice A1 n1 k1 ∧ av = .slice A2 n2 k2 ∧ bv = .slice A3 n3 k3 ∧ NumR wr wr.heap.size A1 n1 k1 (waysS T b s j) ∧ NumR wr wr.heap.size A2 n2 k2 (bin b j) ∧ NumR wr wr.heap.size A3 n3 k3 (bin (T - b) (s - j)) ∧ Below w.heap.size w wr) (fun _ _ _ i _ => m + 1 - (intOf i).toNat)
      case atStart => exact ⟨f, (0 : Int), none, 0, 0, A1, n1, k1, A2, n2, k2, Nat.le_refl _, by omega, by omega, by omega, rfl, rfl, rfl, rfl, by rw [HW0.out]; exact num_zero _ _ _, HR1'.out, HR2.out, HB2.out⟩
      case round =>
        clear HR1' HR2 HB1 HB2
        obtain ⟨j, jI, A1, n1, k1, A2, n2, k2, A3, n3, k3, hj1, hj2, hj3, hj4, rfl, rfl, rfl, rfl, hr1, hr2, hr3, hbw⟩ := hrel
        obtain ⟨wa, rfl⟩ : ∃ z : World, z = wr := ⟨_, rfl⟩
        have HR1 := Lib.hid hr1; have HR2 := Lib.hid hr2; have HR3 := Lib.hid hr3; have HB := Lib.hid hbw
        clear hr1 hr2 hr3 hbw
        by_cases hlt : j ≤ m
        · have hki : jI ≤ bI := by omega
          have hj0 : 0 ≤ jI := by omega
          have hw := ways_le T b s hT hb j
          have hx := bin_le b (by omega) j
          have hy := bin_le (T - b) (by omega) (s - j)
          have hxy : bin b j * bin (T - b) (s - j) ≤ 252 * 252 := Nat.mul_le_mul hx hy
          have hxb : bin b j * (b - j) ≤ 252 * 10 := Nat.mul_le_mul hx (by omega)
          have hyl : bin (T - b) (s - j) * (s - j) ≤ 252 * 10 := Nat.mul_le_mul hy (by omega)
          have hjw : j * 63504 ≤ 10 * 63504 := Nat.mul_le_mul_right _ (by omega)
          have HS : Hid (waysS T b s j + bin b j * bin (T - b) (s - j) = waysS T b s (j + 1)) := Lib.hid rfl
          have HN : Hid (bin b j * (b - j) / (j + 1) = bin b (j + 1)) := Lib.hid (bin_step b j (by omega)).symm
          go_wp2_with fail
          refine (times_num HR2.out HR3.out (by omega)).mono ?_
          rintro e w1 ⟨B1, q1, p1, rfl, hr, hb'⟩
          have HT := Lib.hid hr; have HB1 := Lib.hid (bnextN HB.out hb'); have HR1' := Lib.hid (HR1.out.next hb'); have HR2' := Lib.hid (HR2.out.next hb'); have HR3' := Lib.hid (HR3.out.next hb')
          clear hr hb' HR1 HR2 HR3
          go_wp2_with fail
          refine (plus_num HR1'.out HT.out (by omega)).mono ?_
          rintro e w2 ⟨B2, q2, p2, rfl, hr, hb'⟩
          rw [HS.out] at hr
          have HSUM := Lib.hid hr; have HB2 := Lib.hid (bnextN HB1.out hb'); have HR2 := Lib.hid (HR2'.out.next hb'); have HR3 := Lib.hid (HR3'.out.next hb')
          clear hr hb' HR1' HR2' HR3' HB1 HT
          go_wp2_with fail
          refine (next_num bI jI (b - j) j (by omega) (by omega) (by omega) (by omega) HR2.out (by omega)).mono ?_
          rintro e w3 ⟨B3, q3, p3, rfl, hr, hb'⟩
          rw [HN.out] at hr
          have HA := Lib.hid hr; have HB3 := Lib.hid (bnextN HB2.out hb'); have HSUM2 := Lib.hid (HSUM.out.next hb'); have HR3' := Lib.hid (HR3.out.next hb')
          clear hr hb' HR2 HSUM HB2 HR3
          by_cases hl : j < s
          · have hl1 : jI < sI := by omega
            obtain ⟨lI, hlI⟩ : ∃ lI : Int, lI = ((s - j : Nat) : Int) := ⟨_, rfl⟩
            obtain ⟨mI, hmI⟩ : ∃ mI : Int, mI = ((T - b - (s - j) + 1 : Nat) : Int) := ⟨_, rfl⟩
            have x1 : IntKind.u32.wrap (sI - jI) = lI := by rw [IntKind.wrap_u32]; omega
            have x2 : IntKind.u32.wrap (TI - bI - (sI - jI) + 1) = mI := by rw [IntKind.wrap_u32]; omega
            have HL := Lib.hid hlI; have HM := Lib.hid hmI
            have HD : Hid (bin (T - b) (s - j) * (s - j) / (T - b - (s - j) + 1) = bin (T - b) (s - (j + 1))) := Lib.hid (by
              rw [← bin_down (T - b) (s - j) (by omega) (by omega)]; congr 1)
            clear hlI hmI
            go_wp2_with fail
            refine (times_num (HR3'.out.next ((Below.refl _ _).alloc (Nat.le_refl _) (.cells #[.int .u32 lI] 47))) ((num_lit w3 lI (s - j) HL.out (by omega)).mono (by simp)) (by omega)).mono ?_
            rintro e w4 ⟨B4, q4, p4, rfl, hr, hb'⟩
            have hb4 : Below w3.heap.size w3 w4 := ((Below.refl _ _).alloc (Nat.le_refl _) _).trans (hb'.mono (by simp))
            have HQ := Lib.hid hr; have HB4 := Lib.hid (bnextN HB3.out hb4); have HSUM3 := Lib.hid (HSUM2.out.next hb4); have HA2 := Lib.hid (HA.out.next hb4)
            clear hr hb' hb4 HSUM2 HA HB3
            go_wp2_with fail
            refine (split_num (HQ.out.next ((Below.refl _ _).alloc (Nat.le_refl _) (.cells #[.int .u32 mI] 47))) ((num_lit w4 mI _ HM.out (by omega)).mono (by simp)) (by omega) (by omega) (by omega)).mono ?_
            rintro e w5 ⟨B5, q5, p5, B6, q6, p6, rfl, hr, hr6, hb'⟩
            have hb5 : Below w4.heap.size w4 w5 := ((Below.refl _ _).alloc (Nat.le_refl _) _).trans (hb'.mono (by simp))
            rw [HD.out] at hr
            have HC := Lib.hid hr; have HB5 := Lib.hid (bnextN HB4.out hb5); have HSUM4 := Lib.hid (HSUM3.out.next hb5); have HA3 := Lib.hid (HA2.out.next hb5)
            clear hr hr6 hb' hb5 HSUM3 HA2 HB4
            go_wp2_with fail
            go_roundw
            case rel => exact ⟨j + 1, _, _, _, _, _, _, _, _, _, _, by omega, by omega, by omega, by omega, rfl, rfl, rfl, rfl, HSUM4.out, HA3.out, HC.out, HB5.out⟩
            case measure => simp [intOf]; omega
          · have hl1 : ¬ jI < sI := by omega
            have HD : Hid (bin (T - b) (s - (j + 1)) = bin (T - b) (s - j)) := Lib.hid (by congr 1; omega)
            have hl3 : sI - jI = 0 := by omega
            clear hl hl1
            go_wp2_with fail
            go_roundw
            case rel => exact ⟨j + 1, _, _, _, _, _, _, _, _, _, _, by omega, by omega, by omega, by omega, rfl, rfl, rfl, rfl, HSUM2.out, HA.out, by rw [HD.out]; exact HR3'.out, HB3.out⟩
            case measure => simp [intOf]; omega
        · have hki : ¬ jI ≤ bI := by omega
          have HE : Hid (waysS T b s j = waysS T b s (se + 1)) := Lib.hid (by rw [← HWE.out, show j = m + 1 by omega])
          go_wp2_with fail
          go_ret
          exact ⟨_, _, _, rfl, by rw [← HE.out]; exact HR1.out, HB.out⟩
  · skip
    by_cases hnil : seI < sI - (TI - bI)
    · have HZ : Hid (waysS T b s (se + 1) = 0) := Lib.hid (by rw [ways_low T b s hT hb (se + 1) (by omega)])
      go_enter Try.func31, Try.ntmps31
      go_wp2_with fail
      go_ret
      exact ⟨none, 0, 0, rfl, by rw [HZ.out]; exact num_zero _ _ _, Below.refl _ _⟩
    · obtain ⟨f, hf1, hf2⟩ : ∃ f : Nat, sI - (TI - bI) ≤ f ∧ (f : Int) ≤ sI - (TI - bI) := ⟨(sI - (TI - bI)).toNat, by omega, by omega⟩
      obtain ⟨m, hm1, hm2⟩ : ∃ m : Nat, seI ≤ m ∧ (m : Int) ≤ seI := ⟨(seI).toNat, by omega, by omega⟩
      have hfm : f ≤ m := by omega
      have hfs : s ≤ f + (T - b) := by omega
      have hms : m ≤ s := by omega
      have hmb : m ≤ b := by omega
      have HW0 : Hid (waysS T b s f = 0) := Lib.hid (by first | exact ways_low T b s hT hb f (by omega) | (rw [show f = 0 by omega]; rfl))
      have HWE : Hid (waysS T b s (m + 1) = waysS T b s (se + 1)) := Lib.hid (by first | rw [show m = se by omega] | (rw [show m = b by omega]; exact (ways_over T b s se (by omega)).symm))
      go_enter Try.func31, Try.ntmps31
      go_wp2_with fail
      refine (choose_num b f bI (sI - (TI - bI)) (by omega) (by omega) (by omega) (by omega)).mono ?_
      rintro e w1 ⟨A1, n1, k1, rfl, hr1, hb1⟩
      have HR1 := Lib.hid hr1; have HB1 := Lib.hid hb1
      clear hr1 hb1
      go_wp2_with fail
      refine (choose_num (T - b) (s - f) (TI - bI) _ (by omega) (by omega) (by omega) (by omega)).mono ?_
      rintro e w2 ⟨A2, n2, k2, rfl, hr2, hb2⟩
      have HR2 := Lib.hid hr2; have HB2 := Lib.hid (bnextN HB1.out hb2); have HR1' := Lib.hid (HR1.out.next hb2)
      clear hr2 hb2 HR1
      go_wp2_with fail
      go_loopw [9, 11, 12, 13] (fun sv av bv i wr => ∃ (j : Nat) (jI : Int) (A1 : Option Addr) (n1 k1 : Nat) (A2 : Option Addr) (n2 k2 : Nat) (A3 : Option Addr) (n3 k3 : Nat), f ≤ j ∧ j ≤ m + 1 ∧ jI ≤ j ∧ (j : Int) ≤ jI ∧ i = .int .i64 jI ∧ sv = .slice A1 n1 k1 ∧ av = .slice A2 n2 k2 ∧ bv = .slice A3 n3 k3 ∧ NumR wr wr.heap.size A1 n1 k1 (waysS T b s j) ∧ NumR wr wr.heap.size A2 n2 k2 (bin b j) ∧ NumR wr wr.heap.size A3 n3 k3 (bin (T - b) (s - j)) ∧ Below w.heap.size w wr) (fun _ _ _ i _ => m + 1 - (intOf i).toNat)
      case atStart => exact ⟨f, sI - (TI - bI), none, 0, 0, A1, n1, k1, A2, n2, k2, Nat.le_refl _, by omega, by omega, by omega, rfl, rfl, rfl, rfl, by rw [HW0.out]; exact num_zero _ _ _, HR1'.out, HR2.out, HB2.out⟩
      case round =>
        clear HR1' HR2 HB1 HB2
        obtain ⟨j, jI, A1, n1, k1, A2, n2, k2, A3, n3, k3, hj1, hj2, hj3, hj4, rfl, rfl, rfl, rfl, hr1, hr2, hr3, hbw⟩ := hrel
        obtain ⟨wa, rfl⟩ : ∃ z : World, z = wr := ⟨_, rfl⟩
        have HR1 := Lib.hid hr1; have HR2 := Lib.hid hr2; have HR3 := Lib.hid hr3; have HB := Lib.hid hbw
        clear hr1 hr2 hr3 hbw
        by_cases hlt : j ≤ m
        · have hki : jI ≤ seI := by omega
          have hj0 : 0 ≤ jI := by omega
          have hw := ways_le T b s hT hb j
          have hx := bin_le b (by omega) j
          have hy := bin_le (T - b) (by omega) (s - j)
          have hxy : bin b j * bin (T - b) (s - j) ≤ 252 * 252 := Nat.mul_le_mul hx hy
          have hxb : bin b j * (b - j) ≤ 252 * 10 := Nat.mul_le_mul hx (by omega)
          have hyl : bin (T - b) (s - j) * (s - j) ≤ 252 * 10 := Nat.mul_le_mul hy (by omega)
          have hjw : j * 63504 ≤ 10 * 63504 := Nat.mul_le_mul_right _ (by omega)
          have HS : Hid (waysS T b s j + bin b j * bin (T - b) (s - j) = waysS T b s (j + 1)) := Lib.hid rfl
          have HN : Hid (bin b j * (b - j) / (j + 1) = bin b (j + 1)) := Lib.hid (bin_step b j (by omega)).symm
          go_wp2_with fail
          refine (times_num HR2.out HR3.out (by omega)).mono ?_
          rintro e w1 ⟨B1, q1, p1, rfl, hr, hb'⟩
          have HT := Lib.hid hr; have HB1 := Lib.hid (bnextN HB.out hb'); have HR1' := Lib.hid (HR1.out.next hb'); have HR2' := Lib.hid (HR2.out.next hb'); have HR3' := Lib.hid (HR3.out.next hb')
          clear hr hb' HR1 HR2 HR3
          go_wp2_with fail
          refine (plus_num HR1'.out HT.out (by omega)).mono ?_
          rintro e w2 ⟨B2, q2, p2, rfl, hr, hb'⟩
          rw [HS.out] at hr
          have HSUM := Lib.hid hr; have HB2 := Lib.hid (bnextN HB1.out hb'); have HR2 := Lib.hid (HR2'.out.next hb'); have HR3 := Lib.hid (HR3'.out.next hb')
          clear hr hb' HR1' HR2' HR3' HB1 HT
          go_wp2_with fail
          refine (next_num bI jI (b - j) j (by omega) (by omega) (by omega) (by omega) HR2.out (by omega)).mono ?_
          rintro e w3 ⟨B3, q3, p3, rfl, hr, hb'⟩
          rw [HN.out] at hr
          have HA := Lib.hid hr; have HB3 := Lib.hid (bnextN HB2.out hb'); have HSUM2 := Lib.hid (HSUM.out.next hb'); have HR3' := Lib.hid (HR3.out.next hb')
          clear hr hb' HR2 HSUM HB2 HR3
          by_cases hl : j < s
          · have hl1 : jI < sI := by omega
            obtain ⟨lI, hlI⟩ : ∃ lI : Int, lI = ((s - j : Nat) : Int) := ⟨_, rfl⟩
            obtain ⟨mI, hmI⟩ : ∃ mI : Int, mI = ((T - b - (s - j) + 1 : Nat) : Int) := ⟨_, rfl⟩
            have x1 : IntKind.u32.wrap (sI - jI) = lI := by rw [IntKind.wrap_u32]; omega
            have x2 : IntKind.u32.wrap (TI - bI - (sI - jI) + 1) = mI := by rw [IntKind.wrap_u32]; omega
            have HL := Lib.hid hlI; have HM := Lib.hid hmI
            have HD : Hid (bin (T - b) (s - j) * (s - j) / (T - b - (s - j) + 1) = bin (T - b) (s - (j + 1))) := Lib.hid (by
              rw [← bin_down (T - b) (s - j) (by omega) (by omega)]; congr 1)
            clear hlI hmI
            go_wp2_with fail
            refine (times_num (HR3'.out.next ((Below.refl _ _).alloc (Nat.le_refl _) (.cells #[.int .u32 lI] 47))) ((num_lit w3 lI (s - j) HL.out (by omega)).mono (by simp)) (by omega)).mono ?_
            rintro e w4 ⟨B4, q4, p4, rfl, hr, hb'⟩
            have hb4 : Below w3.heap.size w3 w4 := ((Below.refl _ _).alloc (Nat.le_refl _) _).trans (hb'.mono (by simp))
            have HQ := Lib.hid hr; have HB4 := Lib.hid (bnextN HB3.out hb4); have HSUM3 := Lib.hid (HSUM2.out.next hb4); have HA2 := Lib.hid (HA.out.next hb4)
            clear hr hb' hb4 HSUM2 HA HB3
            go_wp2_with fail
            refine (split_num (HQ.out.next ((Below.refl _ _).alloc (Nat.le_refl _) (.cells #[.int .u32 mI] 47))) ((num_lit w4 mI _ HM.out (by omega)).mono (by simp)) (by omega) (by omega) (by omega)).mono ?_
            rintro e w5 ⟨B5, q5, p5, B6, q6, p6, rfl, hr, hr6, hb'⟩
            have hb5 : Below w4.heap.size w4 w5 := ((Below.refl _ _).alloc (Nat.le_refl _) _).trans (hb'.mono (by simp))
            rw [HD.out] at hr
            have HC := Lib.hid hr; have HB5 := Lib.hid (bnextN HB4.out hb5); have HSUM4 := Lib.hid (HSUM3.out.next hb5); have HA3 := Lib.hid (HA2.out.next hb5)
            clear hr hr6 hb' hb5 HSUM3 HA2 HB4
            go_wp2_with fail
            go_roundw
            case rel => exact ⟨j + 1, _, _, _, _, _, _, _, _, _, _, by omega, by omega, by omega, by omega, rfl, rfl, rfl, rfl, HSUM4.out, HA3.out, HC.out, HB5.out⟩
            case measure => simp [intOf]; omega
          · have hl1 : ¬ jI < sI := by omega
            have HD : Hid (bin (T - b) (s - (j + 1)) = bin (T - b) (s - j)) := Lib.hid (by congr 1; omega)
            have hl3 : sI - jI = 0 := by omega
            clear hl hl1
            go_wp2_with fail
            go_roundw
            case rel => exact ⟨j + 1, _, _, _, _, _, _, _, _, _, _, by omega, by omega, by omega, by omega, rfl, rfl, rfl, rfl, HSUM2.out, HA.out, by rw [HD.out]; exact HR3'.out, HB3.out⟩
            case measure => simp [intOf]; omega
        · have hki : ¬ jI ≤ seI := by omega
          have HE : Hid (waysS T b s j = waysS T b s (se + 1)) := Lib.hid (by rw [← HWE.out, show j = m + 1 by omega])
          go_wp2_with fail
          go_ret
          exact ⟨_, _, _, rfl, by rw [← HE.out]; exact HR1.out, HB.out⟩
  · skip
    by_cases hnil : seI < (0 : Int)
    · exfalso; omega
    · obtain ⟨f, hf1, hf2⟩ : ∃ f : Nat, (0 : Int) ≤ f ∧ (f : Int) ≤ (0 : Int) := ⟨((0 : Int)).toNat, by omega, by omega⟩
      obtain ⟨m, hm1, hm2⟩ : ∃ m : Nat, seI ≤ m ∧ (m : Int) ≤ seI := ⟨(seI).toNat, by omega, by omega⟩
      have hfm : f ≤ m := by omega
      have hfs : s ≤ f + (T - b) := by omega
      have hms : m ≤ s := by omega
      have hmb : m ≤ b := by omega
      have HW0 : Hid (waysS T b s f = 0) := Lib.hid (by first | exact ways_low T b s hT hb f (by omega) | (rw [show f = 0 by omega]; rfl))
      have HWE : Hid (waysS T b s (m + 1) = waysS T b s (se + 1)) := Lib.hid (by first | rw [show m = se by omega] | (rw [show m = b by omega]; exact (ways_over T b s se (by omega)).symm))
      go_enter Try.func31, Try.ntmps31
      go_wp2_with fail
      refine (choose_num b f bI ((0 : Int)) (by omega) (by omega) (by omega) (by omega)).mono ?_
      rintro e w1 ⟨A1, n1, k1, rfl, hr1, hb1⟩
      have HR1 := Lib.hid hr1; have HB1 := Lib.hid hb1
      clear hr1 hb1
      go_wp2_with fail
      refine (choose_num (T - b) (s - f) (TI - bI) _ (by omega) (by omega) (by omega) (by omega)).mono ?_
      rintro e w2 ⟨A2, n2, k2, rfl, hr2, hb2⟩
      have HR2 := Lib.hid hr2; have HB2 := Lib.hid (bnextN HB1.out hb2); have HR1' := Lib.hid (HR1.out.next hb2)
      clear hr2 hb2 HR1
      go_wp2_with fail
      go_loopw [9, 11, 12, 13] (fun sv av bv i wr => ∃ (j : Nat) (jI : Int) (A1 : Option Addr) (n1 k1 : Nat) (A2 : Option Addr) (n2 k2 : Nat) (A3 : Option Addr) (n3 k3 : Nat), f ≤ j ∧ j ≤ m + 1 ∧ jI ≤ j ∧ (j : Int) ≤ jI ∧ i = .int .i64 jI ∧ sv = .slice A1 n1 k1 ∧ av = .slice A2 n2 k2 ∧ bv = .slice A3 n3 k3 ∧ NumR wr wr.heap.size A1 n1 k1 (waysS T b s j) ∧ NumR wr wr.heap.size A2 n2 k2 (bin b j) ∧ NumR wr wr.heap.size A3 n3 k3 (bin (T - b) (s - j)) ∧ Below w.heap.size w wr) (fun _ _ _ i _ => m + 1 - (intOf i).toNat)
      case atStart => exact ⟨f, (0 : Int), none, 0, 0, A1, n1, k1, A2, n2, k2, Nat.le_refl _, by omega, by omega, by omega, rfl, rfl, rfl, rfl, by rw [HW0.out]; exact num_zero _ _ _, HR1'.out, HR2.out, HB2.out⟩
      case round =>
        clear HR1' HR2 HB1 HB2
        obtain ⟨j, jI, A1, n1, k1, A2, n2, k2, A3, n3, k3, hj1, hj2, hj3, hj4, rfl, rfl, rfl, rfl, hr1, hr2, hr3, hbw⟩ := hrel
        obtain ⟨wa, rfl⟩ : ∃ z : World, z = wr := ⟨_, rfl⟩
        have HR1 := Lib.hid hr1; have HR2 := Lib.hid hr2; have HR3 := Lib.hid hr3; have HB := Lib.hid hbw
        clear hr1 hr2 hr3 hbw
        by_cases hlt : j ≤ m
        · have hki : jI ≤ seI := by omega
          have hj0 : 0 ≤ jI := by omega
          have hw := ways_le T b s hT hb j
          have hx := bin_le b (by omega) j
          have hy := bin_le (T - b) (by omega) (s - j)
          have hxy : bin b j * bin (T - b) (s - j) ≤ 252 * 252 := Nat.mul_le_mul hx hy
          have hxb : bin b j * (b - j) ≤ 252 * 10 := Nat.mul_le_mul hx (by omega)
          have hyl : bin (T - b) (s - j) * (s - j) ≤ 252 * 10 := Nat.mul_le_mul hy (by omega)
          have hjw : j * 63504 ≤ 10 * 63504 := Nat.mul_le_mul_right _ (by omega)
          have HS : Hid (waysS T b s j + bin b j * bin (T - b) (s - j) = waysS T b s (j + 1)) := Lib.hid rfl
          have HN : Hid (bin b j * (b - j) / (j + 1) = bin b (j + 1)) := Lib.hid (bin_step b j (by omega)).symm
          go_wp2_with fail
          refine (times_num HR2.out HR3.out (by omega)).mono ?_
          rintro e w1 ⟨B1, q1, p1, rfl, hr, hb'⟩
          have HT := Lib.hid hr; have HB1 := Lib.hid (bnextN HB.out hb'); have HR1' := Lib.hid (HR1.out.next hb'); have HR2' := Lib.hid (HR2.out.next hb'); have HR3' := Lib.hid (HR3.out.next hb')
          clear hr hb' HR1 HR2 HR3
          go_wp2_with fail
          refine (plus_num HR1'.out HT.out (by omega)).mono ?_
          rintro e w2 ⟨B2, q2, p2, rfl, hr, hb'⟩
          rw [HS.out] at hr
          have HSUM := Lib.hid hr; have HB2 := Lib.hid (bnextN HB1.out hb'); have HR2 := Lib.hid (HR2'.out.next hb'); have HR3 := Lib.hid (HR3'.out.next hb')
          clear hr hb' HR1' HR2' HR3' HB1 HT
          go_wp2_with fail
          refine (next_num bI jI (b - j) j (by omega) (by omega) (by omega) (by omega) HR2.out (by omega)).mono ?_
          rintro e w3 ⟨B3, q3, p3, rfl, hr, hb'⟩
          rw [HN.out] at hr
          have HA := Lib.hid hr; have HB3 := Lib.hid (bnextN HB2.out hb'); have HSUM2 := Lib.hid (HSUM.out.next hb'); have HR3' := Lib.hid (HR3.out.next hb')
          clear hr hb' HR2 HSUM HB2 HR3
          by_cases hl : j < s
          · have hl1 : jI < sI := by omega
            obtain ⟨lI, hlI⟩ : ∃ lI : Int, lI = ((s - j : Nat) : Int) := ⟨_, rfl⟩
            obtain ⟨mI, hmI⟩ : ∃ mI : Int, mI = ((T - b - (s - j) + 1 : Nat) : Int) := ⟨_, rfl⟩
            have x1 : IntKind.u32.wrap (sI - jI) = lI := by rw [IntKind.wrap_u32]; omega
            have x2 : IntKind.u32.wrap (TI - bI - (sI - jI) + 1) = mI := by rw [IntKind.wrap_u32]; omega
            have HL := Lib.hid hlI; have HM := Lib.hid hmI
            have HD : Hid (bin (T - b) (s - j) * (s - j) / (T - b - (s - j) + 1) = bin (T - b) (s - (j + 1))) := Lib.hid (by
              rw [← bin_down (T - b) (s - j) (by omega) (by omega)]; congr 1)
            clear hlI hmI
            go_wp2_with fail
            refine (times_num (HR3'.out.next ((Below.refl _ _).alloc (Nat.le_refl _) (.cells #[.int .u32 lI] 47))) ((num_lit w3 lI (s - j) HL.out (by omega)).mono (by simp)) (by omega)).mono ?_
            rintro e w4 ⟨B4, q4, p4, rfl, hr, hb'⟩
            have hb4 : Below w3.heap.size w3 w4 := ((Below.refl _ _).alloc (Nat.le_refl _) _).trans (hb'.mono (by simp))
            have HQ := Lib.hid hr; have HB4 := Lib.hid (bnextN HB3.out hb4); have HSUM3 := Lib.hid (HSUM2.out.next hb4); have HA2 := Lib.hid (HA.out.next hb4)
            clear hr hb' hb4 HSUM2 HA HB3
            go_wp2_with fail
            refine (split_num (HQ.out.next ((Below.refl _ _).alloc (Nat.le_refl _) (.cells #[.int .u32 mI] 47))) ((num_lit w4 mI _ HM.out (by omega)).mono (by simp)) (by omega) (by omega) (by omega)).mono ?_
            rintro e w5 ⟨B5, q5, p5, B6, q6, p6, rfl, hr, hr6, hb'⟩
            have hb5 : Below w4.heap.size w4 w5 := ((Below.refl _ _).alloc (Nat.le_refl _) _).trans (hb'.mono (by simp))
            rw [HD.out] at hr
            have HC := Lib.hid hr; have HB5 := Lib.hid (bnextN HB4.out hb5); have HSUM4 := Lib.hid (HSUM3.out.next hb5); have HA3 := Lib.hid (HA2.out.next hb5)
            clear hr hr6 hb' hb5 HSUM3 HA2 HB4
            go_wp2_with fail
            go_roundw
            case rel => exact ⟨j + 1, _, _, _, _, _, _, _, _, _, _, by omega, by omega, by omega, by omega, rfl, rfl, rfl, rfl, HSUM4.out, HA3.out, HC.out, HB5.out⟩
            case measure => simp [intOf]; omega
          · have hl1 : ¬ jI < sI := by omega
            have HD : Hid (bin (T - b) (s - (j + 1)) = bin (T - b) (s - j)) := Lib.hid (by congr 1; omega)
            have hl3 : sI - jI = 0 := by omega
            clear hl hl1
            go_wp2_with fail
            go_roundw
            case rel => exact ⟨j + 1, _, _, _, _, _, _, _, _, _, _, by omega, by omega, by omega, by omega, rfl, rfl, rfl, rfl, HSUM2.out, HA.out, by rw [HD.out]; exact HR3'.out, HB3.out⟩
            case measure => simp [intOf]; omega
        · have hki : ¬ jI ≤ seI := by omega
          have HE : Hid (waysS T b s j = waysS T b s (se + 1)) := Lib.hid (by rw [← HWE.out, show j = m + 1 by omega])
          go_wp2_with fail
          go_ret
          exact ⟨_, _, _, rfl, by rw [← HE.out]; exact HR1.out, HB.out⟩
#print axioms ways_num
end Go.Proofs.Ytncjmndiafgaaaa
