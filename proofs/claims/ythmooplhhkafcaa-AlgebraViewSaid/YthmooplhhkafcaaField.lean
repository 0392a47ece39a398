/- Contracts of the functions of the finite fields. Conditions: as each statement says. -/
import Derived.Test.YthmooplhhkafcaaProg
import Derived.Test.YthmooplhhkafcaaBase
import Derived.Test.YthmooplhhkafcaaMath
namespace Go.Proofs.Ythmooplhhkafcaa
open Go.RowKit


theorem u64_xor' {a b : Nat} (ha : a < 18446744073709551616) (hb : b < 18446744073709551616) : bits .xor .u64 (a : Int) (b : Int) = ((a ^^^ b : Nat) : Int) := u64_xor_nat a b ha hb

theorem modulus_any (n : Int) (w : World) :
    Calls Try.prog 95 #[.int .i64 n] w fun e w' => e = .returned (.int .u64 (modN n.toNat)) ∧ w = w' := by
  have e : modN n.toNat = if n = 8 then 0x11b else if n = 16 then 0x1002b else if n = 32 then 0x10000008d else 0 := by
    unfold modN
    repeat' split
    all_goals omega
  have H := Lib.hid e; clear e
  go_enter Try.func95, Try.ntmps95
  go_wp2
  all_goals go_ret
  all_goals refine ⟨?_, rfl⟩
  all_goals rw [H.out]
  all_goals simp_all

theorem xt_big {n a : Nat} (h : ((a : Int) * 2 / 2 ^ n != 0) = true) (hn : IsW n) (ha : a < 2 ^ n) : bits .xor .u64 ((a : Int) * 2) (modN n) = (xt n a : Int) := by
  have hp := hn.pow
  have hm := modN_lt hn
  have e : ((a : Int) * 2) = ((a * 2 : Nat) : Int) := by omega
  rw [e, u64_xor' (by omega) (by omega)]
  have h0 : a * 2 / 2 ^ n ≠ 0 := by
    intro h0
    rw [e] at h
    rw [show ((2 : Int) ^ n) = ((2 ^ n : Nat) : Int) by simp, ← Int.natCast_ediv, h0] at h
    simp at h
  rw [xt, if_neg h0]
theorem xt_small {n a : Nat} (h : ((a : Int) * 2 / 2 ^ n != 0) = false) : ((a : Int) * 2) = (xt n a : Int) := by
  have e : ((a : Int) * 2) = ((a * 2 : Nat) : Int) := by omega
  have h0 : a * 2 / 2 ^ n = 0 := by
    rw [e, show ((2 : Int) ^ n) = ((2 ^ n : Nat) : Int) by simp, ← Int.natCast_ediv] at h
    have h' : ((a * 2 / 2 ^ n : Nat) : Int) = 0 := by simpa only [bne_eq_false_iff_eq] using h
    omega
  rw [xt, if_pos h0, e]
theorem odd_yes {b : Nat} (hb : b < 18446744073709551616) (h : (bits BinOp.and IntKind.u64 (b : Int) 1 == 1) = true) : b % 2 = 1 := by
  rw [show (1 : Int) = ((1 : Nat) : Int) from rfl, u64_and_nat b 1 hb (by omega), nat_mask1] at h
  have h' := eq_of_beq h
  omega
theorem odd_no {b : Nat} (hb : b < 18446744073709551616) (h : (bits BinOp.and IntKind.u64 (b : Int) 1 == 1) = false) : ¬ b % 2 = 1 := by
  rw [show (1 : Int) = ((1 : Nat) : Int) from rfl, u64_and_nat b 1 hb (by omega), nat_mask1] at h
  have h' := ne_of_beq_false h
  omega

set_option maxHeartbeats 400000 in
theorem times_nat (n a b : Nat) (hn : IsW n) (ha : a < 2 ^ n) (hb : b < 2 ^ n) (w : World) :
    Calls Try.prog 81 #[.int .i64 n, .int .u64 a, .int .u64 b] w fun e w' => e = .returned (.int .u64 (gm n a b)) ∧ w = w' := by
  have hp := hn.pow
  have hq := hn.le
  have HW := Lib.hid hn; clear hn
  go_enter Try.func81, Try.ntmps81
  go_wp2
  go_loop [1, 2, 6] (fun x y z => ∃ f a' b' m : Nat, a' < 2 ^ n ∧ b' < 2 ^ f ∧ f ≤ 32 ∧ m < 2 ^ n ∧ x = .int .u64 a' ∧ y = .int .u64 b' ∧ z = .int .u64 m ∧ gm n a b = tim n f a' b' m) (fun x y z => (intOf y).toNat)
  case atStart => exact ⟨32, a, b, 0, ha, Nat.lt_of_lt_of_le hb (Nat.pow_le_pow_right (by omega) (by omega)), by omega, by omega, rfl, rfl, rfl, tim_more n 32 a b 0 (Nat.lt_of_lt_of_le hb (Nat.pow_le_pow_right (by omega) (by omega))) 32⟩
  case round =>
    obtain ⟨f, a', b', m, ha', hb', hf, hm, rfl, rfl, rfl, hg⟩ := hrel
    have HG := Lib.hid hg; clear hg
    have hb'' : b' < 18446744073709551616 := Nat.lt_of_lt_of_le hb' (Nat.le_trans (Nat.pow_le_pow_right (by omega) hf) (by decide))
    go_wp2_with (go_at_call 95; refine (modulus_any _ _).mono ?_; rintro e w' ⟨rfl, rfl⟩)
    rotate_right
    · have h0 : ((b' : Int) != 0) = false := by assumption
      obtain rfl : b' = 0 := by simpa using h0
      go_ret
      exact ⟨ret_int (by rw [HG.out, tim_zero]), rfl⟩
    all_goals
      have h0 : b' ≠ 0 := by
        have h0 : ((b' : Int) != 0) = true := by assumption
        simpa using h0
      obtain ⟨g, hfg, hbg, hgg⟩ := tim_round n f a' b' m h0 hb'
      rw [hgg] at HG
    · have h1 : b' % 2 = 1 := odd_yes hb'' (by assumption)
      rw [if_pos h1] at HG
      exact ⟨⟨g, xt n a', b' / 2, m ^^^ a', xt_lt HW.out ha', hbg, by omega, xor_lt hm ha', by rw [xt_big (by assumption) HW.out ha'], by go_num, by rw [u64_xor' (by omega) (by omega)], HG.out⟩, by simp [intOf]; omega⟩
    · have h1 : b' % 2 = 1 := odd_yes hb'' (by assumption)
      rw [if_pos h1] at HG
      exact ⟨⟨g, xt n a', b' / 2, m ^^^ a', xt_lt HW.out ha', hbg, by omega, xor_lt hm ha', by rw [xt_small (by assumption)], by go_num, by rw [u64_xor' (by omega) (by omega)], HG.out⟩, by simp [intOf]; omega⟩
    · have h1 : ¬ b' % 2 = 1 := odd_no hb'' (by assumption)
      rw [if_neg h1] at HG
      exact ⟨⟨g, xt n a', b' / 2, m, xt_lt HW.out ha', hbg, by omega, hm, by rw [xt_big (by assumption) HW.out ha'], by go_num, rfl, HG.out⟩, by simp [intOf]; omega⟩
    · have h1 : ¬ b' % 2 = 1 := odd_no hb'' (by assumption)
      rw [if_neg h1] at HG
      exact ⟨⟨g, xt n a', b' / 2, m, xt_lt HW.out ha', hbg, by omega, hm, by rw [xt_small (by assumption)], by go_num, rfl, HG.out⟩, by simp [intOf]; omega⟩

theorem times_any (n a b : Int) (hn : n = 8 ∨ n = 16 ∨ n = 32) (ha0 : 0 ≤ a) (ha : a.toNat < 2 ^ n.toNat) (hb0 : 0 ≤ b) (hb : b.toNat < 2 ^ n.toNat) (w : World) :
    Calls Try.prog 81 #[.int .i64 n, .int .u64 a, .int .u64 b] w fun e w' => e = .returned (.int .u64 (gm n.toNat a.toNat b.toNat)) ∧ w = w' := by
  have h := times_nat n.toNat a.toNat b.toNat (by unfold IsW; omega) ha hb w
  rw [toNat_cast_eq (by omega), toNat_cast_eq ha0, toNat_cast_eq hb0] at h
  exact h

theorem product_any (a b : Int) (ha0 : 0 ≤ a) (ha : a ≤ 255) (hb0 : 0 ≤ b) (hb : b ≤ 255) (w : World) :
    Calls Try.prog 64 #[.int .u8 a, .int .u8 b] w fun e w' => e = .returned (.int .u8 (gm 8 a.toNat b.toNat)) ∧ w = w' := by
  have hlt : gm 8 a.toNat b.toNat < 2 ^ 8 := gm_lt (.inl rfl) (by omega)
  go_enter Try.func64, Try.ntmps64
  go_wp2_with (go_at_call 81; refine (times_any _ _ _ (by omega) (by omega) (by simp; omega) (by omega) (by simp; omega) _).mono ?_; rintro e w' ⟨rfl, rfl⟩)
  go_ret
  exact ⟨rfl, rfl⟩

/-- The error of a width and some numbers. -/
def elemE (n : Int) (l : List Nat) : Int := if modN n.toNat = 0 then 2 else if l.all (fun x => decide (x / 2 ^ n.toNat = 0)) then 0 else 3
theorem modN_zero (n : Int) : modN n.toNat = 0 ↔ ¬ (n = 8 ∨ n = 16 ∨ n = 32) := by
  unfold modN
  repeat' split
  all_goals omega
theorem shr_zero {x n : Nat} : ((x : Int) / 2 ^ n != 0) = decide (x / 2 ^ n ≠ 0) := by
  rw [show ((2 : Int) ^ n) = ((2 ^ n : Nat) : Int) by simp, ← Int.natCast_ediv]
  rw [Bool.eq_iff_iff]
  simp only [bne_iff_ne, ne_eq, decide_eq_true_eq]
  omega

set_option maxHeartbeats 400000 in
theorem elements_any (n : Int) (A : Option Addr) (k c : Nat) (l : List Nat) (w : World) (B : Nat) (hk : k ≤ 9223372036854775807) (h : Rd w B 1 A k (l.map fun x : Nat => Value.int .u64 x)) :
    Calls Try.prog 78 #[.int .i64 n, .slice A k c] w fun e w' => e = .returned (.int .i64 (elemE n l)) ∧ w = w' := by
  have hl : l.length = k := by have := h.1; simpa using this
  have H := Lib.hid h; clear h
  have HL := Lib.hid hl; clear hl
  by_cases hz : modN n.toNat = 0
  · have HE := Lib.hid (show elemE n l = 2 by unfold elemE; rw [if_pos hz])
    have hz' : ((modN n.toNat : Int) == 0) = true := by simp [hz]
    have HZ := Lib.hid hz; clear hz
    go_enter Try.func78, Try.ntmps78
    go_wp2_with (go_at_call 95; refine (modulus_any _ _).mono ?_; rintro e w' ⟨rfl, rfl⟩)
    go_ret
    exact ⟨ret_int HE.out.symm, rfl⟩
  · have hw := (not_congr (modN_zero n)).1 hz
    have hw : n = 8 ∨ n = 16 ∨ n = 32 := by omega
    obtain ⟨m, rfl⟩ := Int.eq_ofNat_of_zero_le (show 0 ≤ n by omega)
    have hz' : ((modN m : Int) == 0) = false := by
      rw [beq_eq_false_iff_ne]; simp only [Int.toNat_natCast] at hz; omega
    have HZ := Lib.hid hz; clear hz
    have hm : m ≤ 32 := by omega
    have HE := Lib.hid (show elemE m l = if l.all (fun x => decide (x / 2 ^ m = 0)) then 0 else 3 by unfold elemE; rw [if_neg HZ.out]; simp)
    clear hw
    go_enter Try.func78, Try.ntmps78
    go_wp2_with (go_at_call 95; refine (modulus_any _ _).mono ?_; rintro e w' ⟨rfl, rfl⟩)
    go_loop [12] (fun i => ∃ j : Nat, j ≤ k ∧ i = .int .i64 j ∧ (l.take j).all (fun x => decide (x / 2 ^ m = 0)) = true) (fun i => k - (intOf i).toNat)
    case atStart => exact ⟨0, Nat.zero_le _, rfl, rfl⟩
    case round =>
      obtain ⟨j, hj, rfl, hall⟩ := hrel
      have HA := Lib.hid hall; clear hall
      by_cases hlt : j < k
      · obtain ⟨b, off, rfl, hb, hc⟩ := H.out.2 (by omega)
        have hlj : j < l.length := by rw [HL.out]; exact hlt
        have hcell := hc j (.int .u64 (l[j] : Nat)) (by simp [hlj])
        have HS := Lib.hid (take_snoc l j hlj)
        have HM : Hid (l[j] ∈ l) := Lib.hid (List.getElem_mem hlj)
        clear hc
        generalize l[j] = x at hcell HS HM
        clear hlj
        by_cases hx : x / 2 ^ m = 0
        · have hx' : ((x : Int) / 2 ^ m != 0) = false := by rw [shr_zero]; simp only [decide_eq_false_iff_not]; omega
          have HX := Lib.hid hx; clear hx
          go_wp2
          go_round
          case rel => exact ⟨j + 1, by omega, by go_num, by rw [HS.out, List.all_append, HA.out]; simpa using HX.out⟩
          case measure => simp [intOf]; omega
        · have hx' : ((x : Int) / 2 ^ m != 0) = true := by rw [shr_zero]; simpa using hx
          have HX := Lib.hid hx; clear hx
          go_wp2
          go_ret
          refine ⟨ret_int ?_, rfl⟩
          rw [HE.out, if_neg]
          intro hh
          rw [List.all_eq_true] at hh
          exact HX.out (by simpa using hh x HM.out)
      · go_wp2
        go_ret
        refine ⟨ret_int ?_, rfl⟩
        have := HA.out
        rw [List.take_of_length_le (by rw [HL.out]; omega)] at this
        rw [HE.out, if_pos this]

/-- The results of Mul. -/
def mulR (n : Int) (a b : Nat) : Nat × Int := if elemE n [a, b] = 0 then (gm n.toNat a b, 0) else (0, elemE n [a, b])
theorem elemE_ok {n : Int} {l : List Nat} (h : elemE n l = 0) : (n = 8 ∨ n = 16 ∨ n = 32) ∧ ∀ x ∈ l, x < 2 ^ n.toNat := by
  unfold elemE at h
  split at h
  · omega
  · rename_i hz
    have hw := (not_congr (modN_zero n)).1 hz
    split at h
    · rename_i ha
      refine ⟨by omega, fun x hx => ?_⟩
      have := List.all_eq_true.1 ha x hx
      have h0 : x / 2 ^ n.toNat = 0 := by simpa using this
      rcases Nat.lt_or_ge x (2 ^ n.toNat) with h1 | h1
      · exact h1
      · have := Nat.div_pos h1 (Nat.two_pow_pos _)
        omega
    · omega

theorem Mul_any (n : Int) (a b : Nat) (w : World) :
    Calls Try.prog 50 #[.int .i64 n, .int .u64 a, .int .u64 b] w fun e w' => e = .returned (.tuple #[.int .u64 (mulR n a b).1, .int .i64 (mulR n a b).2]) ∧ Below w.heap.size w w' := by
  by_cases hz : elemE n [a, b] = 0
  · have h2 := elemE_ok hz
    have HR := Lib.hid (show mulR n a b = (gm n.toNat a b, 0) by unfold mulR; rw [if_pos hz])
    have hz' : (elemE n [a, b] != 0) = false := by simp [hz]
    have HZ := Lib.hid hz; clear hz
    have hn := h2.1
    have ha := h2.2 a (by simp)
    have hb := h2.2 b (by simp)
    clear h2
    go_enter Try.func50, Try.ntmps50
    go_wp2_with fail
    refine (elements_any _ _ _ _ [a, b] _ _ (by omega) (Rd.new w #[.int .u64 a, .int .u64 b] 33 1 2 rfl)).mono ?_
    rintro e w' ⟨rfl, rfl⟩
    go_wp2_with fail
    refine (times_any _ _ _ hn (by omega) (by simpa using ha) (by omega) (by simpa using hb) _).mono ?_
    rintro e w' ⟨rfl, rfl⟩
    go_wp2_with fail
    go_ret2
    refine ⟨by rw [HR.out]; simp, by go_grown⟩
  · have HR := Lib.hid (show mulR n a b = (0, elemE n [a, b]) by unfold mulR; rw [if_neg hz])
    have hz' : (elemE n [a, b] != 0) = true := by simp [hz]
    have HZ := Lib.hid hz; clear hz
    go_enter Try.func50, Try.ntmps50
    go_wp2_with fail
    refine (elements_any _ _ _ _ [a, b] _ _ (by omega) (Rd.new w #[.int .u64 a, .int .u64 b] 33 1 2 rfl)).mono ?_
    rintro e w' ⟨rfl, rfl⟩
    go_wp2_with fail
    go_ret2
    refine ⟨by rw [HR.out]; simp, by go_grown⟩

/-- The results of Words. -/
def wordsR (n m : Int) : Int × Int := if elemE n [] ≠ 0 then (0, elemE n []) else if m < 0 ∨ m > 65536 then (0, 3) else (m / n + 2, 0)
end Go.Proofs.Ythmooplhhkafcaa
