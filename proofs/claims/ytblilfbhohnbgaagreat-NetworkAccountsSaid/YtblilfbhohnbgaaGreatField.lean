/- Contracts of the functions of the finite fields. Conditions: as each statement says. -/
import Derived.Test.YtblilfbhohnbgaaGreatProg
import Derived.Test.YtblilfbhohnbgaaGreatBase
import Derived.Test.YtblilfbhohnbgaaGreatMath
namespace Go.Proofs.YtblilfbhohnbgaaGreat
open Go.RowKit


theorem u64_xor' {a b : Nat} (ha : a < 18446744073709551616) (hb : b < 18446744073709551616) : bits .xor .u64 (a : Int) (b : Int) = ((a ^^^ b : Nat) : Int) := u64_xor_nat a b ha hb

theorem modulus_any (n : Int) (w : World) :
    Calls Tryz.prog 111 #[.int .i64 n] w fun e w' => e = .returned (.int .u64 (modN n.toNat)) ∧ w = w' := by
  have e : modN n.toNat = if n = 8 then 0x11b else if n = 16 then 0x1002b else if n = 32 then 0x10000008d else 0 := by
    unfold modN
    repeat' split
    all_goals omega
  have H := Lib.hid e; clear e
  go_enter Tryz.func111, Tryz.ntmps111
  go_wp2
  all_goals go_ret
  all_goals refine ⟨?_, rfl⟩
  all_goals rw [H.out]
  all_goals simp_all

theorem xt_big {n a : Nat} (h : ((a : Int) * 2 / 2 ^ n != 0) = true) (hn : IsW n) (ha : a < 2 ^ n) : bits .xor .u64 ((a : Int) * 2) (modN n) = (xt n a : Int) := by
  have hp := hn.pow
  have hm := modN_lt hn
  have e : ((a : Int) * 2) = ((a * 2 : Nat) : Int) := by omega
  rw [e, u64_xor' (by omega) (by omega)]
  have h0 : a * 2 / 2 ^ n ≠ 0 := by
    intro h0
    rw [e] at h
    rw [show ((2 : Int) ^ n) = ((2 ^ n : Nat) : Int) by simp, ← Int.natCast_ediv, h0] at h
    simp at h
  rw [xt, if_neg h0]
theorem xt_small {n a : Nat} (h : ((a : Int) * 2 / 2 ^ n != 0) = false) : ((a : Int) * 2) = (xt n a : Int) := by
  have e : ((a : Int) * 2) = ((a * 2 : Nat) : Int) := by omega
  have h0 : a * 2 / 2 ^ n = 0 := by
    rw [e, show ((2 : Int) ^ n) = ((2 ^ n : Nat) : Int) by simp, ← Int.natCast_ediv] at h
    have h' : ((a * 2 / 2 ^ n : Nat) : Int) = 0 := by simpa only [bne_eq_false_iff_eq] using h
    omega
  rw [xt, if_pos h0, e]
theorem odd_yes {b : Nat} (hb : b < 18446744073709551616) (h : (bits BinOp.and IntKind.u64 (b : Int) 1 == 1) = true) : b % 2 = 1 := by
  rw [show (1 : Int) = ((1 : Nat) : Int) from rfl, u64_and_nat b 1 hb (by omega), nat_mask1] at h
  have h' := eq_of_beq h
  omega
theorem odd_no {b : Nat} (hb : b < 18446744073709551616) (h : (bits BinOp.and IntKind.u64 (b : Int) 1 == 1) = false) : ¬ b % 2 = 1 := by
  rw [show (1 : Int) = ((1 : Nat) : Int) from rfl, u64_and_nat b 1 hb (by omega), nat_mask1] at h
  have h' := ne_of_beq_false h
  omega

set_option maxHeartbeats 400000 in
theorem times_nat (n a b : Nat) (hn : IsW n) (ha : a < 2 ^ n) (hb : b < 2 ^ n) (w : World) :
    Calls Tryz.prog 92 #[.int .i64 n, .int .u64 a, .int .u64 b] w fun e w' => e = .returned (.int .u64 (gm n a b)) ∧ w = w' := by
  have hp := hn.pow
  have hq := hn.le
  have HW := Lib.hid hn; clear hn
  go_enter Tryz.func92, Tryz.ntmps92
  go_wp2
  go_loop [1, 2, 6] (fun x y z => ∃ f a' b' m : Nat, a' < 2 ^ n ∧ b' < 2 ^ f ∧ f ≤ 32 ∧ m < 2 ^ n ∧ x = .int .u64 a' ∧ y = .int .u64 b' ∧ z = .int .u64 m ∧ gm n a b = tim n f a' b' m) (fun x y z => (intOf y).toNat)
  case atStart => exact ⟨32, a, b, 0, ha, Nat.lt_of_lt_of_le hb (Nat.pow_le_pow_right (by omega) (by omega)), by omega, by omega, rfl, rfl, rfl, tim_more n 32 a b 0 (Nat.lt_of_lt_of_le hb (Nat.pow_le_pow_right (by omega) (by omega))) 32⟩
  case round =>
    obtain ⟨f, a', b', m, ha', hb', hf, hm, rfl, rfl, rfl, hg⟩ := hrel
    have HG := Lib.hid hg; clear hg
    have hb'' : b' < 18446744073709551616 := Nat.lt_of_lt_of_le hb' (Nat.le_trans (Nat.pow_le_pow_right (by omega) hf) (by decide))
    go_wp2_with (go_at_call 111; refine (modulus_any _ _).mono ?_; rintro e w' ⟨rfl, rfl⟩)
    rotate_right
    · have h0 : ((b' : Int) != 0) = false := by assumption
      obtain rfl : b' = 0 := by simpa using h0
      go_ret
      exact ⟨ret_int (by rw [HG.out, tim_zero]), rfl⟩
    all_goals
      have h0 : b' ≠ 0 := by
        have h0 : ((b' : Int) != 0) = true := by assumption
        simpa using h0
      obtain ⟨g, hfg, hbg, hgg⟩ := tim_round n f a' b' m h0 hb'
      rw [hgg] at HG
    · have h1 : b' % 2 = 1 := odd_yes hb'' (by assumption)
      rw [if_pos h1] at HG
      exact ⟨⟨g, xt n a', b' / 2, m ^^^ a', xt_lt HW.out ha', hbg, by omega, xor_lt hm ha', by rw [xt_big (by assumption) HW.out ha'], by go_num, by rw [u64_xor' (by omega) (by omega)], HG.out⟩, by simp [intOf]; omega⟩
    · have h1 : b' % 2 = 1 := odd_yes hb'' (by assumption)
      rw [if_pos h1] at HG
      exact ⟨⟨g, xt n a', b' / 2, m ^^^ a', xt_lt HW.out ha', hbg, by omega, xor_lt hm ha', by rw [xt_small (by assumption)], by go_num, by rw [u64_xor' (by omega) (by omega)], HG.out⟩, by simp [intOf]; omega⟩
    · have h1 : ¬ b' % 2 = 1 := odd_no hb'' (by assumption)
      rw [if_neg h1] at HG
      exact ⟨⟨g, xt n a', b' / 2, m, xt_lt HW.out ha', hbg, by omega, hm, by rw [xt_big (by assumption) HW.out ha'], by go_num, rfl, HG.out⟩, by simp [intOf]; omega⟩
    · have h1 : ¬ b' % 2 = 1 := odd_no hb'' (by assumption)
      rw [if_neg h1] at HG
      exact ⟨⟨g, xt n a', b' / 2, m, xt_lt HW.out ha', hbg, by omega, hm, by rw [xt_small (by assumption)], by go_num, rfl, HG.out⟩, by simp [intOf]; omega⟩

theorem times_any (n a b : Int) (hn : n = 8 ∨ n = 16 ∨ n = 32) (ha0 : 0 ≤ a) (ha : a.toNat < 2 ^ n.toNat) (hb0 : 0 ≤ b) (hb : b.toNat < 2 ^ n.toNat) (w : World) :
    Calls Tryz.prog 92 #[.int .i64 n, .int .u64 a, .int .u64 b] w fun e w' => e = .returned (.int .u64 (gm n.toNat a.toNat b.toNat)) ∧ w = w' := by
  have h := times_nat n.toNat a.toNat b.toNat (by unfold IsW; omega) ha hb w
  rw [toNat_cast_eq (by omega), toNat_cast_eq ha0, toNat_cast_eq hb0] at h
  exact h

theorem product_any (a b : Int) (ha0 : 0 ≤ a) (ha : a ≤ 255) (hb0 : 0 ≤ b) (hb : b ≤ 255) (w : World) :
    Calls Tryz.prog 72 #[.int .u8 a, .int .u8 b] w fun e w' => e = .returned (.int .u8 (gm 8 a.toNat b.toNat)) ∧ w = w' := by
  have hlt : gm 8 a.toNat b.toNat < 2 ^ 8 := gm_lt (.inl rfl) (by omega)
  go_enter Tryz.func72, Tryz.ntmps72
  go_wp2_with (go_at_call 92; refine (times_any _ _ _ (by omega) (by omega) (by simp; omega) (by omega) (by simp; omega) _).mono ?_; rintro e w' ⟨rfl, rfl⟩)
  go_ret
  exact ⟨rfl, rfl⟩

theorem info_u8 : (Tryz.prog.info? 5).map (fun i => (i.zero, i.size, i.bytes)) = some (some (.int .u8 0), 1, 1) := by kernel_rfl
theorem make_u8 (w : World) (c : Nat) (hc : c ≤ 281474976710656) : (Instr.makeSlice 41 (.int .i64 c) (.int .i64 c)).run Tryz.prog w = .ok (.slice (some ⟨w.heap.size, 0, none⟩) c c) (w.alloc (.cells (Array.replicate c (.int .u8 0)) 5)) := by
  obtain ⟨i, hi, hz, hs, hb⟩ := info_parts info_u8
  have h := run_make (P := Tryz.prog) w _ _ i _ Tryz.underlying41 hi hz .i64 .i64 c c (by omega) (by omega) (by rw [hb]; omega) (by omega)
  rw [hs] at h
  simpa [madeCells_one, Value.cells] using h
theorem info_share : (Tryz.prog.info? 129).map (fun i => (i.zero, i.size, i.bytes)) = some (some (.agg #[.int .u8 0, .slice none 0 0]), 2, 32) := by kernel_rfl
theorem make_share (w : World) (c : Nat) (hc : c ≤ 1000000) : (Instr.makeSlice 96 (.int .i64 c) (.int .i64 c)).run Tryz.prog w = .ok (.slice (some ⟨w.heap.size, 0, none⟩) c c) (w.alloc (.cells (madeCells #[.int .u8 0, .slice none 0 0] (c * 2)) 129)) := by
  obtain ⟨i, hi, hz, hs, hb⟩ := info_parts info_share
  have h := run_make (P := Tryz.prog) w _ _ i _ Tryz.underlying96 hi hz .i64 .i64 c c (by omega) (by omega) (by rw [hb]; omega) (by omega)
  rw [hs] at h
  simpa [Value.cells] using h

def cnt (l : List Bool) : Nat := (l.filter id).length
end Go.Proofs.YtblilfbhohnbgaaGreat
