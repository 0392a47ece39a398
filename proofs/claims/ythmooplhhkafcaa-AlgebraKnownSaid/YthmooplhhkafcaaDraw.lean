/- Contracts of the draws: New, valid, Next. Conditions: the draws' two cells are known. -/
import Derived.Test.YthmooplhhkafcaaProg
import Derived.Test.YthmooplhhkafcaaBase
import Derived.Test.YthmooplhhkafcaaDrawMath
namespace Go.Proofs.Ythmooplhhkafcaa
open Go.RowKit
theorem New_any (s : Nat) (w : World) :
    Calls Try.prog 31 #[.int .u64 s] w fun e w' => e = .returned (.pointer (some ⟨w.heap.size, 0, none⟩)) ∧ w.alloc (.cells #[.int .u64 s, .bool true] 71) = w' := by
  go_enter Try.func31, Try.ntmps31
  go_wp2
  go_ret
  exact ⟨rfl, rfl⟩
theorem valid_yes (b : Nat) (w : World) (h : w.cell? ⟨b, 1, none⟩ = some (.bool true)) :
    Calls Try.prog 67 #[.pointer (some ⟨b, 0, none⟩)] w fun e w' => e = .returned (.bool true) ∧ w = w' := by
  go_enter Try.func67, Try.ntmps67
  go_wp2
  go_ret
  exact ⟨rfl, rfl⟩
theorem wrapS (s : Nat) : IntKind.u64.wrap (IntKind.u64.wrap ((s : Int) * 4906513781625342421) + 1181783497276652981) = (nextS s : Int) := by
  rw [IntKind.wrap_u64, IntKind.wrap_u64]; unfold nextS two64; omega
theorem wrapX {s : Nat} (hs : s < two64) : IntKind.u64.wrap (bits .xor .u64 (s : Int) ((s : Int) / 4294967296) * 7809847782465536323) = (nextX s : Int) := by
  have e : ((s : Int) / 4294967296) = ((s / 4294967296 : Nat) : Int) := by omega
  rw [e, u64_xor_nat _ _ hs (Nat.lt_of_le_of_lt (Nat.div_le_self _ _) hs), IntKind.wrap_u64]; unfold nextX two64; omega
theorem wrapY {x : Nat} (hx : x < two64) : bits .xor .u64 (x : Int) ((x : Int) / 536870912) = (outY x : Int) := by
  have e : ((x : Int) / 536870912) = ((x / 536870912 : Nat) : Int) := by omega
  rw [e, u64_xor_nat _ _ hx (Nat.lt_of_le_of_lt (Nat.div_le_self _ _) hx)]; rfl
theorem Next_any (s b : Nat) (w : World) (h0 : w.cell? ⟨b, 0, none⟩ = some (.int .u64 s)) (h1 : w.cell? ⟨b, 1, none⟩ = some (.bool true)) (hf : w.frozen? ⟨b, 0, none⟩ = false) :
    Calls Try.prog 36 #[.pointer (some ⟨b, 0, none⟩)] w fun e w' => e = .returned (.int .u64 (nextY s)) ∧ Qw (w.setCell ⟨b, 0, none⟩ (.int .u64 (nextS s))) w' := by
  have hS := wrapS s
  have hX := wrapX (nextS_lt s)
  have hY := wrapY (nextX_lt (nextS s))
  have HY := Lib.hid (show outY (nextX (nextS s)) = nextY s from rfl)
  go_enter Try.func36, Try.ntmps36
  go_wp2_with (go_at_call 67; refine (valid_yes _ _ h1).mono ?_; rintro e w' ⟨rfl, rfl⟩)
  generalize ht : nextS s = t at hX hY HY
  have HT := Lib.hid ht; clear ht
  have hc := cell_set (u := .int .u64 (t : Int)) h0
  clear h0 h1 hf hS
  generalize hw : w.setCell { block := b, off := 0 } (Value.int IntKind.u64 (t : Int)) = w1 at hc
  have HW := Lib.hid hw; clear hw
  go_quiet (fail)
  go_wp2
  go_ret
  refine ⟨?_, ?_⟩
  · rw [← HY.out]; rfl
  · rw [HT.out, HW.out]; exact ⟨_, rfl⟩
end Go.Proofs.Ythmooplhhkafcaa
/- Facts on this program's types: what a new slice holds. Conditions: the sizes that each statement names. -/
namespace Go.Proofs.Ythmooplhhkafcaa
open Go.RowKit
theorem info_bool : (Try.prog.info? 4).map (fun i => (i.zero, i.size, i.bytes)) = some (some (.bool false), 1, 1) := by kernel_rfl
theorem info_u8 : (Try.prog.info? 5).map (fun i => (i.zero, i.size, i.bytes)) = some (some (.int .u8 0), 1, 1) := by kernel_rfl
theorem make_bool (w : World) (c : Nat) (hc : c ≤ 281474976710656) : (Instr.makeSlice 22 (.int .i64 c) (.int .i64 c)).run Try.prog w = .ok (.slice (some ⟨w.heap.size, 0, none⟩) c c) (w.alloc (.cells (Array.replicate c (.bool false)) 4)) := by
  obtain ⟨i, hi, hz, hs, hb⟩ := info_parts info_bool
  have h := run_make (P := Try.prog) w _ _ i _ Try.underlying22 hi hz .i64 .i64 c c (by omega) (by omega) (by rw [hb]; omega) (by omega)
  rw [hs] at h
  simpa [madeCells_one, Value.cells] using h
theorem make_bool0 (w : World) (c : Nat) (hc : c ≤ 281474976710656) : (Instr.makeSlice 22 (.int .i64 0) (.int .i64 c)).run Try.prog w = .ok (.slice (some ⟨w.heap.size, 0, none⟩) 0 c) (w.alloc (.cells (Array.replicate c (.bool false)) 4)) := by
  obtain ⟨i, hi, hz, hs, hb⟩ := info_parts info_bool
  have h := run_make (P := Try.prog) w _ _ i _ Try.underlying22 hi hz .i64 .i64 0 c (by omega) (by omega) (by rw [hb]; omega) (by omega)
  rw [hs] at h
  simpa [madeCells_one, Value.cells] using h
theorem make_u8 (w : World) (c : Nat) (hc : c ≤ 281474976710656) : (Instr.makeSlice 28 (.int .i64 c) (.int .i64 c)).run Try.prog w = .ok (.slice (some ⟨w.heap.size, 0, none⟩) c c) (w.alloc (.cells (Array.replicate c (.int .u8 0)) 5)) := by
  obtain ⟨i, hi, hz, hs, hb⟩ := info_parts info_u8
  have h := run_make (P := Try.prog) w _ _ i _ Try.underlying28 hi hz .i64 .i64 c c (by omega) (by omega) (by rw [hb]; omega) (by omega)
  rw [hs] at h
  simpa [madeCells_one, Value.cells] using h
theorem info_share : (Try.prog.info? 40).map (fun i => (i.zero, i.size, i.bytes)) = some (some (.agg #[.int .u8 0, .slice none 0 0]), 2, 32) := by kernel_rfl
theorem make_share (w : World) (c : Nat) (hc : c ≤ 1000000) : (Instr.makeSlice 38 (.int .i64 c) (.int .i64 c)).run Try.prog w = .ok (.slice (some ⟨w.heap.size, 0, none⟩) c c) (w.alloc (.cells (madeCells #[.int .u8 0, .slice none 0 0] (c * 2)) 40)) := by
  obtain ⟨i, hi, hz, hs, hb⟩ := info_parts info_share
  have h := run_make (P := Try.prog) w _ _ i _ Try.underlying38 hi hz .i64 .i64 c c (by omega) (by omega) (by rw [hb]; omega) (by omega)
  rw [hs] at h
  simpa [Value.cells] using h
end Go.Proofs.Ythmooplhhkafcaa
/- Contracts of the functions that count and compare bits. Conditions: as each statement says. -/
namespace Go.Proofs.Ythmooplhhkafcaa
open Go.RowKit

def cnt (l : List Bool) : Nat := (l.filter id).length
theorem cnt_le (l : List Bool) : cnt l ≤ l.length := List.length_filter_le _ _
theorem cnt_snoc (l : List Bool) (b : Bool) : cnt (l ++ [b]) = cnt l + if b then 1 else 0 := by
  unfold cnt; cases b <;> simp [List.filter_append]

set_option maxHeartbeats 400000 in
theorem Count_any (A : Option Addr) (n c : Nat) (bs : List Bool) (w : World) (B : Nat) (hn : n ≤ 9223372036854775807) (h : Rd w B 1 A n (bs.map Value.bool)) :
    Calls Try.prog 52 #[.slice A n c] w fun e w' => e = .returned (.int .i64 (cnt bs)) ∧ w = w' := by
  have hl : bs.length = n := by have := h.1; simpa using this
  have H := Lib.hid h; clear h
  have HL := Lib.hid hl; clear hl
  go_enter Try.func52, Try.ntmps52
  go_wp2
  go_loop [2, 7] (fun t i => ∃ k : Nat, k ≤ n ∧ i = .int .i64 k ∧ t = .int .i64 (cnt (bs.take k))) (fun _ i => n - (intOf i).toNat)
  case atStart => exact ⟨0, Nat.zero_le _, rfl, rfl⟩
  case round =>
    obtain ⟨k, hk, rfl, rfl⟩ := hrel
    have hle := cnt_le (bs.take k)
    have hl : (bs.take k).length ≤ k := List.length_take_le _ _
    by_cases hlt : k < n
    · obtain ⟨b, off, rfl, hb, hc⟩ := H.out.2 (by omega)
      have hcell := hc k (.bool (bs[k]'(by rw [HL.out]; exact hlt))) (by simp [HL.out, hlt])
      have HS := Lib.hid (cnt_snoc (bs.take k) (bs[k]'(by rw [HL.out]; exact hlt)))
      rw [← take_snoc] at HS
      clear hc
      generalize bs[k]'(by rw [HL.out]; exact hlt) = x at hcell HS
      cases x
      all_goals
        go_wp2
        go_round
        case rel => exact ⟨k + 1, by omega, by go_num, by rw [HS.out]; simp⟩
        case measure => simp [intOf]; omega
    · go_wp2
      go_ret
      exact ⟨ret_int (by rw [List.take_of_length_le (by rw [HL.out]; omega)]), rfl⟩

theorem Parity_any (A : Option Addr) (n c : Nat) (bs : List Bool) (w : World) (B : Nat) (hn : n ≤ 9223372036854775807) (h : Rd w B 1 A n (bs.map Value.bool)) :
    Calls Try.prog 51 #[.slice A n c] w fun e w' => e = .returned (.bool ((cnt bs : Int) % 2 == 1)) ∧ w = w' := by
  have H := Lib.hid h; clear h
  go_enter Try.func51, Try.ntmps51
  go_wp2_with (go_at_call 52; refine (Count_any _ _ _ _ _ _ hn H.out).mono ?_; rintro e w' ⟨rfl, rfl⟩)
  go_ret
  exact ⟨rfl, rfl⟩
end Go.Proofs.Ythmooplhhkafcaa
/- Contracts of the functions of the finite fields. Conditions: as each statement says. -/
namespace Go.Proofs.Ythmooplhhkafcaa
open Go.RowKit


theorem u64_xor' {a b : Nat} (ha : a < 18446744073709551616) (hb : b < 18446744073709551616) : bits .xor .u64 (a : Int) (b : Int) = ((a ^^^ b : Nat) : Int) := u64_xor_nat a b ha hb

theorem modulus_any (n : Int) (w : World) :
    Calls Try.prog 95 #[.int .i64 n] w fun e w' => e = .returned (.int .u64 (modN n.toNat)) ∧ w = w' := by
  have e : modN n.toNat = if n = 8 then 0x11b else if n = 16 then 0x1002b else if n = 32 then 0x10000008d else 0 := by
    unfold modN
    repeat' split
    all_goals omega
  have H := Lib.hid e; clear e
  go_enter Try.func95, Try.ntmps95
  go_wp2
  all_goals go_ret
  all_goals refine ⟨?_, rfl⟩
  all_goals rw [H.out]
  all_goals simp_all

theorem xt_big {n a : Nat} (h : ((a : Int) * 2 / 2 ^ n != 0) = true) (hn : IsW n) (ha : a < 2 ^ n) : bits .xor .u64 ((a : Int) * 2) (modN n) = (xt n a : Int) := by
  have hp := hn.pow
  have hm := modN_lt hn
  have e : ((a : Int) * 2) = ((a * 2 : Nat) : Int) := by omega
  rw [e, u64_xor' (by omega) (by omega)]
  have h0 : a * 2 / 2 ^ n ≠ 0 := by
    intro h0
    rw [e] at h
    rw [show ((2 : Int) ^ n) = ((2 ^ n : Nat) : Int) by simp, ← Int.natCast_ediv, h0] at h
    simp at h
  rw [xt, if_neg h0]
theorem xt_small {n a : Nat} (h : ((a : Int) * 2 / 2 ^ n != 0) = false) : ((a : Int) * 2) = (xt n a : Int) := by
  have e : ((a : Int) * 2) = ((a * 2 : Nat) : Int) := by omega
  have h0 : a * 2 / 2 ^ n = 0 := by
    rw [e, show ((2 : Int) ^ n) = ((2 ^ n : Nat) : Int) by simp, ← Int.natCast_ediv] at h
    have h' : ((a * 2 / 2 ^ n : Nat) : Int) = 0 := by simpa only [bne_eq_false_iff_eq] using h
    omega
  rw [xt, if_pos h0, e]
theorem odd_yes {b : Nat} (hb : b < 18446744073709551616) (h : (bits BinOp.and IntKind.u64 (b : Int) 1 == 1) = true) : b % 2 = 1 := by
  rw [show (1 : Int) = ((1 : Nat) : Int) from rfl, u64_and_nat b 1 hb (by omega), nat_mask1] at h
  have h' := eq_of_beq h
  omega
theorem odd_no {b : Nat} (hb : b < 18446744073709551616) (h : (bits BinOp.and IntKind.u64 (b : Int) 1 == 1) = false) : ¬ b % 2 = 1 := by
  rw [show (1 : Int) = ((1 : Nat) : Int) from rfl, u64_and_nat b 1 hb (by omega), nat_mask1] at h
  have h' := ne_of_beq_false h
  omega

set_option maxHeartbeats 400000 in
theorem times_nat (n a b : Nat) (hn : IsW n) (ha : a < 2 ^ n) (hb : b < 2 ^ n) (w : World) :
    Calls Try.prog 81 #[.int .i64 n, .int .u64 a, .int .u64 b] w fun e w' => e = .returned (.int .u64 (gm n a b)) ∧ w = w' := by
  have hp := hn.pow
  have hq := hn.le
  have HW := Lib.hid hn; clear hn
  go_enter Try.func81, Try.ntmps81
  go_wp2
  go_loop [1, 2, 6] (fun x y z => ∃ f a' b' m : Nat, a' < 2 ^ n ∧ b' < 2 ^ f ∧ f ≤ 32 ∧ m < 2 ^ n ∧ x = .int .u64 a' ∧ y = .int .u64 b' ∧ z = .int .u64 m ∧ gm n a b = tim n f a' b' m) (fun x y z => (intOf y).toNat)
  case atStart => exact ⟨32, a, b, 0, ha, Nat.lt_of_lt_of_le hb (Nat.pow_le_pow_right (by omega) (by omega)), by omega, by omega, rfl, rfl, rfl, tim_more n 32 a b 0 (Nat.lt_of_lt_of_le hb (Nat.pow_le_pow_right (by omega) (by omega))) 32⟩
  case round =>
    obtain ⟨f, a', b', m, ha', hb', hf, hm, rfl, rfl, rfl, hg⟩ := hrel
    have HG := Lib.hid hg; clear hg
    have hb'' : b' < 18446744073709551616 := Nat.lt_of_lt_of_le hb' (Nat.le_trans (Nat.pow_le_pow_right (by omega) hf) (by decide))
    go_wp2_with (go_at_call 95; refine (modulus_any _ _).mono ?_; rintro e w' ⟨rfl, rfl⟩)
    rotate_right
    · have h0 : ((b' : Int) != 0) = false := by assumption
      obtain rfl : b' = 0 := by simpa using h0
      go_ret
      exact ⟨ret_int (by rw [HG.out, tim_zero]), rfl⟩
    all_goals
      have h0 : b' ≠ 0 := by
        have h0 : ((b' : Int) != 0) = true := by assumption
        simpa using h0
      obtain ⟨g, hfg, hbg, hgg⟩ := tim_round n f a' b' m h0 hb'
      rw [hgg] at HG
    · have h1 : b' % 2 = 1 := odd_yes hb'' (by assumption)
      rw [if_pos h1] at HG
      exact ⟨⟨g, xt n a', b' / 2, m ^^^ a', xt_lt HW.out ha', hbg, by omega, xor_lt hm ha', by rw [xt_big (by assumption) HW.out ha'], by go_num, by rw [u64_xor' (by omega) (by omega)], HG.out⟩, by simp [intOf]; omega⟩
    · have h1 : b' % 2 = 1 := odd_yes hb'' (by assumption)
      rw [if_pos h1] at HG
      exact ⟨⟨g, xt n a', b' / 2, m ^^^ a', xt_lt HW.out ha', hbg, by omega, xor_lt hm ha', by rw [xt_small (by assumption)], by go_num, by rw [u64_xor' (by omega) (by omega)], HG.out⟩, by simp [intOf]; omega⟩
    · have h1 : ¬ b' % 2 = 1 := odd_no hb'' (by assumption)
      rw [if_neg h1] at HG
      exact ⟨⟨g, xt n a', b' / 2, m, xt_lt HW.out ha', hbg, by omega, hm, by rw [xt_big (by assumption) HW.out ha'], by go_num, rfl, HG.out⟩, by simp [intOf]; omega⟩
    · have h1 : ¬ b' % 2 = 1 := odd_no hb'' (by assumption)
      rw [if_neg h1] at HG
      exact ⟨⟨g, xt n a', b' / 2, m, xt_lt HW.out ha', hbg, by omega, hm, by rw [xt_small (by assumption)], by go_num, rfl, HG.out⟩, by simp [intOf]; omega⟩

theorem times_any (n a b : Int) (hn : n = 8 ∨ n = 16 ∨ n = 32) (ha0 : 0 ≤ a) (ha : a.toNat < 2 ^ n.toNat) (hb0 : 0 ≤ b) (hb : b.toNat < 2 ^ n.toNat) (w : World) :
    Calls Try.prog 81 #[.int .i64 n, .int .u64 a, .int .u64 b] w fun e w' => e = .returned (.int .u64 (gm n.toNat a.toNat b.toNat)) ∧ w = w' := by
  have h := times_nat n.toNat a.toNat b.toNat (by unfold IsW; omega) ha hb w
  rw [toNat_cast_eq (by omega), toNat_cast_eq ha0, toNat_cast_eq hb0] at h
  exact h

theorem product_any (a b : Int) (ha0 : 0 ≤ a) (ha : a ≤ 255) (hb0 : 0 ≤ b) (hb : b ≤ 255) (w : World) :
    Calls Try.prog 64 #[.int .u8 a, .int .u8 b] w fun e w' => e = .returned (.int .u8 (gm 8 a.toNat b.toNat)) ∧ w = w' := by
  have hlt : gm 8 a.toNat b.toNat < 2 ^ 8 := gm_lt (.inl rfl) (by omega)
  go_enter Try.func64, Try.ntmps64
  go_wp2_with (go_at_call 81; refine (times_any _ _ _ (by omega) (by omega) (by simp; omega) (by omega) (by simp; omega) _).mono ?_; rintro e w' ⟨rfl, rfl⟩)
  go_ret
  exact ⟨rfl, rfl⟩

/-- The error of a width and some numbers. -/
def elemE (n : Int) (l : List Nat) : Int := if modN n.toNat = 0 then 2 else if l.all (fun x => decide (x / 2 ^ n.toNat = 0)) then 0 else 3
theorem modN_zero (n : Int) : modN n.toNat = 0 ↔ ¬ (n = 8 ∨ n = 16 ∨ n = 32) := by
  unfold modN
  repeat' split
  all_goals omega
theorem shr_zero {x n : Nat} : ((x : Int) / 2 ^ n != 0) = decide (x / 2 ^ n ≠ 0) := by
  rw [show ((2 : Int) ^ n) = ((2 ^ n : Nat) : Int) by simp, ← Int.natCast_ediv]
  rw [Bool.eq_iff_iff]
  simp only [bne_iff_ne, ne_eq, decide_eq_true_eq]
  omega

set_option maxHeartbeats 400000 in
theorem elements_any (n : Int) (A : Option Addr) (k c : Nat) (l : List Nat) (w : World) (B : Nat) (hk : k ≤ 9223372036854775807) (h : Rd w B 1 A k (l.map fun x : Nat => Value.int .u64 x)) :
    Calls Try.prog 78 #[.int .i64 n, .slice A k c] w fun e w' => e = .returned (.int .i64 (elemE n l)) ∧ w = w' := by
  have hl : l.length = k := by have := h.1; simpa using this
  have H := Lib.hid h; clear h
  have HL := Lib.hid hl; clear hl
  by_cases hz : modN n.toNat = 0
  · have HE := Lib.hid (show elemE n l = 2 by unfold elemE; rw [if_pos hz])
    have hz' : ((modN n.toNat : Int) == 0) = true := by simp [hz]
    have HZ := Lib.hid hz; clear hz
    go_enter Try.func78, Try.ntmps78
    go_wp2_with (go_at_call 95; refine (modulus_any _ _).mono ?_; rintro e w' ⟨rfl, rfl⟩)
    go_ret
    exact ⟨ret_int HE.out.symm, rfl⟩
  · have hw := (not_congr (modN_zero n)).1 hz
    have hw : n = 8 ∨ n = 16 ∨ n = 32 := by omega
    obtain ⟨m, rfl⟩ := Int.eq_ofNat_of_zero_le (show 0 ≤ n by omega)
    have hz' : ((modN m : Int) == 0) = false := by
      rw [beq_eq_false_iff_ne]; simp only [Int.toNat_natCast] at hz; omega
    have HZ := Lib.hid hz; clear hz
    have hm : m ≤ 32 := by omega
    have HE := Lib.hid (show elemE m l = if l.all (fun x => decide (x / 2 ^ m = 0)) then 0 else 3 by unfold elemE; rw [if_neg HZ.out]; simp)
    clear hw
    go_enter Try.func78, Try.ntmps78
    go_wp2_with (go_at_call 95; refine (modulus_any _ _).mono ?_; rintro e w' ⟨rfl, rfl⟩)
    go_loop [12] (fun i => ∃ j : Nat, j ≤ k ∧ i = .int .i64 j ∧ (l.take j).all (fun x => decide (x / 2 ^ m = 0)) = true) (fun i => k - (intOf i).toNat)
    case atStart => exact ⟨0, Nat.zero_le _, rfl, rfl⟩
    case round =>
      obtain ⟨j, hj, rfl, hall⟩ := hrel
      have HA := Lib.hid hall; clear hall
      by_cases hlt : j < k
      · obtain ⟨b, off, rfl, hb, hc⟩ := H.out.2 (by omega)
        have hlj : j < l.length := by rw [HL.out]; exact hlt
        have hcell := hc j (.int .u64 (l[j] : Nat)) (by simp [hlj])
        have HS := Lib.hid (take_snoc l j hlj)
        have HM : Hid (l[j] ∈ l) := Lib.hid (List.getElem_mem hlj)
        clear hc
        generalize l[j] = x at hcell HS HM
        clear hlj
        by_cases hx : x / 2 ^ m = 0
        · have hx' : ((x : Int) / 2 ^ m != 0) = false := by rw [shr_zero]; simp only [decide_eq_false_iff_not]; omega
          have HX := Lib.hid hx; clear hx
          go_wp2
          go_round
          case rel => exact ⟨j + 1, by omega, by go_num, by rw [HS.out, List.all_append, HA.out]; simpa using HX.out⟩
          case measure => simp [intOf]; omega
        · have hx' : ((x : Int) / 2 ^ m != 0) = true := by rw [shr_zero]; simpa using hx
          have HX := Lib.hid hx; clear hx
          go_wp2
          go_ret
          refine ⟨ret_int ?_, rfl⟩
          rw [HE.out, if_neg]
          intro hh
          rw [List.all_eq_true] at hh
          exact HX.out (by simpa using hh x HM.out)
      · go_wp2
        go_ret
        refine ⟨ret_int ?_, rfl⟩
        have := HA.out
        rw [List.take_of_length_le (by rw [HL.out]; omega)] at this
        rw [HE.out, if_pos this]

/-- The results of Mul. -/
def mulR (n : Int) (a b : Nat) : Nat × Int := if elemE n [a, b] = 0 then (gm n.toNat a b, 0) else (0, elemE n [a, b])
theorem elemE_ok {n : Int} {l : List Nat} (h : elemE n l = 0) : (n = 8 ∨ n = 16 ∨ n = 32) ∧ ∀ x ∈ l, x < 2 ^ n.toNat := by
  unfold elemE at h
  split at h
  · omega
  · rename_i hz
    have hw := (not_congr (modN_zero n)).1 hz
    split at h
    · rename_i ha
      refine ⟨by omega, fun x hx => ?_⟩
      have := List.all_eq_true.1 ha x hx
      have h0 : x / 2 ^ n.toNat = 0 := by simpa using this
      rcases Nat.lt_or_ge x (2 ^ n.toNat) with h1 | h1
      · exact h1
      · have := Nat.div_pos h1 (Nat.two_pow_pos _)
        omega
    · omega

theorem Mul_any (n : Int) (a b : Nat) (w : World) :
    Calls Try.prog 50 #[.int .i64 n, .int .u64 a, .int .u64 b] w fun e w' => e = .returned (.tuple #[.int .u64 (mulR n a b).1, .int .i64 (mulR n a b).2]) ∧ Below w.heap.size w w' := by
  by_cases hz : elemE n [a, b] = 0
  · have h2 := elemE_ok hz
    have HR := Lib.hid (show mulR n a b = (gm n.toNat a b, 0) by unfold mulR; rw [if_pos hz])
    have hz' : (elemE n [a, b] != 0) = false := by simp [hz]
    have HZ := Lib.hid hz; clear hz
    have hn := h2.1
    have ha := h2.2 a (by simp)
    have hb := h2.2 b (by simp)
    clear h2
    go_enter Try.func50, Try.ntmps50
    go_wp2_with fail
    refine (elements_any _ _ _ _ [a, b] _ _ (by omega) (Rd.new w #[.int .u64 a, .int .u64 b] 33 1 2 rfl)).mono ?_
    rintro e w' ⟨rfl, rfl⟩
    go_wp2_with fail
    refine (times_any _ _ _ hn (by omega) (by simpa using ha) (by omega) (by simpa using hb) _).mono ?_
    rintro e w' ⟨rfl, rfl⟩
    go_wp2_with fail
    go_ret2
    refine ⟨by rw [HR.out]; simp, by go_grown⟩
  · have HR := Lib.hid (show mulR n a b = (0, elemE n [a, b]) by unfold mulR; rw [if_neg hz])
    have hz' : (elemE n [a, b] != 0) = true := by simp [hz]
    have HZ := Lib.hid hz; clear hz
    go_enter Try.func50, Try.ntmps50
    go_wp2_with fail
    refine (elements_any _ _ _ _ [a, b] _ _ (by omega) (Rd.new w #[.int .u64 a, .int .u64 b] 33 1 2 rfl)).mono ?_
    rintro e w' ⟨rfl, rfl⟩
    go_wp2_with fail
    go_ret2
    refine ⟨by rw [HR.out]; simp, by go_grown⟩

/-- The results of Words. -/
def wordsR (n m : Int) : Int × Int := if elemE n [] ≠ 0 then (0, elemE n []) else if m < 0 ∨ m > 65536 then (0, 3) else (m / n + 2, 0)
end Go.Proofs.Ythmooplhhkafcaa
/- The contract of sameInts at equal lists. Conditions: as the statement says. -/
namespace Go.Proofs.Ythmooplhhkafcaa
open Go.RowKit
set_option linter.unusedVariables false
set_option maxHeartbeats 400000 in
theorem sameInts_self (A A' : Option Addr) (n c c' : Nat) (l : List Int) (w : World) (B : Nat) (hn : n ≤ 1073741824) (h : Rd w B 1 A n (l.map (Value.int .i64))) (h' : Rd w B 1 A' n (l.map (Value.int .i64))) :
    Calls Try.prog 35 #[.slice A n c, .slice A' n c'] w fun e w' => e = .returned (.bool true) ∧ Qw w w' := by
  have hl : l.length = n := by have := h.1; simpa using this
  have H := Lib.hid h; have H' := Lib.hid h'; have HL := Lib.hid hl; clear h h' hl
  go_enter Try.func35, Try.ntmps35
  go_wp2
  go_loopw [5] (fun i wr => ∃ k : Nat, k ≤ n ∧ i = .int .i64 k ∧ Qw w wr) (fun i _ => n - (intOf i).toNat)
  case atStart => exact ⟨0, Nat.zero_le _, rfl, Qw.refl _⟩
  case round =>
    obtain ⟨k, hk, rfl, hq⟩ := hrel
    by_cases hlt : k < n
    · have hki : (k : Int) < (n : Int) := by omega
      obtain ⟨b, off, rfl, hb, hc⟩ := H.out.2 (by omega)
      obtain ⟨b', off', rfl, hb', hc'⟩ := H'.out.2 (by omega)
      have hlk : k < l.length := by rw [HL.out]; exact hlt
      have h1 : wr.cell? ⟨b, off + k, none⟩ = some (.int .i64 l[k]) := (hq.cell _).trans (hc k _ (by simp [hlk]))
      have h2 : wr.cell? ⟨b', off' + k, none⟩ = some (.int .i64 l[k]) := (hq.cell _).trans (hc' k _ (by simp [hlk]))
      generalize l[k] = x at h1 h2
      have HQ := Lib.hid hq
      clear hc hc' hlk hq
      go_wp2_with fail
      go_quiet (fail)
      go_wp2
      go_roundw
      case rel => exact ⟨k + 1, by omega, by go_num, HQ.out.drewN _⟩
      case measure => simp [intOf]; omega
    · go_wp2
      go_ret
      exact ⟨rfl, hq⟩
end Go.Proofs.Ythmooplhhkafcaa
/- Contracts of the reference's small functions on widths. Conditions: as each statement says. -/
namespace Go.Proofs.Ythmooplhhkafcaa
open Go.RowKit
def isWB (n : Int) : Bool := n == 8 || n == 16 || n == 32
theorem elemE_nil (n : Int) : elemE n [] = if isWB n then 0 else 2 := by
  unfold elemE isWB
  by_cases h : n = 8 ∨ n = 16 ∨ n = 32
  · rw [if_neg (by rw [modN_zero]; omega), if_pos (by simp), if_pos (by simpa [or_assoc] using h)]
  · rw [if_pos (by rw [modN_zero]; omega), if_neg (by simpa [or_assoc] using h)]
end Go.Proofs.Ythmooplhhkafcaa
/- Contracts of the reference's functions of the finite fields: they return what the program's return. Conditions: as each statement says. -/
namespace Go.Proofs.Ythmooplhhkafcaa
open Go.RowKit
theorem refModulus_any (n : Int) (w : World) (hn : n = 8 ∨ n = 16 ∨ n = 32) :
    Calls Try.prog 100 #[.int .i64 n] w fun e w' => e = .returned (.int .u64 (modN n.toNat)) ∧ w = w' := by
  rcases hn with rfl | rfl | rfl
  all_goals
    go_enter Try.func100, Try.ntmps100
    go_wp2
    go_ret
    exact ⟨rfl, rfl⟩
theorem pow_cast (k : Nat) : ((2 : Int) ^ k) = ((2 ^ k : Nat) : Int) := by simp
theorem bit_yes {b k : Nat} (h : (((b : Int) / 2 ^ k).tmod 2 == 1) = true) : b / 2 ^ k % 2 = 1 := by
  have h := eq_of_beq h
  rw [pow_cast, ← Int.natCast_ediv, Int.tmod_eq_emod_of_nonneg (Int.natCast_nonneg _)] at h
  omega
theorem bit_no {b k : Nat} (h : (((b : Int) / 2 ^ k).tmod 2 == 1) = false) : ¬ b / 2 ^ k % 2 = 1 := by
  have h := ne_of_beq_false h
  rw [pow_cast, ← Int.natCast_ediv, Int.tmod_eq_emod_of_nonneg (Int.natCast_nonneg _)] at h
  omega
theorem shl_val {m a k : Nat} (hm : m < 9223372036854775808) (ha : a * 2 ^ k < 18446744073709551616) : bits .xor .u64 (m : Int) (IntKind.u64.wrap ((a : Int) * 2 ^ k)) = ((m ^^^ a * 2 ^ k : Nat) : Int) := by
  rw [pow_cast, ← Int.natCast_mul, IntKind.wrap_u64, Int.emod_eq_of_lt (by omega) (by omega), u64_xor_nat _ _ (by omega) ha]
set_option maxHeartbeats 400000 in
theorem refMul_nat (n a b : Nat) (hn : IsW n) (ha : a < 2 ^ n) (hb : b < 2 ^ n) (w : World) :
    Calls Try.prog 89 #[.int .i64 n, .int .u64 a, .int .u64 b] w fun e w' => e = .returned (.int .u64 (gm n a b)) ∧ w = w' := by
  have hq := hn.le
  have hq' := hn.pos
  have hp := hn.pow
  have HW := Lib.hid hn; clear hn
  go_enter Try.func89, Try.ntmps89
  go_wp2
  go_loop [7, 8] (fun m i => ∃ k m' : Nat, k ≤ n ∧ i = .int .i64 k ∧ m = .int .u64 m' ∧ Mul1 n a b k m') (fun _ i => n - (intOf i).toNat)
  case atStart => exact ⟨0, 0, Nat.zero_le _, rfl, rfl, mul1_zero HW.out a b⟩
  case round =>
    obtain ⟨k, m, hk, rfl, rfl, hm⟩ := hrel
    have hmb := mul_bound HW.out (j := n + (k - 1)) hm.1 (by omega)
    have HM := Lib.hid hm; clear hm
    by_cases hlt : k < n
    · go_wp2
      · have h1 := bit_yes (by assumption)
        have ha2 : a * 2 ^ k < 18446744073709551616 := Nat.lt_of_lt_of_le (shl_lt HW.out (i := k) ha) (Nat.le_trans (Nat.pow_le_pow_right (by omega) (show n + k ≤ 64 by omega)) (by decide))
        exact ⟨⟨k + 1, m ^^^ a * 2 ^ k, by omega, by go_num, by rw [shl_val hmb ha2], mul1_add HW.out ha hlt HM.out h1⟩, by simp [intOf]; omega⟩
      · have h1 := bit_no (by assumption)
        exact ⟨⟨k + 1, m, by omega, by go_num, rfl, mul1_skip HW.out HM.out h1⟩, by simp [intOf]; omega⟩
    · go_wp2
      obtain rfl : k = n := by omega
      have hs := mul2_start HW.out hb HM.out
      have HS := Lib.hid hs; clear hs HM hmb
      go_loop [7, 9] (fun m i => ∃ j m' : Nat, k ≤ j ∧ j ≤ 2 * k - 1 ∧ i = .int .i64 ((j : Int) - 1) ∧ m = .int .u64 m' ∧ Mul2 k a b j m') (fun _ i => (intOf i + 1).toNat)
      case atStart => exact ⟨2 * k - 1, m, by omega, by omega, by go_num, rfl, HS.out⟩
      case round =>
        obtain ⟨j, m2, hj, hj2, rfl, rfl, hm⟩ := hrel
        have hmb := mul_bound HW.out hm.1 (by omega)
        have HM := Lib.hid hm; clear hm
        by_cases hlt2 : k < j
        · obtain ⟨i, rfl⟩ : ∃ i, j = i + 1 := ⟨j - 1, by omega⟩
          have hsub : ((i : Int) - (k : Int)) = ((i - k : Nat) : Int) := by omega
          have hik : 0 ≤ (i : Int) - (k : Int) := by omega
          have hik2 : (i : Int) - (k : Int) ≤ 64 := by omega
          have HSUB := Lib.hid hsub; clear hsub
          go_wp2_with (go_at_call 100; refine (refModulus_any _ _ (by have := HW.out; unfold IsW at this; omega)).mono ?_; rintro e w' ⟨rfl, rfl⟩)
          · have h1 := bit_yes (by assumption)
            have hq2 : modN k * 2 ^ (i - k) < 18446744073709551616 := by
              have : modN k < 2 ^ 33 := by have := modN_lt HW.out; omega
              calc modN k * 2 ^ (i - k) ≤ modN k * 2 ^ 31 := Nat.mul_le_mul_left _ (Nat.pow_le_pow_right (by omega) (by omega))
                _ < 2 ^ 33 * 2 ^ 31 := Nat.mul_lt_mul_of_pos_right this (by decide)
                _ = 18446744073709551616 := by decide
            exact ⟨⟨i, m2 ^^^ modN k * 2 ^ (i - k), by omega, by omega, by go_num, by rw [shl_val hmb hq2], mul2_add HW.out (by omega) (by omega) HM.out h1⟩, by simp [intOf]⟩
          · have h1 := bit_no (by assumption)
            exact ⟨⟨i, m2, by omega, by omega, by go_num, rfl, mul2_skip HW.out HM.out h1⟩, by simp [intOf]⟩
        · go_wp2
          go_ret
          obtain rfl : j = k := by omega
          exact ⟨ret_int (by rw [mul2_end HW.out HM.out]), rfl⟩
theorem refMul_any (n a b : Int) (hn : n = 8 ∨ n = 16 ∨ n = 32) (ha0 : 0 ≤ a) (ha : a.toNat < 2 ^ n.toNat) (hb0 : 0 ≤ b) (hb : b.toNat < 2 ^ n.toNat) (w : World) :
    Calls Try.prog 89 #[.int .i64 n, .int .u64 a, .int .u64 b] w fun e w' => e = .returned (.int .u64 (gm n.toNat a.toNat b.toNat)) ∧ w = w' := by
  have h := refMul_nat n.toNat a.toNat b.toNat (by unfold IsW; omega) ha hb w
  rw [toNat_cast_eq (by omega), toNat_cast_eq ha0, toNat_cast_eq hb0] at h
  exact h

set_option maxHeartbeats 400000 in
/-- Power: the power, by squares. -/
theorem power_any (n : Int) (hn : n = 8 ∨ n = 16 ∨ n = 32) (a e0 : Nat) (he0 : e0 ≤ 9223372036854775807) (ha : a < 2 ^ n.toNat) (w : World) :
    Calls Try.prog 101 #[.int .i64 n, .int .u64 a, .int .i64 e0] w fun e w' => e = .returned (.int .u64 (pw n.toNat a e0)) ∧ w = w' := by
  have hw : IsW n.toNat := by unfold IsW; omega
  have hp := hw.pow
  have HW := Lib.hid hw; clear hw
  have HN := Lib.hid hn; clear hn
  go_enter Try.func101, Try.ntmps101
  go_wp2
  go_loop [1, 2, 7] (fun x y z => ∃ b k o : Nat, b < 2 ^ n.toNat ∧ k ≤ 9223372036854775807 ∧ o < 2 ^ n.toNat ∧ x = .int .u64 b ∧ y = .int .i64 k ∧ z = .int .u64 o ∧ pw n.toNat a e0 = gm n.toNat o (pw n.toNat b k)) (fun _ y _ => (intOf y).toNat)
  case atStart => exact ⟨a, e0, 1, ha, he0, one_lt' HW.out, rfl, rfl, rfl, (one_gm HW.out (pw_lt HW.out _)).symm⟩
  case round =>
    obtain ⟨b, k, o, hb, hk, ho, rfl, rfl, rfl, hr⟩ := hrel
    have HR := Lib.hid hr; clear hr
    by_cases h0 : k = 0
    · subst h0
      go_wp2
      go_ret
      exact ⟨ret_int (by rw [HR.out, show pw n.toNat b 0 = 1 from rfl, gm_one HW.out]), rfl⟩
    · have hlt : 0 < (k : Int) := by omega
      have hsq : gm n.toNat b b < 2 ^ n.toNat := gm_lt HW.out hb
      have hst : pw n.toNat b k = if k % 2 = 1 then gm n.toNat b (pw n.toNat (gm n.toNat b b) (k / 2)) else pw n.toNat (gm n.toNat b b) (k / 2) := by
        have hs2 : ∀ j, pw n.toNat b (j + j) = pw n.toNat (gm n.toNat b b) j := by
          intro j
          induction j with
          | zero => rfl
          | succ j ih =>
            show pw n.toNat b (j + 1 + (j + 1)) = gm n.toNat (pw n.toNat (gm n.toNat b b) j) (gm n.toNat b b)
            rw [show j + 1 + (j + 1) = (j + j) + 2 by omega, pw_add HW.out hb, ih]
            congr 1
            show gm n.toNat (gm n.toNat 1 b) b = _
            rw [one_gm HW.out hb]
        split
        · rw [show k = 1 + (k / 2 + k / 2) by omega, pw_add HW.out hb, pw_one HW.out hb, hs2]
          congr 2; omega
        · rw [show k = (k / 2 + k / 2) by omega, hs2]; congr 1; omega
      rw [hst] at HR
      have hkk : (k : Int) / 2 = ((k / 2 : Nat) : Int) := by omega
      by_cases hodd : k % 2 = 1
      · have ht : ((k : Int) % 2 == 1) = true := by rw [beq_iff_eq]; omega
        rw [if_pos hodd] at HR
        clear hodd hst h0
        have HK := Lib.hid hkk; clear hkk
        have hob : gm n.toNat o b < 2 ^ n.toNat := gm_lt HW.out ho
        go_wp2_with (go_at_call 89; refine (refMul_any _ _ _ HN.out (by omega) (by simpa using ‹_›) (by omega) (by simpa using ‹_›) _).mono ?_; rintro e w' ⟨rfl, rfl⟩)
        exact ⟨⟨gm n.toNat b b, k / 2, gm n.toNat o b, hsq, by omega, hob, rfl, by rw [HK.out], rfl, by rw [HR.out, gm_assoc HW.out ho hb (pw_lt HW.out _)]⟩, by simp [intOf]; omega⟩
      · have ht : ((k : Int) % 2 == 1) = false := by rw [beq_eq_false_iff_ne]; omega
        rw [if_neg hodd] at HR
        clear hodd hst h0
        have HK := Lib.hid hkk; clear hkk
        go_wp2_with (go_at_call 89; refine (refMul_any _ _ _ HN.out (by omega) (by simpa using ‹_›) (by omega) (by simpa using ‹_›) _).mono ?_; rintro e w' ⟨rfl, rfl⟩)
        exact ⟨⟨gm n.toNat b b, k / 2, o, hsq, by omega, ho, rfl, by rw [HK.out], rfl, HR.out⟩, by simp [intOf]; omega⟩
theorem refInverse_any (n : Int) (hn : n = 8 ∨ n = 16 ∨ n = 32) (a : Nat) (ha : a < 2 ^ n.toNat) (w : World) :
    Calls Try.prog 90 #[.int .i64 n, .int .u64 a] w fun e w' => e = .returned (.int .u64 (inv n.toNat a)) ∧ w = w' := by
  rcases hn with rfl | rfl | rfl
  · have h := fun w => power_any 8 (.inl rfl) a 254 (by decide) ha w
    have H := Lib.hid h; clear h
    go_enter Try.func90, Try.ntmps90
    go_wp2_with (go_at_call 101; refine (H.out _).mono ?_; rintro e w' ⟨rfl, rfl⟩)
    go_ret
    exact ⟨rfl, rfl⟩
  · have h := fun w => power_any 16 (.inr (.inl rfl)) a 65534 (by decide) ha w
    have H := Lib.hid h; clear h
    go_enter Try.func90, Try.ntmps90
    go_wp2_with (go_at_call 101; refine (H.out _).mono ?_; rintro e w' ⟨rfl, rfl⟩)
    go_ret
    exact ⟨ret_int (by show ((pw 16 a 65534 : Nat) : Int) = _; rfl), rfl⟩
  · have h := fun w => power_any 32 (.inr (.inr rfl)) a 4294967294 (by decide) ha w
    have H := Lib.hid h; clear h
    go_enter Try.func90, Try.ntmps90
    go_wp2_with (go_at_call 101; refine (H.out _).mono ?_; rintro e w' ⟨rfl, rfl⟩)
    go_ret
    refine ⟨ret_int ?_, rfl⟩
    have e : (2 ^ (32 : Int).toNat - 2) = 4294967294 := by decide
    unfold inv
    rw [e]
    rfl
/-- Whether a number is an element. -/
def fitB (a : Nat) (n : Int) : Bool := decide (a < 2 ^ n.toNat)
end Go.Proofs.Ythmooplhhkafcaa
