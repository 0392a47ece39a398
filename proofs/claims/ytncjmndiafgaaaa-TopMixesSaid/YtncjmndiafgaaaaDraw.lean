/- Contracts of the draws: New, valid, Next. Conditions: the draws' two cells are known. -/
import Derived.Test.YtncjmndiafgaaaaProg
import Derived.Test.YtncjmndiafgaaaaBase
import Derived.Test.YtncjmndiafgaaaaDrawMath
namespace Go.Proofs.Ytncjmndiafgaaaa
open Go.RowKit
theorem New_any (s : Nat) (w : World) :
    Calls Try.prog 66 #[.int .u64 s] w fun e w' => e = .returned (.pointer (some ⟨w.heap.size, 0, none⟩)) ∧ w.alloc (.cells #[.int .u64 s, .bool true] 123) = w' := by
  go_enter Try.func66, Try.ntmps66
  go_wp2
  go_ret
  exact ⟨rfl, rfl⟩
theorem valid_yes (b : Nat) (w : World) (h : w.cell? ⟨b, 1, none⟩ = some (.bool true)) :
    Calls Try.prog 76 #[.pointer (some ⟨b, 0, none⟩)] w fun e w' => e = .returned (.bool true) ∧ w = w' := by
  go_enter Try.func76, Try.ntmps76
  go_wp2
  go_ret
  exact ⟨rfl, rfl⟩
theorem wrapS (s : Nat) : IntKind.u64.wrap (IntKind.u64.wrap ((s : Int) * 4906513781625342421) + 1181783497276652981) = (nextS s : Int) := by
  rw [IntKind.wrap_u64, IntKind.wrap_u64]; unfold nextS two64; omega
theorem wrapX {s : Nat} (hs : s < two64) : IntKind.u64.wrap (bits .xor .u64 (s : Int) ((s : Int) / 4294967296) * 7809847782465536323) = (nextX s : Int) := by
  have e : ((s : Int) / 4294967296) = ((s / 4294967296 : Nat) : Int) := by omega
  rw [e, u64_xor_nat _ _ hs (Nat.lt_of_le_of_lt (Nat.div_le_self _ _) hs), IntKind.wrap_u64]; unfold nextX two64; omega
theorem wrapY {x : Nat} (hx : x < two64) : bits .xor .u64 (x : Int) ((x : Int) / 536870912) = (outY x : Int) := by
  have e : ((x : Int) / 536870912) = ((x / 536870912 : Nat) : Int) := by omega
  rw [e, u64_xor_nat _ _ hx (Nat.lt_of_le_of_lt (Nat.div_le_self _ _) hx)]; rfl
theorem Next_any (s b : Nat) (w : World) (h0 : w.cell? ⟨b, 0, none⟩ = some (.int .u64 s)) (h1 : w.cell? ⟨b, 1, none⟩ = some (.bool true)) (hf : w.frozen? ⟨b, 0, none⟩ = false) :
    Calls Try.prog 72 #[.pointer (some ⟨b, 0, none⟩)] w fun e w' => e = .returned (.int .u64 (nextY s)) ∧ Qw (w.setCell ⟨b, 0, none⟩ (.int .u64 (nextS s))) w' := by
  have hS := wrapS s
  have hX := wrapX (nextS_lt s)
  have hY := wrapY (nextX_lt (nextS s))
  have HY := Lib.hid (show outY (nextX (nextS s)) = nextY s from rfl)
  go_enter Try.func72, Try.ntmps72
  go_wp2_with (go_at_call 76; refine (valid_yes _ _ h1).mono ?_; rintro e w' ⟨rfl, rfl⟩)
  generalize ht : nextS s = t at hX hY HY
  have HT := Lib.hid ht; clear ht
  have hc := cell_set (u := .int .u64 (t : Int)) h0
  clear h0 h1 hf hS
  generalize hw : w.setCell { block := b, off := 0 } (Value.int IntKind.u64 (t : Int)) = w1 at hc
  have HW := Lib.hid hw; clear hw
  go_quiet (fail)
  go_wp2
  go_ret
  refine ⟨?_, ?_⟩
  · rw [← HY.out]; rfl
  · rw [HT.out, HW.out]; exact ⟨_, rfl⟩
end Go.Proofs.Ytncjmndiafgaaaa
/- Facts on this program's types: what a new slice holds. Conditions: the sizes that each statement names. -/
namespace Go.Proofs.Ytncjmndiafgaaaa
open Go.RowKit
theorem info_bool : (Try.prog.info? 4).map (fun i => (i.zero, i.size, i.bytes)) = some (some (.bool false), 1, 1) := by kernel_rfl
theorem info_u8 : (Try.prog.info? 5).map (fun i => (i.zero, i.size, i.bytes)) = some (some (.int .u8 0), 1, 1) := by kernel_rfl
theorem make_bool (w : World) (c : Nat) (hc : c ≤ 281474976710656) : (Instr.makeSlice 40 (.int .i64 c) (.int .i64 c)).run Try.prog w = .ok (.slice (some ⟨w.heap.size, 0, none⟩) c c) (w.alloc (.cells (Array.replicate c (.bool false)) 4)) := by
  obtain ⟨i, hi, hz, hs, hb⟩ := info_parts info_bool
  have h := run_make (P := Try.prog) w _ _ i _ Try.underlying40 hi hz .i64 .i64 c c (by omega) (by omega) (by rw [hb]; omega) (by omega)
  rw [hs] at h
  simpa [madeCells_one, Value.cells] using h
theorem make_bool0 (w : World) (c : Nat) (hc : c ≤ 281474976710656) : (Instr.makeSlice 40 (.int .i64 0) (.int .i64 c)).run Try.prog w = .ok (.slice (some ⟨w.heap.size, 0, none⟩) 0 c) (w.alloc (.cells (Array.replicate c (.bool false)) 4)) := by
  obtain ⟨i, hi, hz, hs, hb⟩ := info_parts info_bool
  have h := run_make (P := Try.prog) w _ _ i _ Try.underlying40 hi hz .i64 .i64 0 c (by omega) (by omega) (by rw [hb]; omega) (by omega)
  rw [hs] at h
  simpa [madeCells_one, Value.cells] using h
end Go.Proofs.Ytncjmndiafgaaaa
/- Contracts of the functions that count and compare bits. Conditions: as each statement says. -/
namespace Go.Proofs.Ytncjmndiafgaaaa
open Go.RowKit

def cnt (l : List Bool) : Nat := (l.filter id).length
theorem cnt_le (l : List Bool) : cnt l ≤ l.length := List.length_filter_le _ _
theorem cnt_snoc (l : List Bool) (b : Bool) : cnt (l ++ [b]) = cnt l + if b then 1 else 0 := by
  unfold cnt; cases b <;> simp [List.filter_append]

set_option maxHeartbeats 400000 in
theorem Count_any (A : Option Addr) (n c : Nat) (bs : List Bool) (w : World) (B : Nat) (hn : n ≤ 9223372036854775807) (h : Rd w B 1 A n (bs.map Value.bool)) :
    Calls Try.prog 35 #[.slice A n c] w fun e w' => e = .returned (.int .i64 (cnt bs)) ∧ w = w' := by
  have hl : bs.length = n := by have := h.1; simpa using this
  have H := Lib.hid h; clear h
  have HL := Lib.hid hl; clear hl
  go_enter Try.func35, Try.ntmps35
  go_wp2
  go_loop [2, 7] (fun t i => ∃ k : Nat, k ≤ n ∧ i = .int .i64 k ∧ t = .int .i64 (cnt (bs.take k))) (fun _ i => n - (intOf i).toNat)
  case atStart => exact ⟨0, Nat.zero_le _, rfl, rfl⟩
  case round =>
    obtain ⟨k, hk, rfl, rfl⟩ := hrel
    have hle := cnt_le (bs.take k)
    have hl : (bs.take k).length ≤ k := List.length_take_le _ _
    by_cases hlt : k < n
    · obtain ⟨b, off, rfl, hb, hc⟩ := H.out.2 (by omega)
      have hcell := hc k (.bool (bs[k]'(by rw [HL.out]; exact hlt))) (by simp [HL.out, hlt])
      have HS := Lib.hid (cnt_snoc (bs.take k) (bs[k]'(by rw [HL.out]; exact hlt)))
      rw [← take_snoc] at HS
      clear hc
      generalize bs[k]'(by rw [HL.out]; exact hlt) = x at hcell HS
      cases x
      all_goals
        go_wp2
        go_round
        case rel => exact ⟨k + 1, by omega, by go_num, by rw [HS.out]; simp⟩
        case measure => simp [intOf]; omega
    · go_wp2
      go_ret
      exact ⟨ret_int (by rw [List.take_of_length_le (by rw [HL.out]; omega)]), rfl⟩

theorem Parity_any (A : Option Addr) (n c : Nat) (bs : List Bool) (w : World) (B : Nat) (hn : n ≤ 9223372036854775807) (h : Rd w B 1 A n (bs.map Value.bool)) :
    Calls Try.prog 21 #[.slice A n c] w fun e w' => e = .returned (.bool ((cnt bs : Int) % 2 == 1)) ∧ w = w' := by
  have H := Lib.hid h; clear h
  go_enter Try.func21, Try.ntmps21
  go_wp2_with (go_at_call 35; refine (Count_any _ _ _ _ _ _ hn H.out).mono ?_; rintro e w' ⟨rfl, rfl⟩)
  go_ret
  exact ⟨rfl, rfl⟩
end Go.Proofs.Ytncjmndiafgaaaa
/- Contracts of the functions of the finite fields. Conditions: as each statement says. -/
namespace Go.Proofs.Ytncjmndiafgaaaa
open Go.RowKit


theorem u64_xor' {a b : Nat} (ha : a < 18446744073709551616) (hb : b < 18446744073709551616) : bits .xor .u64 (a : Int) (b : Int) = ((a ^^^ b : Nat) : Int) := u64_xor_nat a b ha hb

theorem xt_big {n a : Nat} (h : ((a : Int) * 2 / 2 ^ n != 0) = true) (hn : IsW n) (ha : a < 2 ^ n) : bits .xor .u64 ((a : Int) * 2) (modN n) = (xt n a : Int) := by
  have hp := hn.pow
  have hm := modN_lt hn
  have e : ((a : Int) * 2) = ((a * 2 : Nat) : Int) := by omega
  rw [e, u64_xor' (by omega) (by omega)]
  have h0 : a * 2 / 2 ^ n ≠ 0 := by
    intro h0
    rw [e] at h
    rw [show ((2 : Int) ^ n) = ((2 ^ n : Nat) : Int) by simp, ← Int.natCast_ediv, h0] at h
    simp at h
  rw [xt, if_neg h0]
theorem xt_small {n a : Nat} (h : ((a : Int) * 2 / 2 ^ n != 0) = false) : ((a : Int) * 2) = (xt n a : Int) := by
  have e : ((a : Int) * 2) = ((a * 2 : Nat) : Int) := by omega
  have h0 : a * 2 / 2 ^ n = 0 := by
    rw [e, show ((2 : Int) ^ n) = ((2 ^ n : Nat) : Int) by simp, ← Int.natCast_ediv] at h
    have h' : ((a * 2 / 2 ^ n : Nat) : Int) = 0 := by simpa only [bne_eq_false_iff_eq] using h
    omega
  rw [xt, if_pos h0, e]
theorem odd_yes {b : Nat} (hb : b < 18446744073709551616) (h : (bits BinOp.and IntKind.u64 (b : Int) 1 == 1) = true) : b % 2 = 1 := by
  rw [show (1 : Int) = ((1 : Nat) : Int) from rfl, u64_and_nat b 1 hb (by omega), nat_mask1] at h
  have h' := eq_of_beq h
  omega
theorem odd_no {b : Nat} (hb : b < 18446744073709551616) (h : (bits BinOp.and IntKind.u64 (b : Int) 1 == 1) = false) : ¬ b % 2 = 1 := by
  rw [show (1 : Int) = ((1 : Nat) : Int) from rfl, u64_and_nat b 1 hb (by omega), nat_mask1] at h
  have h' := ne_of_beq_false h
  omega

/-- The error of a width and some numbers. -/
def elemE (n : Int) (l : List Nat) : Int := if modN n.toNat = 0 then 2 else if l.all (fun x => decide (x / 2 ^ n.toNat = 0)) then 0 else 3
theorem modN_zero (n : Int) : modN n.toNat = 0 ↔ ¬ (n = 8 ∨ n = 16 ∨ n = 32) := by
  unfold modN
  repeat' split
  all_goals omega
theorem shr_zero {x n : Nat} : ((x : Int) / 2 ^ n != 0) = decide (x / 2 ^ n ≠ 0) := by
  rw [show ((2 : Int) ^ n) = ((2 ^ n : Nat) : Int) by simp, ← Int.natCast_ediv]
  rw [Bool.eq_iff_iff]
  simp only [bne_iff_ne, ne_eq, decide_eq_true_eq]
  omega

/-- The results of Mul. -/
def mulR (n : Int) (a b : Nat) : Nat × Int := if elemE n [a, b] = 0 then (gm n.toNat a b, 0) else (0, elemE n [a, b])
theorem elemE_ok {n : Int} {l : List Nat} (h : elemE n l = 0) : (n = 8 ∨ n = 16 ∨ n = 32) ∧ ∀ x ∈ l, x < 2 ^ n.toNat := by
  unfold elemE at h
  split at h
  · omega
  · rename_i hz
    have hw := (not_congr (modN_zero n)).1 hz
    split at h
    · rename_i ha
      refine ⟨by omega, fun x hx => ?_⟩
      have := List.all_eq_true.1 ha x hx
      have h0 : x / 2 ^ n.toNat = 0 := by simpa using this
      rcases Nat.lt_or_ge x (2 ^ n.toNat) with h1 | h1
      · exact h1
      · have := Nat.div_pos h1 (Nat.two_pow_pos _)
        omega
    · omega

/-- The results of Words. -/
def wordsR (n m : Int) : Int × Int := if elemE n [] ≠ 0 then (0, elemE n []) else if m < 0 ∨ m > 65536 then (0, 3) else (m / n + 2, 0)
end Go.Proofs.Ytncjmndiafgaaaa
