/- Contracts of the functions between bits and numbers (program and reference): number, Word, Number. Conditions: as each statement says. -/
import Derived.Test.YthmooplhhkafcaaZip
import Derived.Test.YthmooplhhkafcaaField
namespace Go.Proofs.Ythmooplhhkafcaa
open Go.RowKit
set_option linter.unusedVariables false
set_option linter.unusedSimpArgs false
def wordV (l : List Bool) : Nat := l.foldl (fun n b => 2 * n + if b then 1 else 0) 0
theorem wordV_snoc (l : List Bool) (b : Bool) : wordV (l ++ [b]) = 2 * wordV l + if b then 1 else 0 := by simp [wordV, List.foldl_append]
theorem wordV_lt (l : List Bool) : wordV l < 2 ^ l.length := by
  suffices h : ∀ (r : List Bool), wordV r.reverse < 2 ^ r.length by have := h l.reverse; simpa using this
  intro r
  induction r with
  | nil => simp [wordV]
  | cons b r ih =>
    rw [List.reverse_cons, wordV_snoc, List.length_cons, Nat.pow_succ]
    split <;> omega
theorem wordV_small (l : List Bool) (k n : Nat) (hk : k < n) (hn : n ≤ 64) : wordV (l.take k) < 9223372036854775808 := by
  refine Nat.lt_of_lt_of_le (wordV_lt _) ?_
  refine Nat.le_trans (Nat.pow_le_pow_right (by omega) (List.length_take_le _ _)) ?_
  exact Nat.le_trans (Nat.pow_le_pow_right (by omega) (show k ≤ 63 by omega)) (by decide)
/-- The bits of a number. -/
def numL (a width : Nat) : List Bool := (List.range width).map fun i => (a / 2 ^ (width - 1 - i)) % 2 == 1
theorem numL_len (a width : Nat) : (numL a width).length = width := by simp [numL]
theorem or_one {q : Nat} (hq : q < 9223372036854775808) : bits BinOp.or IntKind.u64 ((q : Int) * 2) 1 = ((2 * q + 1 : Nat) : Int) := by
  rw [show ((q : Int) * 2) = ((q * 2 : Nat) : Int) by omega, show (1 : Int) = ((1 : Nat) : Int) from rfl, u64_or_nat _ _ (by omega) (by omega)]
  congr 1
  rw [Nat.mul_comm]
  exact (Nat.two_pow_add_eq_or_of_lt (i := 1) (b := 1) (by decide) q).symm
set_option maxHeartbeats 400000 in
theorem number_any (A : Option Addr) (n c : Nat) (bs : List Bool) (w : World) (B : Nat) (hn : n ≤ 64) (h : Rd w B 1 A n (bs.map Value.bool)) :
    Calls Try.prog 57 #[.slice A n c] w fun e w' => e = .returned (.int .u64 (wordV bs)) ∧ w = w' := by
  have hl : bs.length = n := by have := h.1; simpa using this
  have H := Lib.hid h; clear h
  have HL := Lib.hid hl; clear hl
  go_enter Try.func57, Try.ntmps57
  go_wp2
  go_loop [2, 7] (fun t i => ∃ k : Nat, k ≤ n ∧ i = .int .i64 k ∧ t = .int .u64 (wordV (bs.take k))) (fun _ i => n - (intOf i).toNat)
  case atStart => exact ⟨0, Nat.zero_le _, rfl, rfl⟩
  case round =>
    obtain ⟨k, hk, rfl, rfl⟩ := hrel
    by_cases hlt : k < n
    · obtain ⟨b, off, rfl, hb, hc⟩ := H.out.2 (by omega)
      have hkb : k < bs.length := by rw [HL.out]; exact hlt
      have hcell := hc k (.bool bs[k]) (by simp [hkb])
      have HS := Lib.hid (wordV_snoc (bs.take k) bs[k])
      rw [← take_snoc _ _ hkb] at HS
      have hq := wordV_small bs k n hlt hn
      generalize bs[k] = x at hcell HS
      generalize wordV (bs.take k) = q at HS hq
      clear hc hkb
      have HO := Lib.hid (or_one hq)
      cases x
      all_goals
        go_wp2
        go_round
        case rel => exact ⟨k + 1, by omega, by go_num, by rw [HS.out]; first | (simp; omega) | (rw [HO.out]; simp)⟩
        case measure => simp [intOf]; omega
    · go_wp2
      go_ret
      exact ⟨ret_int (by rw [List.take_of_length_le (by rw [HL.out]; omega)]), rfl⟩
theorem Word_any (A : Option Addr) (n c : Nat) (bs : List Bool) (w : World) (B : Nat) (hn : n ≤ 64) (h : Rd w B 1 A n (bs.map Value.bool)) :
    Calls Try.prog 19 #[.slice A n c] w fun e w' => e = .returned (.tuple #[.int .u64 (wordV bs), .int .i64 0]) ∧ w = w' := by
  have H := Lib.hid h; clear h
  have hn' : ¬ (64 : Int) < (n : Int) := by omega
  go_enter Try.func19, Try.ntmps19
  go_wp2_with (go_at_call 57; refine (number_any _ _ _ bs _ _ hn H.out).mono ?_; rintro e w' ⟨rfl, rfl⟩)
  go_ret2
  exact ⟨rfl, rfl⟩
theorem Word_long (A : Option Addr) (n c : Nat) (w : World) (hn : 64 < n) (hm : n ≤ 1073741824) :
    Calls Try.prog 19 #[.slice A n c] w fun e w' => e = .returned (.tuple #[.int .u64 0, .int .i64 4]) ∧ w = w' := by
  have hn' : (64 : Int) < (n : Int) := by omega
  clear hn
  go_enter Try.func19, Try.ntmps19
  go_wp2
  go_ret2
  exact ⟨rfl, rfl⟩
/-- A store into the last of the cells that have not been filled, from the end on. -/
theorem row_put {wi : World} {h q : Nat} {t : TypeId} {xs : List Value} {z u : Value} (hh : wi.heap[h]? = some (.cells (List.replicate (q + 1) z ++ xs).toArray t (0, 0))) :
    (wi.setCell ⟨h, q, none⟩ u).heap[h]? = some (.cells (List.replicate q z ++ (u :: xs)).toArray t (0, 0)) := by
  simp only [World.setCell, Array.getElem?_modify, hh, if_true, Option.map_some, Option.isSome_none, Bool.false_eq_true, if_false]
  congr 2
  apply Array.ext'
  rw [List.replicate_succ']
  simp
theorem numL_drop (a width q : Nat) (hq : q < width) : (numL a width).drop q = ((a / 2 ^ (width - 1 - q)) % 2 == 1) :: (numL a width).drop (q + 1) := by
  rw [List.drop_eq_getElem_cons (by rw [numL_len]; exact hq)]
  simp [numL]
theorem numL_take (a width q : Nat) (hq : q < width) : (numL a width).take (q + 1) = (numL a width).take q ++ [((a / 2 ^ (width - 1 - q)) % 2 == 1)] := by
  rw [take_snoc _ _ (by rw [numL_len]; exact hq)]
  simp [numL]
theorem odd_cast (b : Nat) : ((b : Int) % 2 == 1) = (b % 2 == 1) := by
  rw [Bool.eq_iff_iff]
  simp
  omega
theorem Number_range (a : Nat) (width : Int) (w : World) (h : width < 0 ∨ 64 < width) :
    Calls Try.prog 20 #[.int .u64 a, .int .i64 width] w fun e w' => e = .returned (.tuple #[.slice none 0 0, .int .i64 3]) ∧ w = w' := by
  by_cases h0 : width < 0
  · clear h
    go_enter Try.func20, Try.ntmps20
    go_wp2
    go_ret2
    exact ⟨rfl, rfl⟩
  · have h1 : 64 < width := by omega
    clear h
    go_enter Try.func20, Try.ntmps20
    go_wp2
    go_ret2
    exact ⟨rfl, rfl⟩
theorem Number_over (a width : Nat) (w : World) (ha : a < 18446744073709551616) (hw : width ≤ 64) (h : ¬ a < 2 ^ width) :
    Calls Try.prog 20 #[.int .u64 a, .int .i64 width] w fun e w' => e = .returned (.tuple #[.slice none 0 0, .int .i64 8]) ∧ w = w' := by
  have h1 : width < 64 := by
    rcases Nat.lt_or_ge width 64 with h1 | h1
    · exact h1
    · exact absurd (Nat.lt_of_lt_of_le ha (Nat.le_trans (by decide : 18446744073709551616 ≤ 2 ^ 64) (Nat.pow_le_pow_right (by omega) h1))) h
  have h2 : ((a : Int) / 2 ^ width != 0) = true := by
    rw [bne_iff_ne, show ((2 : Int) ^ width) = ((2 ^ width : Nat) : Int) by simp, ← Int.natCast_ediv]
    have := (Nat.le_div_iff_mul_le (Nat.two_pow_pos width) (x := 1) (y := a)).2 (by omega)
    omega
  clear h
  go_enter Try.func20, Try.ntmps20
  go_wp2
  go_ret2
  exact ⟨rfl, rfl⟩
theorem mask_one (b : Nat) (hb : b < 18446744073709551616) : (bits BinOp.and IntKind.u64 (b : Int) 1 == 1) = (b % 2 == 1) := by
  rw [show (1 : Int) = ((1 : Nat) : Int) from rfl, u64_and_nat b 1 hb (by omega), nat_mask1, Bool.eq_iff_iff]
  simp
  omega
set_option maxRecDepth 100000 in
set_option maxHeartbeats 400000 in
theorem Number_any (a width : Nat) (w : World) (ha : a < 18446744073709551616) (hw : width ≤ 64) (h : a < 2 ^ width) :
    Calls Try.prog 20 #[.int .u64 a, .int .i64 width] w (RetOwn w 4 1 width ((numL a width).map Value.bool) (fun v => .tuple #[v, .int .i64 0])) := by
  have hmk := fun w => make_bool w width (by omega)
  have h2 : ((a : Int) / 2 ^ width != 0) = false := by
    rw [bne_eq_false_iff_eq, show ((2 : Int) ^ width) = ((2 ^ width : Nat) : Int) by simp, ← Int.natCast_ediv, Nat.div_eq_of_lt h]; rfl
  clear h
  have h3 : (width : Int) < 64 ∨ (64 : Int) ≤ (width : Int) := by omega
  rcases h3 with h3 | h3
  all_goals
    go_enter Try.func20, Try.ntmps20
    go_wp2
    clear hmk
    go_loopw [26] (fun i wr => ∃ k : Nat, k ≤ width ∧ i = .int .i64 k ∧ wr.heap[w.heap.size]? = some (.cells (((numL a width).take k).map Value.bool ++ List.replicate (width - k) (Value.bool false)).toArray 4 (0, 0)) ∧ Below w.heap.size w wr) (fun i _ => width - (intOf i).toNat)
    case atStart => exact ⟨0, Nat.zero_le _, rfl, by simpa using heap_alloc_new w _, (Below.refl _ _).alloc (Nat.le_refl _) _⟩
    case round =>
      obtain ⟨k, hk, rfl, hrow, hbw⟩ := hrel
      have HR := Lib.hid hrow; clear hrow
      by_cases hlt : k < width
      · have h3 : ∃ u, wr.cell? ⟨w.heap.size, k, none⟩ = some u := ⟨_, (cell_of_row _ _ _ _ _ _ HR.out).trans (Array.getElem?_eq_getElem (by simp [numL]; omega))⟩
        obtain ⟨u, h3⟩ := h3
        have h4 : wr.frozen? ⟨w.heap.size, k, none⟩ = false := by simp [World.frozen?, HR.out]
        have HT := Lib.hid (numL_take a width k hlt)
        obtain ⟨s, hs⟩ : ∃ s, s = width - 1 - k := ⟨_, rfl⟩
        have hsi : (width : Int) - 1 - (k : Int) = (s : Int) := by omega
        have hs2 : s < 64 := by omega
        rw [← hs] at HT
        clear hs
        have hd : a / 2 ^ s < 18446744073709551616 := Nat.lt_of_le_of_lt (Nat.div_le_self _ _) ha
        have HE : Hid (((a : Int) / 2 ^ s) = ((a / 2 ^ s : Nat) : Int)) := Lib.hid (by simp)
        have HM := Lib.hid (mask_one (a / 2 ^ s) hd)
        rw [← HE.out] at HM
        go_wp2
        refine ⟨⟨k + 1, by omega, by go_num, ?_, hbw.setCell (p := ⟨w.heap.size, k, none⟩) (Nat.le_refl _) _⟩, by simp [intOf]; omega⟩
        obtain ⟨d, hd⟩ : ∃ d, width - k = d + 1 := ⟨width - k - 1, by omega⟩
        have h5 := HR.out
        rw [hd] at h5
        rw [HT.out, show width - (k + 1) = d by omega, row_fill (j := k) h5 (by simp [numL_len]; omega), HM.out]
        simp
      · go_wp2
        go_ret2
        obtain rfl : k = width := by omega
        have h5 := HR.out
        rw [Nat.sub_self, List.replicate_zero, List.append_nil, List.take_of_length_le (by rw [numL_len]; exact Nat.le_refl _)] at h5
        exact RetOwn.of (mk := fun v => .tuple #[v, .int .i64 0]) (own_of_row h5 (by simp [numL]) (Nat.le_refl _) (by simp [maxLen]; omega)) hbw
end Go.Proofs.Ythmooplhhkafcaa
