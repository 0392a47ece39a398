/- Contracts of Pack (program and reference). Conditions: as each statement says. -/
import Derived.Test.YtahfkhnhmnjbeaaForms2
import Derived.Test.YtahfkhnhmnjbeaaTail
import Derived.Test.YtahfkhnhmnjbeaaField
namespace Go.Proofs.Ytahfkhnhmnjbeaa
open Go.RowKit
set_option linter.unusedVariables false
set_option linter.unusedSimpArgs false
/-- Byte j of the first k bits. -/
def pv (bs : List Bool) : Nat → Nat → Nat
  | 0, _ => 0
  | k + 1, j => pv bs k j + if bs.getD k false = true ∧ k / 8 = j then 2 ^ (7 - k % 8) else 0
theorem pv_zero (bs : List Bool) (j : Nat) : ∀ k, (∀ i, i < k → i / 8 ≠ j) → pv bs k j = 0
  | 0, _ => rfl
  | k + 1, h => by
    simp only [pv]
    rw [pv_zero bs j k fun i hi => h i (by omega), if_neg fun e => h k (by omega) e.2]
theorem pv_form (bs : List Bool) : ∀ k, ∃ q, pv bs k (k / 8) = q * 2 ^ (8 - k % 8) ∧ q < 2 ^ (k % 8)
  | 0 => ⟨0, rfl, by decide⟩
  | k + 1 => by
    obtain ⟨q, hq, hq2⟩ := pv_form bs k
    by_cases h7 : k % 8 = 7
    · refine ⟨0, ?_, Nat.two_pow_pos _⟩
      rw [pv_zero _ _ _ fun i hi => by omega, Nat.zero_mul]
    · have e1 : (k + 1) / 8 = k / 8 := by omega
      have e2 : (k + 1) % 8 = k % 8 + 1 := by omega
      have e3 : 8 - k % 8 = (7 - k % 8) + 1 := by omega
      rw [e1, e2]
      simp only [pv]
      rw [hq, e3, Nat.pow_succ, show 8 - (k % 8 + 1) = 7 - k % 8 by omega, Nat.pow_succ]
      generalize 2 ^ (7 - k % 8) = P
      by_cases hb : bs.getD k false = true
      · rw [if_pos (by first | exact ⟨hb, rfl⟩ | exact ⟨hb, True.intro⟩ | exact hb)]
        exact ⟨2 * q + 1, by rw [Nat.add_mul, Nat.one_mul, Nat.mul_comm P 2, ← Nat.mul_assoc, Nat.mul_comm q 2], by omega⟩
      · rw [if_neg (fun e => hb (by first | exact e.1 | exact e))]
        exact ⟨2 * q, by rw [Nat.add_zero, Nat.mul_comm P 2, ← Nat.mul_assoc, Nat.mul_comm q 2], by omega⟩
theorem pv_or (bs : List Bool) (k : Nat) : pv bs k (k / 8) ||| 2 ^ (7 - k % 8) = pv bs k (k / 8) + 2 ^ (7 - k % 8) := by
  obtain ⟨q, hq, _⟩ := pv_form bs k
  rw [hq, Nat.mul_comm]
  have hlt : 2 ^ (7 - k % 8) < 2 ^ (8 - k % 8) := Nat.pow_lt_pow_right (by decide) (by omega)
  exact (Nat.two_pow_add_eq_or_of_lt hlt q).symm
theorem pv_sum_lt (bs : List Bool) (k : Nat) : pv bs k (k / 8) + 2 ^ (7 - k % 8) < 256 := by
  obtain ⟨q, hq, hq2⟩ := pv_form bs k
  rw [hq]
  have e3 : 8 - k % 8 = (7 - k % 8) + 1 := by omega
  have e4 : 2 ^ (k % 8) * 2 ^ (8 - k % 8) = 256 := by rw [← Nat.pow_add, show k % 8 + (8 - k % 8) = 8 by omega]
  have h1 : (q + 1) * 2 ^ (8 - k % 8) ≤ 256 := by rw [← e4]; exact Nat.mul_le_mul_right _ hq2
  rw [Nat.add_mul, Nat.one_mul] at h1
  have h2 : 2 ^ (7 - k % 8) < 2 ^ (8 - k % 8) := Nat.pow_lt_pow_right (by decide) (by omega)
  omega
def packRow (bs : List Bool) (N k : Nat) : Obj := .cells ((List.range N).map fun j => Value.int .u8 (pv bs k j)).toArray 5 (0, 0)
theorem packRow_cell {w : World} {h N k j : Nat} {bs : List Bool} (hh : w.heap[h]? = some (packRow bs N k)) (hj : j < N) : w.cell? ⟨h, j, none⟩ = some (.int .u8 (pv bs k j)) := by
  rw [cell_of_row _ _ _ _ _ _ hh]
  simp [hj]
theorem packRow_frozen {w : World} {h N k j : Nat} {bs : List Bool} (hh : w.heap[h]? = some (packRow bs N k)) : w.frozen? ⟨h, j, none⟩ = false := by simp [World.frozen?, hh, packRow]
theorem packRow_no {bs : List Bool} {N k : Nat} (hb : bs.getD k false = false) : packRow bs N (k + 1) = packRow bs N k := by
  unfold packRow
  congr 2
  apply List.map_congr_left
  intro j _
  simp only [pv, hb]
  simp
theorem packRow_set {w : World} {h N k : Nat} {bs : List Bool} (hh : w.heap[h]? = some (packRow bs N k)) (hb : bs.getD k false = true) (hj : k / 8 < N) :
    (w.setCell ⟨h, k / 8, none⟩ (.int .u8 ((pv bs k (k / 8) + 2 ^ (7 - k % 8) : Nat) : Int))).heap[h]? = some (packRow bs N (k + 1)) := by
  simp only [packRow] at hh ⊢
  rw [heap_setCell_same w h _ _ _ _ hh]
  congr 2
  apply Array.ext'
  apply List.ext_getElem
  · simp
  · intro i h1 h2
    have hi : i < N := by simpa using h2
    simp only [Array.toList_setIfInBounds, List.getElem_set, List.getElem_map, List.getElem_range, pv]
    by_cases e : k / 8 = i
    · subst e
      rw [if_pos rfl, if_pos ⟨hb, rfl⟩]
    · rw [if_neg e, if_neg fun h => e h.2, Nat.add_zero]
theorem packRow_zero (bs : List Bool) (N : Nat) : packRow bs N 0 = .cells (Array.replicate N (Value.int .u8 0)) 5 (0, 0) := by
  unfold packRow
  congr 1
  apply Array.ext'
  apply List.ext_getElem
  · simp
  · intro i h1 h2; simp [pv]
/-- The bytes of a bit string. -/
def packL (bs : List Bool) : List UInt8 := (List.range ((bs.length + 7) / 8)).map fun j => UInt8.ofNat (pv bs bs.length j)
theorem pv_lt (bs : List Bool) (j : Nat) : ∀ k, pv bs k j < 256
  | 0 => by simp [pv]
  | k + 1 => by
    simp only [pv]
    have h := pv_lt bs j k
    by_cases e : k / 8 = j
    · subst e
      have := pv_sum_lt bs k
      split <;> omega
    · rw [if_neg fun h => e h.2]; omega
theorem packRow_bytes {wi : World} {h N k : Nat} {bs : List Bool} (hk : bs.length = k ∧ N = (k + 7) / 8) (hh : wi.heap[h]? = some (packRow bs N k)) :
    wi.heap[h]? = some (.cells (Lib.byteCells (packL bs)).toArray 5 (0, 0)) := by
  obtain ⟨rfl, rfl⟩ := hk
  rw [hh]
  unfold packRow packL Lib.byteCells
  rw [List.map_map]
  congr 3
  apply List.map_congr_left
  intro j _
  have := pv_lt bs j bs.length
  simp only [Function.comp, UInt8.toNat_ofNat']
  rw [Nat.mod_eq_of_lt this]
set_option maxRecDepth 100000 in
set_option maxHeartbeats 1000000 in
theorem Pack_any (A : Option Addr) (n c : Nat) (bs : List Bool) (w : World) (hn : n ≤ 1073741824) (h : Rd w w.heap.size 1 A n (bs.map Value.bool)) :
    Calls Try.prog 56 #[.slice A n c] w (RetOwn w 5 1 ((n + 7) / 8) (Lib.byteCells (packL bs)) id) := by
  have hl : bs.length = n := by have := h.1; simpa using this
  have H := Lib.hid h; clear h
  have HL := Lib.hid hl; clear hl
  obtain ⟨N, hN⟩ : ∃ N, N = (n + 7) / 8 := ⟨_, rfl⟩
  have hNi : ((n : Int) + 7) / 8 = (N : Int) := by omega
  have hN2 : N ≤ 1073741824 := by omega
  rw [← hN]
  have HN := Lib.hid hN; clear hN
  have hmk := fun w => make_u8 w N (by omega)
  go_enter Try.func56, Try.ntmps56
  go_wp2
  clear hmk hNi
  go_loopw [13] (fun i wr => ∃ k : Nat, k ≤ n ∧ i = .int .i64 k ∧ wr.heap[w.heap.size]? = some (packRow bs N k) ∧ Below w.heap.size w wr) (fun i _ => n - (intOf i).toNat)
  case atStart => exact ⟨0, Nat.zero_le _, rfl, by rw [packRow_zero]; simpa using heap_alloc_new w _, (Below.refl _ _).alloc (Nat.le_refl _) _⟩
  case round =>
    obtain ⟨k, hk, rfl, hrow, hbw⟩ := hrel
    have HR := Lib.hid hrow; clear hrow
    by_cases hlt : k < n
    · obtain ⟨b, off, rfl, hb, hc⟩ := H.out.2 (by omega)
      have hkb : k < bs.length := by rw [HL.out]; exact hlt
      have h1 : wr.cell? ⟨b, off + k, none⟩ = some (.bool (bs.getD k false)) := (hbw.cell (p := ⟨b, off + k, none⟩) hb).trans (hc k _ (by simp [hkb]))
      clear hc hkb
      cases hx : bs.getD k false with
      | false =>
        rw [hx] at h1
        have HP := Lib.hid (packRow_no (N := N) hx)
        clear hx
        go_wp2
        exact ⟨⟨k + 1, by omega, by go_num, by rw [HP.out]; exact HR.out, hbw⟩, by simp [intOf]; omega⟩
      | true =>
        rw [hx] at h1
        have hj : k / 8 < N := by have := HN.out; omega
        have HS := Lib.hid (packRow_set HR.out hx hj)
        have h2 := packRow_cell HR.out hj
        have h3 := packRow_frozen (j := k / 8) HR.out
        have HO := Lib.hid (pv_or bs k)
        have HL2 := Lib.hid (pv_sum_lt bs k)
        have f1 : IntKind.i64.wrap ((k : Int) / 8) = ((k / 8 : Nat) : Int) := by
          rw [show (k : Int) / 8 = ((k / 8 : Nat) : Int) by omega]; exact i64_small (k / 8) (by omega)
        have f2 : (k : Int) % 8 = ((k % 8 : Nat) : Int) := by omega
        have f3 : Int.tmod (k : Int) 8 = ((k % 8 : Nat) : Int) := by rw [Int.tmod_eq_emod_of_nonneg (by omega)]; omega
        have f4 : IntKind.i64.wrap ((k % 8 : Nat) : Int) = ((k % 8 : Nat) : Int) := i64_small (k % 8) (by omega)
        have hr8 : k % 8 < 8 := Nat.mod_lt _ (by decide)
        clear hx
        generalize pv bs k (k / 8) = p at HS h2 HO HL2
        generalize k / 8 = J at HS h2 h3 f1 hj
        generalize k % 8 = R at HS HO HL2 f2 f3 f4 hr8
        have HV : Hid (bits .or .u8 (p : Int) (128 / 2 ^ R) = ((p + 2 ^ (7 - R) : Nat) : Int)) := Lib.hid (by
          have e : (128 : Int) / 2 ^ R = ((2 ^ (7 - R) : Nat) : Int) := by
            rcases (show R = 0 ∨ R = 1 ∨ R = 2 ∨ R = 3 ∨ R = 4 ∨ R = 5 ∨ R = 6 ∨ R = 7 by omega) with h | h | h | h | h | h | h | h <;> subst h <;> decide
          have hq := HL2.out
          rw [e, u8_or_nat p (2 ^ (7 - R)) (Nat.lt_of_le_of_lt (Nat.le_add_right _ _) hq) (Nat.lt_of_le_of_lt (Nat.le_add_left _ _) hq), HO.out])
        clear HO HL2
        go_wp2
        refine wp_region_quiet_tail 10 (by kernel_rfl) (by kernel_rfl) ?_
        simp only [List.take_succ_cons, List.take_zero, List.drop_succ_cons, List.drop_zero]
        repeat (quiet_step (fail))
        refine wpQuiet_nil ?_
        intro _ hw'
        obtain ⟨nq, hw''⟩ := hw'
        subst hw''
        go_wp2
        go_roundw
        case rel =>
          refine ⟨k + 1, by omega, by go_num, ?_, ((Qw.drewN (Qw.refl wr) nq).below _ |> hbw.trans).setCell (p := ⟨w.heap.size, J, none⟩) (Nat.le_refl _) _⟩
          show (wr.setCell _ _).heap[_]? = _
          rw [HV.out]
          exact HS.out
        case measure => simp [intOf]; omega
    · obtain rfl : k = n := by omega
      have h5 := HR.out
      go_wp2
      go_ret
      refine RetOwn.of (mk := id) (own_of_row (packRow_bytes ?_ h5) (by simp [Lib.byteCells, packL, HL.out, HN.out]) (Nat.le_refl _) (by simp [maxLen]; omega)) hbw
      rw [HL.out]
      exact ⟨rfl, HN.out⟩
set_option maxRecDepth 100000 in
set_option maxHeartbeats 1000000 in
theorem refPack_any (A : Option Addr) (n c : Nat) (bs : List Bool) (w : World) (hn : n ≤ 1073741824) (h : Rd w w.heap.size 1 A n (bs.map Value.bool)) :
    Calls Try.prog 57 #[.slice A n c] w (RetOwn w 5 1 ((n + 7) / 8) (Lib.byteCells (packL bs)) id) := by
  have hl : bs.length = n := by have := h.1; simpa using this
  have H := Lib.hid h; clear h
  have HL := Lib.hid hl; clear hl
  obtain ⟨N, hN⟩ : ∃ N, N = (n + 7) / 8 := ⟨_, rfl⟩
  have hNi : ((n : Int) + 7) / 8 = (N : Int) := by omega
  have hN2 : N ≤ 1073741824 := by omega
  rw [← hN]
  have HN := Lib.hid hN; clear hN
  have hmk := fun w => make_u8 w N (by omega)
  go_enter Try.func57, Try.ntmps57
  go_wp2
  clear hmk hNi
  go_loopw [4] (fun i wr => ∃ k : Nat, k ≤ n ∧ i = .int .i64 k ∧ wr.heap[w.heap.size]? = some (packRow bs N k) ∧ Below w.heap.size w wr) (fun i _ => n - (intOf i).toNat)
  case atStart => exact ⟨0, Nat.zero_le _, rfl, by rw [packRow_zero]; simpa using heap_alloc_new w _, (Below.refl _ _).alloc (Nat.le_refl _) _⟩
  case round =>
    obtain ⟨k, hk, rfl, hrow, hbw⟩ := hrel
    have HR := Lib.hid hrow; clear hrow
    by_cases hlt : k < n
    · obtain ⟨b, off, rfl, hb, hc⟩ := H.out.2 (by omega)
      have hkb : k < bs.length := by rw [HL.out]; exact hlt
      have h1 : wr.cell? ⟨b, off + k, none⟩ = some (.bool (bs.getD k false)) := (hbw.cell (p := ⟨b, off + k, none⟩) hb).trans (hc k _ (by simp [hkb]))
      clear hc hkb
      cases hx : bs.getD k false with
      | false =>
        rw [hx] at h1
        have HP := Lib.hid (packRow_no (N := N) hx)
        clear hx
        go_wp2
        exact ⟨⟨k + 1, by omega, by go_num, by rw [HP.out]; exact HR.out, hbw⟩, by simp [intOf]; omega⟩
      | true =>
        rw [hx] at h1
        have hj : k / 8 < N := by have := HN.out; omega
        have HS := Lib.hid (packRow_set HR.out hx hj)
        have h2 := packRow_cell HR.out hj
        have h3 := packRow_frozen (j := k / 8) HR.out
        have HO := Lib.hid (pv_or bs k)
        have HL2 := Lib.hid (pv_sum_lt bs k)
        have f1 : IntKind.i64.wrap ((k : Int) / 8) = ((k / 8 : Nat) : Int) := by
          rw [show (k : Int) / 8 = ((k / 8 : Nat) : Int) by omega]; exact i64_small (k / 8) (by omega)
        have f2 : (k : Int) % 8 = ((k % 8 : Nat) : Int) := by omega
        have f3 : Int.tmod (k : Int) 8 = ((k % 8 : Nat) : Int) := by rw [Int.tmod_eq_emod_of_nonneg (by omega)]; omega
        have f4 : IntKind.i64.wrap ((k % 8 : Nat) : Int) = ((k % 8 : Nat) : Int) := i64_small (k % 8) (by omega)
        have hr8 : k % 8 < 8 := Nat.mod_lt _ (by decide)
        clear hx
        generalize pv bs k (k / 8) = p at HS h2 HO HL2
        generalize k / 8 = J at HS h2 h3 f1 hj
        generalize k % 8 = R at HS HO HL2 f2 f3 f4 hr8
        obtain ⟨Q, hQ⟩ : ∃ Q, Q = 7 - R := ⟨_, rfl⟩
        have hq7 : (7 : Int) - (R : Int) = (Q : Int) := by omega
        have hQ7 : Q ≤ 7 := by omega
        have f5 : IntKind.i64.wrap (7 - (R : Int)) = (Q : Int) := by rw [hq7]; exact i64_small Q (by omega)
        have f6 : IntKind.i64.wrap (Q : Int) = (Q : Int) := i64_small Q (by omega)
        rw [← hQ] at HS HL2
        clear hQ
        clear HO
        go_wp2
        refine wp_region_quiet_tail 11 (by kernel_rfl) (by kernel_rfl) ?_
        simp only [List.take_succ_cons, List.take_zero, List.drop_succ_cons, List.drop_zero]
        repeat (quiet_step (fail))
        refine wpQuiet_nil ?_
        intro _ hw'
        obtain ⟨nq, hw''⟩ := hw'
        subst hw''
        go_wp2
        go_roundw
        case rel =>
          refine ⟨k + 1, by omega, by go_num, ?_, ((Qw.drewN (Qw.refl wr) nq).below _ |> hbw.trans).setCell (p := ⟨w.heap.size, J, none⟩) (Nat.le_refl _) _⟩
          show (wr.setCell _ _).heap[_]? = _
          have hv : ((p : Int) + 2 ^ Q) % 256 = ((p + 2 ^ Q : Nat) : Int) := by
            have h9 := HL2.out
            rw [show ((2 : Int) ^ Q) = ((2 ^ Q : Nat) : Int) by simp]
            generalize 2 ^ Q = X at h9
            omega
          rw [hv]
          exact HS.out
        case measure => simp [intOf]; omega
    · obtain rfl : k = n := by omega
      have h5 := HR.out
      go_wp2
      go_ret
      refine RetOwn.of (mk := id) (own_of_row (packRow_bytes ?_ h5) (by simp [Lib.byteCells, packL, HL.out, HN.out]) (Nat.le_refl _) (by simp [maxLen]; omega)) hbw
      rw [HL.out]
      exact ⟨rfl, HN.out⟩
end Go.Proofs.Ytahfkhnhmnjbeaa
