/- Contracts of Pack (program and reference). Conditions: as each statement says. -/
import Derived.Test.YtfinjdkcgmepfaaForms2
import Derived.Test.YtfinjdkcgmepfaaTail
import Derived.Test.YtfinjdkcgmepfaaDraw
namespace Go.Proofs.Ytfinjdkcgmepfaa
open Go.RowKit
set_option linter.unusedVariables false
set_option linter.unusedSimpArgs false
/-- Byte j of the first k bits. -/
def pv (bs : List Bool) : Nat → Nat → Nat
  | 0, _ => 0
  | k + 1, j => pv bs k j + if bs.getD k false = true ∧ k / 8 = j then 2 ^ (7 - k % 8) else 0
theorem pv_zero (bs : List Bool) (j : Nat) : ∀ k, (∀ i, i < k → i / 8 ≠ j) → pv bs k j = 0
  | 0, _ => rfl
  | k + 1, h => by
    simp only [pv]
    rw [pv_zero bs j k fun i hi => h i (by omega), if_neg fun e => h k (by omega) e.2]
theorem pv_form (bs : List Bool) : ∀ k, ∃ q, pv bs k (k / 8) = q * 2 ^ (8 - k % 8) ∧ q < 2 ^ (k % 8)
  | 0 => ⟨0, rfl, by decide⟩
  | k + 1 => by
    obtain ⟨q, hq, hq2⟩ := pv_form bs k
    by_cases h7 : k % 8 = 7
    · refine ⟨0, ?_, Nat.two_pow_pos _⟩
      rw [pv_zero _ _ _ fun i hi => by omega, Nat.zero_mul]
    · have e1 : (k + 1) / 8 = k / 8 := by omega
      have e2 : (k + 1) % 8 = k % 8 + 1 := by omega
      have e3 : 8 - k % 8 = (7 - k % 8) + 1 := by omega
      rw [e1, e2]
      simp only [pv]
      rw [hq, e3, Nat.pow_succ, show 8 - (k % 8 + 1) = 7 - k % 8 by omega, Nat.pow_succ]
      generalize 2 ^ (7 - k % 8) = P
      by_cases hb : bs.getD k false = true
      · rw [if_pos (by first | exact ⟨hb, rfl⟩ | exact ⟨hb, True.intro⟩ | exact hb)]
        exact ⟨2 * q + 1, by rw [Nat.add_mul, Nat.one_mul, Nat.mul_comm P 2, ← Nat.mul_assoc, Nat.mul_comm q 2], by omega⟩
      · rw [if_neg (fun e => hb (by first | exact e.1 | exact e))]
        exact ⟨2 * q, by rw [Nat.add_zero, Nat.mul_comm P 2, ← Nat.mul_assoc, Nat.mul_comm q 2], by omega⟩
theorem pv_or (bs : List Bool) (k : Nat) : pv bs k (k / 8) ||| 2 ^ (7 - k % 8) = pv bs k (k / 8) + 2 ^ (7 - k % 8) := by
  obtain ⟨q, hq, _⟩ := pv_form bs k
  rw [hq, Nat.mul_comm]
  have hlt : 2 ^ (7 - k % 8) < 2 ^ (8 - k % 8) := Nat.pow_lt_pow_right (by decide) (by omega)
  exact (Nat.two_pow_add_eq_or_of_lt hlt q).symm
theorem pv_sum_lt (bs : List Bool) (k : Nat) : pv bs k (k / 8) + 2 ^ (7 - k % 8) < 256 := by
  obtain ⟨q, hq, hq2⟩ := pv_form bs k
  rw [hq]
  have e3 : 8 - k % 8 = (7 - k % 8) + 1 := by omega
  have e4 : 2 ^ (k % 8) * 2 ^ (8 - k % 8) = 256 := by rw [← Nat.pow_add, show k % 8 + (8 - k % 8) = 8 by omega]
  have h1 : (q + 1) * 2 ^ (8 - k % 8) ≤ 256 := by rw [← e4]; exact Nat.mul_le_mul_right _ hq2
  rw [Nat.add_mul, Nat.one_mul] at h1
  have h2 : 2 ^ (7 - k % 8) < 2 ^ (8 - k % 8) := Nat.pow_lt_pow_right (by decide) (by omega)
  omega
def packRow (bs : List Bool) (N k : Nat) : Obj := .cells ((List.range N).map fun j => Value.int .u8 (pv bs k j)).toArray 5 (0, 0)
theorem packRow_cell {w : World} {h N k j : Nat} {bs : List Bool} (hh : w.heap[h]? = some (packRow bs N k)) (hj : j < N) : w.cell? ⟨h, j, none⟩ = some (.int .u8 (pv bs k j)) := by
  rw [cell_of_row _ _ _ _ _ _ hh]
  simp [hj]
theorem packRow_frozen {w : World} {h N k j : Nat} {bs : List Bool} (hh : w.heap[h]? = some (packRow bs N k)) : w.frozen? ⟨h, j, none⟩ = false := by simp [World.frozen?, hh, packRow]
theorem packRow_no {bs : List Bool} {N k : Nat} (hb : bs.getD k false = false) : packRow bs N (k + 1) = packRow bs N k := by
  unfold packRow
  congr 2
  apply List.map_congr_left
  intro j _
  simp only [pv, hb]
  simp
theorem packRow_set {w : World} {h N k : Nat} {bs : List Bool} (hh : w.heap[h]? = some (packRow bs N k)) (hb : bs.getD k false = true) (hj : k / 8 < N) :
    (w.setCell ⟨h, k / 8, none⟩ (.int .u8 ((pv bs k (k / 8) + 2 ^ (7 - k % 8) : Nat) : Int))).heap[h]? = some (packRow bs N (k + 1)) := by
  simp only [packRow] at hh ⊢
  rw [heap_setCell_same w h _ _ _ _ hh]
  congr 2
  apply Array.ext'
  apply List.ext_getElem
  · simp
  · intro i h1 h2
    have hi : i < N := by simpa using h2
    simp only [Array.toList_setIfInBounds, List.getElem_set, List.getElem_map, List.getElem_range, pv]
    by_cases e : k / 8 = i
    · subst e
      rw [if_pos rfl, if_pos ⟨hb, rfl⟩]
    · rw [if_neg e, if_neg fun h => e h.2, Nat.add_zero]
theorem packRow_zero (bs : List Bool) (N : Nat) : packRow bs N 0 = .cells (Array.replicate N (Value.int .u8 0)) 5 (0, 0) := by
  unfold packRow
  congr 1
  apply Array.ext'
  apply List.ext_getElem
  · simp
  · intro i h1 h2; simp [pv]
/-- The bytes of a bit string. -/
def packL (bs : List Bool) : List UInt8 := (List.range ((bs.length + 7) / 8)).map fun j => UInt8.ofNat (pv bs bs.length j)
theorem pv_lt (bs : List Bool) (j : Nat) : ∀ k, pv bs k j < 256
  | 0 => by simp [pv]
  | k + 1 => by
    simp only [pv]
    have h := pv_lt bs j k
    by_cases e : k / 8 = j
    · subst e
      have := pv_sum_lt bs k
      split <;> omega
    · rw [if_neg fun h => e h.2]; omega
theorem packRow_bytes {wi : World} {h N k : Nat} {bs : List Bool} (hk : bs.length = k ∧ N = (k + 7) / 8) (hh : wi.heap[h]? = some (packRow bs N k)) :
    wi.heap[h]? = some (.cells (Lib.byteCells (packL bs)).toArray 5 (0, 0)) := by
  obtain ⟨rfl, rfl⟩ := hk
  rw [hh]
  unfold packRow packL Lib.byteCells
  rw [List.map_map]
  congr 3
  apply List.map_congr_left
  intro j _
  have := pv_lt bs j bs.length
  simp only [Function.comp, UInt8.toNat_ofNat']
  rw [Nat.mod_eq_of_lt this]
end Go.Proofs.Ytfinjdkcgmepfaa
/- Contracts of Unpack (reference; the program's to come). Conditions: as each statement says. -/
namespace Go.Proofs.Ytfinjdkcgmepfaa
open Go.RowKit
set_option linter.unusedVariables false
set_option linter.unusedSimpArgs false
/-- Bit i of bytes. -/
def bitU (p : List Nat) (i : Nat) : Bool := (p.getD (i / 8) 0 / 2 ^ (7 - i % 8)) % 2 == 1
def unL (p : List Nat) (k : Nat) : List Bool := (List.range k).map (bitU p)
def okU (p : List Nat) (n k : Nat) : Bool := (List.range k).all fun i => decide (i < n) || !bitU p i
theorem unL_len (p : List Nat) (k : Nat) : (unL p k).length = k := by simp [unL]
theorem unL_snoc (p : List Nat) (k : Nat) : unL p (k + 1) = unL p k ++ [bitU p k] := by simp [unL, List.range_succ]
theorem okU_snoc (p : List Nat) (n k : Nat) : okU p n (k + 1) = (okU p n k && (decide (k < n) || !bitU p k)) := by simp [okU, List.range_succ]
end Go.Proofs.Ytfinjdkcgmepfaa
/- Contracts of Unpack of the program. Conditions: as each statement says. -/
namespace Go.Proofs.Ytfinjdkcgmepfaa
open Go.RowKit
set_option linter.unusedVariables false
set_option linter.unusedSimpArgs false
theorem and_all : ∀ x, x < 256 → ∀ R, R < 8 → (x &&& 2 ^ (7 - R) != 0) = ((x / 2 ^ (7 - R)) % 2 == 1) := by decide +kernel
theorem and_bit (x R : Nat) (hx : x < 256) (hR : R < 8) : (bits .and .u8 (x : Int) (128 / 2 ^ R) != 0) = ((x / 2 ^ (7 - R)) % 2 == 1) := by
  have e : (128 : Int) / 2 ^ R = ((2 ^ (7 - R) : Nat) : Int) := by
    rcases (show R = 0 ∨ R = 1 ∨ R = 2 ∨ R = 3 ∨ R = 4 ∨ R = 5 ∨ R = 6 ∨ R = 7 by omega) with h | h | h | h | h | h | h | h <;> subst h <;> decide
  have hp : 2 ^ (7 - R) < 256 := Nat.lt_of_le_of_lt (Nat.pow_le_pow_right (by decide) (show 7 - R ≤ 7 by omega)) (by decide)
  rw [e, u8_and_nat x (2 ^ (7 - R)) hx hp, ← and_all x hx R hR, Bool.eq_iff_iff, bne_iff_ne, bne_iff_ne]
  omega
end Go.Proofs.Ytfinjdkcgmepfaa
/- Contracts of Unpack of the program, the part that is not refused for its range. Conditions: as each statement says. -/
namespace Go.Proofs.Ytfinjdkcgmepfaa
open Go.RowKit
set_option linter.unusedVariables false
set_option linter.unusedSimpArgs false
/-- A slice expression from a place on, up to the length. -/
theorem slice_tail {P : Program} {t e : TypeId} {sz : Nat} (ht' : P.underlying t = some (.slice e)) (hz' : ∀ w, (sizeOf e).run P w = .ok sz w)
    {w : World} {B n : Nat} {A : Option Addr} {xs : List Value} (h : Rd w B sz A n xs) (lo c : Nat) (hlo : lo ≤ n) (hc : n ≤ c) :
    ∃ A2, (∀ w', (Instr.sliceAt t (.slice A n c) (some (.int .i64 lo)) none none).run P w' = .ok (.slice A2 (n - lo) (c - lo)) w') ∧ Rd w B sz A2 (n - lo) ((xs.drop (lo * sz)).take ((n - lo) * sz)) := by
  have he : P.elem t = e := by simp [Program.elem, ht']
  have ht : P.underlying t = some (.slice (P.elem t)) := by rw [he]; exact ht'
  have hz : ∀ w, (sizeOf (P.elem t)).run P w = .ok sz w := by rw [he]; exact hz'
  refine ⟨_, fun w' => ?_, h.cut hlo (Nat.le_refl n) hc⟩
  rw [run_sliceAt_slice (h := ht), run_slice_l (ht := ht) (h0 := by omega) (h1 := by omega), hz]
  simp [Result.andThen, sliced]
theorem okU_cnt (p : List Nat) (n M : Nat) (hn : n ≤ M) : okU p n M = (cnt ((unL p M).drop n) == 0) := by
  rw [Bool.eq_iff_iff]
  simp only [okU, List.all_eq_true, beq_iff_eq, cnt, List.length_eq_zero_iff, List.filter_eq_nil_iff, List.mem_range]
  constructor
  · intro h x hx hxt
    obtain ⟨i, hi⟩ := List.getElem?_of_mem hx
    rw [List.getElem?_drop] at hi
    have hlt : n + i < M := by
      have := (List.getElem?_eq_some_iff.1 hi).1
      simpa [unL] using this
    have e : bitU p (n + i) = x := by simpa [unL, hlt] using hi
    have h1 := h (n + i) hlt
    have hxt' : x = true := hxt
    rw [e, hxt'] at h1
    have h2 : ¬ n + i < n := by omega
    rw [decide_eq_false h2] at h1
    cases h1
  · intro h i hi
    by_cases hin : i < n
    · simp [hin]
    · have hm : bitU p i ∈ (unL p M).drop n := by
        apply List.mem_of_getElem? (i := i - n)
        rw [List.getElem?_drop, show n + (i - n) = i by omega]
        simp [unL, hi]
      have := h _ hm
      simp only [id] at this
      simp [this]
end Go.Proofs.Ytfinjdkcgmepfaa
