/- The walk of AlgebraToeplitz: it returns true for every seed, bit string and number. -/
import Derived.Test.YtfinjdkcgmepfaaKnown
import Derived.Test.YtfinjdkcgmepfaaZip
import Derived.Test.YtfinjdkcgmepfaaOpen
import Derived.Deep.RegionHeld3
namespace Go.Proofs.Ytfinjdkcgmepfaa
open Go.RowKit
theorem sameB_self (xs : List Bool) : sameB xs xs = true := by simp [sameB]
end Go.Proofs.Ytfinjdkcgmepfaa
/- The walk of AlgebraUniform. -/
namespace Go.Proofs.Ytfinjdkcgmepfaa
open Go.RowKit
set_option linter.unusedVariables false
theorem info_int : (Try.prog.info? 3).map (fun i => (i.zero, i.size, i.bytes)) = some (some (.int .i64 0), 1, 8) := by kernel_rfl
theorem make_int (w : World) (c : Nat) (hc : c ≤ 1000000) : (Instr.makeSlice 38 (.int .i64 c) (.int .i64 c)).run Try.prog w = .ok (.slice (some ⟨w.heap.size, 0, none⟩) c c) (w.alloc (.cells (Array.replicate c (.int .i64 0)) 3)) := by
  obtain ⟨i, hi, hz, hs, hb⟩ := info_parts info_int
  have h := run_make (P := Try.prog) w _ _ i _ Try.underlying38 hi hz .i64 .i64 c c (by omega) (by omega) (by rw [hb]; omega) (by omega)
  rw [hs] at h
  simpa [madeCells_one, Value.cells] using h
def cRow (F : Nat → Nat) (M k : Nat) : Obj := .cells ((List.range M).map fun j => Value.int .i64 (cU F k j)).toArray 3 (0, 0)
theorem cRow_cell {w : World} {h M k j : Nat} {F : Nat → Nat} (hh : w.heap[h]? = some (cRow F M k)) (hj : j < M) : w.cell? ⟨h, j, none⟩ = some (.int .i64 (cU F k j)) := by
  rw [cell_of_row _ _ _ _ _ _ hh]
  simp [hj]
theorem cRow_frozen {w : World} {h M k j : Nat} {F : Nat → Nat} (hh : w.heap[h]? = some (cRow F M k)) : w.frozen? ⟨h, j, none⟩ = false := by simp [World.frozen?, hh, cRow]
theorem cRow_set {w : World} {h M k q : Nat} {F : Nat → Nat} (hh : w.heap[h]? = some (cRow F M k)) (hq : F k = q) (hj : q < M) : (w.setCell ⟨h, q, none⟩ (.int .i64 ((cU F k q : Int) + 1))).heap[h]? = some (cRow F M (k + 1)) := by
  subst hq
  simp only [cRow] at hh ⊢
  rw [heap_setCell_same w h _ _ _ _ hh]
  congr 2
  apply Array.ext'
  apply List.ext_getElem
  · simp
  · intro i h1 h2
    have hi : i < M := by simpa using h2
    simp only [Array.toList_setIfInBounds, List.getElem_set, List.getElem_map, List.getElem_range, cU]
    by_cases e : F k = i
    · subst e; simp
    · simp [e]
theorem cRow_zero (F : Nat → Nat) (M : Nat) : cRow F M 0 = .cells (Array.replicate M (Value.int .i64 0)) 3 (0, 0) := by
  unfold cRow
  congr 1
  apply Array.ext'
  apply List.ext_getElem
  · simp
  · intro i h1 h2; simp [cU]
end Go.Proofs.Ytfinjdkcgmepfaa
/- The walk of AlgebraLinear: it returns true for every seed and bit strings. -/
namespace Go.Proofs.Ytfinjdkcgmepfaa
open Go.RowKit
set_option linter.unusedVariables false
/-- A slice expression from the start, within the length. -/
theorem slice_head {P : Program} {t e : TypeId} {sz : Nat} (ht' : P.underlying t = some (.slice e)) (hz' : ∀ w, (sizeOf e).run P w = .ok sz w)
    {w : World} {B n : Nat} {A : Option Addr} {xs : List Value} (h : Rd w B sz A n xs) (E : Int) (hi c : Nat) (hE : E = (hi : Int)) (hhi : hi ≤ n) (hc : n ≤ c) :
    ∃ A2, (∀ w', (Instr.sliceAt t (.slice A n c) none (some (.int .i64 E)) none).run P w' = .ok (.slice A2 hi c) w') ∧ Rd w B sz A2 hi (xs.take (hi * sz)) := by
  subst hE
  have he : P.elem t = e := by simp [Program.elem, ht']
  have ht : P.underlying t = some (.slice (P.elem t)) := by rw [he]; exact ht'
  have hz : ∀ w, (sizeOf (P.elem t)).run P w = .ok sz w := by rw [he]; exact hz'
  have hr := h.cut (Nat.zero_le hi) hhi hc
  simp only [Nat.zero_mul, List.drop_zero, Nat.sub_zero] at hr
  refine ⟨_, fun w' => ?_, hr⟩
  rw [run_sliceAt_slice (h := ht), run_slice_h (ht := ht) (h0 := by omega) (h2 := by omega), hz]
  simp [Result.andThen, sliced]
theorem toepL_xor (seed a b : List Bool) (o n : Nat) (ha : a.length = n) (hb : b.length = n) : toepL seed (xorL a b) o (xorL a b).length = xorL (toepL seed a o a.length) (toepL seed b o b.length) := by
  apply List.ext_getElem
  · simp [toepL, xorL]
  · intro i h1 h2
    have hx : (xorL a b).length = n := by rw [xorL_len (by omega), ha]
    simp only [toepL, xorL, List.getElem_map, List.getElem_range, List.getElem_zipWith]
    have hx' : (List.zipWith (fun x y => x != y) a b).length = n := hx
    rw [hx', tb_xor seed a b n i n (by omega) (by omega), ha, hb]
end Go.Proofs.Ytfinjdkcgmepfaa
