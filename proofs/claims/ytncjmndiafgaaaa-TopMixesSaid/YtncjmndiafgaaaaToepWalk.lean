/- The walk of AlgebraToeplitz: it returns true for every seed, bit string and number. -/
import Derived.Test.YtncjmndiafgaaaaKnown
import Derived.Test.YtncjmndiafgaaaaZip
import Derived.Test.YtncjmndiafgaaaaOpen
namespace Go.Proofs.Ytncjmndiafgaaaa
open Go.RowKit
theorem sameB_self (xs : List Bool) : sameB xs xs = true := by simp [sameB]
end Go.Proofs.Ytncjmndiafgaaaa
/- The walk of AlgebraUniform. -/
namespace Go.Proofs.Ytncjmndiafgaaaa
open Go.RowKit
set_option linter.unusedVariables false
theorem info_int : (Try.prog.info? 3).map (fun i => (i.zero, i.size, i.bytes)) = some (some (.int .i64 0), 1, 8) := by kernel_rfl
theorem make_int (w : World) (c : Nat) (hc : c ≤ 1000000) : (Instr.makeSlice 95 (.int .i64 c) (.int .i64 c)).run Try.prog w = .ok (.slice (some ⟨w.heap.size, 0, none⟩) c c) (w.alloc (.cells (Array.replicate c (.int .i64 0)) 3)) := by
  obtain ⟨i, hi, hz, hs, hb⟩ := info_parts info_int
  have h := run_make (P := Try.prog) w _ _ i _ Try.underlying95 hi hz .i64 .i64 c c (by omega) (by omega) (by rw [hb]; omega) (by omega)
  rw [hs] at h
  simpa [madeCells_one, Value.cells] using h
def cRow (F : Nat → Nat) (M k : Nat) : Obj := .cells ((List.range M).map fun j => Value.int .i64 (cU F k j)).toArray 3 (0, 0)
theorem cRow_cell {w : World} {h M k j : Nat} {F : Nat → Nat} (hh : w.heap[h]? = some (cRow F M k)) (hj : j < M) : w.cell? ⟨h, j, none⟩ = some (.int .i64 (cU F k j)) := by
  rw [cell_of_row _ _ _ _ _ _ hh]
  simp [hj]
theorem cRow_frozen {w : World} {h M k j : Nat} {F : Nat → Nat} (hh : w.heap[h]? = some (cRow F M k)) : w.frozen? ⟨h, j, none⟩ = false := by simp [World.frozen?, hh, cRow]
theorem cRow_set {w : World} {h M k q : Nat} {F : Nat → Nat} (hh : w.heap[h]? = some (cRow F M k)) (hq : F k = q) (hj : q < M) : (w.setCell ⟨h, q, none⟩ (.int .i64 ((cU F k q : Int) + 1))).heap[h]? = some (cRow F M (k + 1)) := by
  subst hq
  simp only [cRow] at hh ⊢
  rw [heap_setCell_same w h _ _ _ _ hh]
  congr 2
  apply Array.ext'
  apply List.ext_getElem
  · simp
  · intro i h1 h2
    have hi : i < M := by simpa using h2
    simp only [Array.toList_setIfInBounds, List.getElem_set, List.getElem_map, List.getElem_range, cU]
    by_cases e : F k = i
    · subst e; simp
    · simp [e]
theorem cRow_zero (F : Nat → Nat) (M : Nat) : cRow F M 0 = .cells (Array.replicate M (Value.int .i64 0)) 3 (0, 0) := by
  unfold cRow
  congr 1
  apply Array.ext'
  apply List.ext_getElem
  · simp
  · intro i h1 h2; simp [cU]
end Go.Proofs.Ytncjmndiafgaaaa
