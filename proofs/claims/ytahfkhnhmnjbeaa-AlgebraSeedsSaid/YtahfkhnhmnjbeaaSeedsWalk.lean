/- The walk of AlgebraSeeds: it returns true for every two seeds. -/
import Derived.Test.YtahfkhnhmnjbeaaProg
import Derived.Test.YtahfkhnhmnjbeaaKnown
import Derived.Test.YtahfkhnhmnjbeaaDraw
namespace Go.Proofs.Ytahfkhnhmnjbeaa
open Go.RowKit
set_option maxHeartbeats 1000000 in
theorem AlgebraSeeds_walk (a b : Nat) (w : World) (ha : a < 18446744073709551616) (hb : b < 18446744073709551616) :
    Calls Try.prog 5 #[.int .u64 a, .int .u64 b] w fun e w' => e = .returned (.bool true) ∧ Below w.heap.size w w' := by
  have heq : ((nextY a : Int) == (nextY b : Int)) = ((a : Int) == (b : Int)) := by
    rw [Bool.eq_iff_iff]
    simp only [beq_iff_eq]
    constructor
    · intro h; have := nextY_inj ha hb (by omega); omega
    · intro h; rw [show a = b by omega]
  have HE := Lib.hid heq; clear heq
  clear ha hb
  go_enter Try.func5, Try.ntmps5
  go_wp2_with fail
  refine (New_any _ _).mono ?_
  rintro e w1 ⟨rfl, hw1⟩
  have hb1 : w1.heap[w.heap.size]? = some (.cells #[.int .u64 a, .bool true] 100 (0, 0)) := by rw [← hw1]; exact heap_alloc_new w _
  have hbe : Below w.heap.size w w1 := by rw [← hw1]; exact (Below.refl _ _).alloc (Nat.le_refl _) _
  have hs1 : w1.heap.size = w.heap.size + 1 := by rw [← hw1]; simp
  have HB := Lib.hid hb1
  have HS := Lib.hid hs1
  clear hw1 hb1 hs1
  go_wp2_with fail
  refine (Next_any a w.heap.size _ (by rw [cell_of_row _ _ _ _ _ _ HB.out]; rfl) (by rw [cell_of_row _ _ _ _ _ _ HB.out]; rfl) (by simp [World.frozen?, HB.out])).mono ?_
  rintro e w2 ⟨rfl, hq⟩
  have hbe2 : Below w.heap.size w w2 := (hbe.setCell (p := ⟨w.heap.size, 0, none⟩) (Nat.le_refl _) _).trans (hq.below _)
  have hle2 := hbe2.size
  clear hq hbe
  go_wp2_with fail
  refine (New_any _ _).mono ?_
  rintro e w3 ⟨rfl, hw3⟩
  have hb3 : w3.heap[w2.heap.size]? = some (.cells #[.int .u64 b, .bool true] 100 (0, 0)) := by rw [← hw3]; exact heap_alloc_new w2 _
  have hbe3 : Below w.heap.size w w3 := by rw [← hw3]; exact hbe2.alloc hle2 _
  have HB3 := Lib.hid hb3
  clear hw3 hb3
  go_wp2_with fail
  refine (Next_any b w2.heap.size _ (by rw [cell_of_row _ _ _ _ _ _ HB3.out]; rfl) (by rw [cell_of_row _ _ _ _ _ _ HB3.out]; rfl) (by simp [World.frozen?, HB3.out])).mono ?_
  rintro e w4 ⟨rfl, hq⟩
  have hbe4 : Below w.heap.size w w4 := (hbe3.setCell (p := ⟨w2.heap.size, 0, none⟩) hle2 _).trans (hq.below _)
  have hle4 := hbe4.size
  clear hq hbe3 hbe2
  have hE := HE.out
  go_wp2_with fail
  refine (known_any _).mono ?_
  rintro e w5 ⟨rfl, hb5⟩
  go_wp2_with fail
  go_ret
  exact ⟨rfl, hbe4.trans (hb5.mono hle4)⟩
end Go.Proofs.Ytahfkhnhmnjbeaa
