/- Contracts of the functions that combine bit strings (program and reference). Conditions: xs each statement says. -/
import Derived.Test.YtecndceekgaglaaGreatProg
import Derived.Test.YtecndceekgaglaaGreatField
import Derived.Deep.RegionHeld3
import Derived.Deep.AppendLies
namespace Go.Proofs.YtecndceekgaglaaGreat
open Go.RowKit
def xorL (a b : List Bool) : List Bool := List.zipWith (fun x y => x != y) a b
theorem xorL_snoc {a b : List Bool} (k : Nat) (ha : k < a.length) (hb : k < b.length) : (xorL a b).take (k + 1) = (xorL a b).take k ++ [a[k] != b[k]] := by
  have : k < (xorL a b).length := by simp [xorL]; omega
  rw [take_snoc _ _ this]
  simp [xorL]
theorem xorL_len {a b : List Bool} (h : a.length = b.length) : (xorL a b).length = a.length := by simp [xorL, h]

end Go.Proofs.YtecndceekgaglaaGreat
/- Contracts of kept, Same, Count and zip. Conditions: as each statement says. -/
namespace Go.Proofs.YtecndceekgaglaaGreat
open Go.RowKit
theorem cnt_xor (xs ys : List Bool) (h : xs.length = ys.length) : cnt (xorL xs ys) = 0 ↔ xs = ys := by
  induction xs generalizing ys with
  | nil => cases ys with
    | nil => simp [xorL, cnt]
    | cons y ys => simp at h
  | cons x xs ih => cases ys with
    | nil => simp at h
    | cons y ys =>
      have := ih ys (by simpa using h)
      simp only [xorL, List.zipWith_cons_cons, cnt] at *
      cases x <;> cases y <;> simp_all
/-- Whether two bit strings are equal. -/
def sameB (xs ys : List Bool) : Bool := decide (xs = ys)
end Go.Proofs.YtecndceekgaglaaGreat
