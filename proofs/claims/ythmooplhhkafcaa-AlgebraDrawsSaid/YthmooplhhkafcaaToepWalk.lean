/- The walk of AlgebraToeplitz: it returns true for every seed, bit string and number. -/
import Derived.Test.YthmooplhhkafcaaKnown
import Derived.Test.YthmooplhhkafcaaToep2
import Derived.Test.YthmooplhhkafcaaOpen
namespace Go.Proofs.Ythmooplhhkafcaa
open Go.RowKit
theorem sameB_self (xs : List Bool) : sameB xs xs = true := by simp [sameB]
theorem Same_self (A A' : Option Addr) (n m c c' : Nat) (xs : List Bool) (w : World) (hn : n ≤ 1073741824) (hm : m ≤ 1073741824) (h : Rd w w.heap.size 1 A n (xs.map Value.bool)) (h' : Rd w w.heap.size 1 A' m (xs.map Value.bool)) :
    Calls Try.prog 17 #[.slice A n c, .slice A' m c'] w fun e w' => e = .returned (.bool true) ∧ Below w.heap.size w w' := by
  have := Same_any A A' n m c c' xs xs w hn hm h h'
  rw [sameB_self] at this
  exact this
end Go.Proofs.Ythmooplhhkafcaa
