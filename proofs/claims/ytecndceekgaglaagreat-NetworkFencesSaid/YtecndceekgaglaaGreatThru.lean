/- The contracts of put and through of the program. Conditions: as each statement says. -/
import Derived.Test.YtecndceekgaglaaGreatShareV
import Derived.Test.YtecndceekgaglaaGreatOver
import Derived.BigRegion
import Derived.Test.YtecndceekgaglaaGreatBase
import Derived.Test.YtecndceekgaglaaGreatTail
namespace Go.Proofs.YtecndceekgaglaaGreat
open Go.RowKit
set_option linter.unusedVariables false
/-- The points that lie in block P. -/
def PtsAt (w : World) (P : Nat) (ps : List (Nat × Nat)) : Prop :=
  ∃ cs : Array Value, w.heap[P]? = some (.cells cs 110 (0, 0)) ∧ cs.size = 35 ∧ cs[34]? = some (.int .i64 ps.length) ∧ ps.length ≤ 17 ∧
    ∀ i (h : i < ps.length), cs[i]? = some (.int .u8 (ps[i]).1) ∧ cs[17 + i]? = some (.int .u8 (ps[i]).2)
theorem PtsAt.keep {w w' : World} {P : Nat} {ps : List (Nat × Nat)} (h : PtsAt w P ps) (hk : w'.heap[P]? = w.heap[P]?) : PtsAt w' P ps := by
  obtain ⟨cs, h1, h2⟩ := h; exact ⟨cs, hk.trans h1, h2⟩
/-- No points. -/
abbrev zero35 : Array Value := #[.int .u8 0, .int .u8 0, .int .u8 0, .int .u8 0, .int .u8 0, .int .u8 0, .int .u8 0, .int .u8 0, .int .u8 0, .int .u8 0, .int .u8 0, .int .u8 0, .int .u8 0, .int .u8 0, .int .u8 0, .int .u8 0, .int .u8 0, .int .u8 0, .int .u8 0, .int .u8 0, .int .u8 0, .int .u8 0, .int .u8 0, .int .u8 0, .int .u8 0, .int .u8 0, .int .u8 0, .int .u8 0, .int .u8 0, .int .u8 0, .int .u8 0, .int .u8 0, .int .u8 0, .int .u8 0, .int .i64 0]
theorem PtsAt.new (w : World) : PtsAt (w.alloc (.cells zero35 110)) w.heap.size [] := ⟨zero35, heap_alloc_new w _, rfl, rfl, Nat.zero_le _, fun i h => absurd h (by simp)⟩
end Go.Proofs.YtecndceekgaglaaGreat
/- The contract of through of the program. Conditions: as the statement says. -/
namespace Go.Proofs.YtecndceekgaglaaGreat
open Go.RowKit
set_option linter.unusedVariables false
end Go.Proofs.YtecndceekgaglaaGreat
/- The contract of Join of the program. Conditions: as each statement says. -/
namespace Go.Proofs.YtecndceekgaglaaGreat
open Go.RowKit
set_option linter.unusedVariables false
end Go.Proofs.YtecndceekgaglaaGreat
