/- Contracts of the Toeplitz hash (program and reference). Conditions: as each statement says. -/
import Derived.Test.YtdgmjedkhjeadaaGreatZip
import Derived.Test.YtdgmjedkhjeadaaGreatMath
import Derived.Test.YtdgmjedkhjeadaaGreatField
namespace Go.Proofs.YtdgmjedkhjeadaaGreat
open Go.RowKit
set_option linter.unusedSimpArgs false
set_option linter.unusedVariables false
theorem ownsRow_base {w : World} {base base' : Nat} {t : TypeId} {sz n : Nat} {v : Value} {xs : List Value} (h : w.ownsRow base t sz v n xs) (hb : base' ≤ base) : w.ownsRow base' t sz v n xs := by
  refine ⟨h.1, ?_⟩
  rcases h.2 with h1 | ⟨g, cap, cur, hv, hg, rest⟩
  · exact .inl h1
  · exact .inr ⟨g, cap, cur, hv, by omega, rest⟩

def wordV (l : List Bool) : Nat := l.foldl (fun n b => 2 * n + if b then 1 else 0) 0
/-- The bits of a number. -/
def numL (a width : Nat) : List Bool := (List.range width).map fun i => (a / 2 ^ (width - 1 - i)) % 2 == 1
/-- The number of the hash of the seed with a number. -/
def hW (a : List Bool) (m s i : Nat) : Nat := wordV (toepL (numL i s) a m a.length)
end Go.Proofs.YtdgmjedkhjeadaaGreat
