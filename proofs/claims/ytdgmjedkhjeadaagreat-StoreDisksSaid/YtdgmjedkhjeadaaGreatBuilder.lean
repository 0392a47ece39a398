/- Contracts of strings.Builder's WriteByte and String over this program. Conditions: the builder is one that the call itself has made. -/
import Derived.Test.YtdgmjedkhjeadaaGreatProg
import Derived.Test.YtdgmjedkhjeadaaGreatTypes
import Derived.Lib.Builder
import Derived.Shelf.Strings.Builder1
namespace Go.Proofs.YtdgmjedkhjeadaaGreat
open Go.RowKit
def AllBits (l : List UInt8) : Prop := ∀ c ∈ l, c = 48 ∨ c = 49


theorem AllBits.snoc {l : List UInt8} {c : UInt8} (h : AllBits l) (hc : c = 48 ∨ c = 49) : AllBits (l ++ [c]) := by
  intro x hx
  rcases List.mem_append.1 hx with h1 | h1
  · exact h x h1
  · simp at h1; subst h1; exact hc
end Go.Proofs.YtdgmjedkhjeadaaGreat
