/- The contract of slices.Sort at a row of ints of the call's own. Condition: as the statement says. -/
import Derived.Test.YtdgmjedkhjeadaaGreatSort
import Derived.Test.YtdgmjedkhjeadaaGreatKeepL
import Derived.Sort.OwnSortedInts
import Derived.WalkSpells
namespace Go.Proofs.YtdgmjedkhjeadaaGreat
open Go.RowKit
set_option linter.unusedVariables false
theorem SortI_own (v : Value) (n base : Nat) (l : List Int) (w : World) (hn : n ≤ 1073741824) (h : w.ownsRow base 3 1 v n (l.map (Value.int .i64))) :
    Calls Tryz.prog 85 #[v] w fun e w' => e = .returned (.tuple #[]) ∧ w'.ownsRow base 3 1 v n ((l.mergeSort fun x y => decide (x ≤ y)).map (Value.int .i64)) ∧ w.grownBy w' v.ownBlock := by
  have hl : l.length = n := by have := h.1; simpa using this
  rcases Nat.eq_zero_or_pos n with hn0 | hn0
  · subst hn0
    obtain rfl : l = [] := List.eq_nil_of_length_eq_zero hl
    have hv : ∃ A c, v = .slice A 0 c := by
      rcases h.2 with ⟨h1, _⟩ | ⟨g, cap, cur, h1, _⟩
      · exact ⟨_, _, h1⟩
      · exact ⟨_, _, h1⟩
    obtain ⟨A, c, rfl⟩ := hv
    exact (sh_slices_Sort_int_none A c w).mono fun e w' ⟨he, hw⟩ => by subst hw; exact ⟨he, by simpa using h, World.grownBy.refl _ _⟩
  · rcases h.2 with ⟨_, h0⟩ | ⟨g, cap, cur, rfl, hg, hb, h1, h2, h3, h4⟩
    · omega
    · subst hl
      refine (sh_slices_Sort_int g 0 cap l w (holds_of_blockI hb (by simpa using h4)) (Array.getElem?_eq_some_iff.1 hb).1 (by omega)).mono ?_
      rintro e w' ⟨rfl, n, os, rfl⟩
      exact ⟨rfl, ownsRow_sortedI (by simp) hg hb h1 h2 h3, grownBy_sortedI _⟩
end Go.Proofs.YtdgmjedkhjeadaaGreat
