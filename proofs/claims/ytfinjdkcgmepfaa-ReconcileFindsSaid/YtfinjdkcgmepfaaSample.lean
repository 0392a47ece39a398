/- Contracts of slices.Clone and slices.Sort at []int, and of Sample. Conditions: as each statement says. -/
import Derived.Test.YtfinjdkcgmepfaaPerm2
import Derived.Test.YtfinjdkcgmepfaaSort
import Derived.Test.YtfinjdkcgmepfaaDrawMath
import Derived.Test.YtfinjdkcgmepfaaToepWalk
import Derived.Sort.OwnSortedInts
import Derived.WalkSpells
namespace Go.Proofs.Ytfinjdkcgmepfaa
open Go.RowKit
set_option linter.unusedVariables false
/-- slices.Sort of a row of the call's own. -/
theorem Sort_own (v : Value) (n base : Nat) (l : List Int) (w : World) (hn : n ≤ 1073741824) (h : w.ownsRow base 3 1 v n (l.map (Value.int .i64))) :
    Calls Try.prog 48 #[v] w fun e w' => e = .returned (.tuple #[]) ∧ w'.ownsRow base 3 1 v n ((l.mergeSort fun x y => decide (x ≤ y)).map (Value.int .i64)) ∧ w.grownBy w' v.ownBlock := by
  have hl : l.length = n := by have := h.1; simpa using this
  rcases Nat.eq_zero_or_pos n with hn0 | hn0
  · subst hn0
    obtain rfl : l = [] := List.eq_nil_of_length_eq_zero hl
    obtain ⟨A, c, rfl, _⟩ := own_form h
    exact (sh_slices_Sort_int_none A c w).mono fun e w' ⟨he, hw⟩ => by subst hw; exact ⟨he, by simpa using h, World.grownBy.refl _ _⟩
  · rcases h.2 with ⟨_, h0⟩ | ⟨g, cap, cur, rfl, hg, hb, h1, h2, h3, h4⟩
    · omega
    · subst hl
      refine (sh_slices_Sort_int g 0 cap l w (holds_of_blockI hb (by simpa using h4)) (Array.getElem?_eq_some_iff.1 hb).1 (by omega)).mono ?_
      rintro e w' ⟨rfl, n, os, rfl⟩
      exact ⟨rfl, ownsRow_sortedI (by simp) hg hb h1 h2 h3, grownBy_sortedI _⟩
set_option maxHeartbeats 1000000 in
theorem Sample_any (b s n k : Nat) (w : World) (hd : DrawAt w b s) (hn : n ≤ 65536) (hk : k ≤ n) :
    Calls Try.prog 39 #[.pointer (some ⟨b, 0, none⟩), .int .i64 n, .int .i64 k] w fun e w' => ∃ A c, e = .returned (.tuple #[.slice A k c, .int .i64 0]) ∧ w'.ownsRow w.heap.size 3 1 (.slice A k c) k ((sampL s n k).map (Value.int .i64)) ∧ Upd w.heap.size b (permS s n) w w' := by
  have hlt := hd.lt
  have HD := Lib.hid hd; clear hd
  have hk0 : ¬ ((k : Int) < 0) := by omega
  have hk1 : ¬ ((n : Int) < (k : Int)) := by omega
  go_enter Try.func39, Try.ntmps39
  go_wp2_with fail
  refine (size_in b s n _ HD.out (by omega) (by omega)).mono ?_
  rintro e w' ⟨rfl, rfl⟩
  go_wp2_with fail
  refine (Perm_any b s n _ HD.out hn).mono ?_
  rintro e w1 ⟨rfl, hown1, hu1⟩
  have HU1 := Lib.hid hu1
  have hs1 := hu1.size
  have hc : n ≤ n := Nat.le_refl _
  obtain ⟨A2, hsl, hr2⟩ := slice_head (P := Try.prog) (t := 38) (sz := 1) Try.underlying38 Try.sizeOf3 (Rd.own hown1) (k : Int) k n rfl hk hc
  have e2 : (((permL s n).map (Value.int .i64)).take (k * 1)) = ((permL s n).take k).map (Value.int .i64) := by rw [Nat.mul_one, List.map_take]
  rw [e2] at hr2
  have R2 := Lib.hid hr2
  clear hu1 hown1 hr2 e2 hc
  go_wp2_with fail
  refine (Clone_int _ _ _ _ _ (by omega) R2.out).mono ?_
  rintro e w2 ⟨A3, c3, rfl, hc3, hown3, hb3⟩
  have H3 := Lib.hid hown3; have B3 := Lib.hid hb3; clear hown3 hb3 hsl
  go_wp2_with fail
  refine (Sort_own _ k w1.heap.size _ _ (by omega) H3.out).mono ?_
  rintro e w3 ⟨rfl, hown4, hg4⟩
  have hs3 := B3.out.size
  have HU4 := Lib.hid (HU1.out.below ((B3.out.mono hs1).grown hg4 (by omega) (fun g hg => by have := (H3.out.lt g hg).1; omega)))
  have H4 := Lib.hid (ownsRow_base hown4 hs1)
  clear hown4 hg4
  go_wp2
  go_ret2
  exact ⟨A3, c3, rfl, H4.out, HU4.out⟩
end Go.Proofs.Ytfinjdkcgmepfaa
