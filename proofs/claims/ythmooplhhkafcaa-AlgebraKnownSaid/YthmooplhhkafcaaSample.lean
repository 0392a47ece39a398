/- Contracts of slices.Clone and slices.Sort at []int, and of Sample. Conditions: as each statement says. -/
import Derived.Test.YthmooplhhkafcaaPerm2
import Derived.Test.YthmooplhhkafcaaSort
import Derived.Test.YthmooplhhkafcaaDrawMath
import Derived.Test.YthmooplhhkafcaaToepWalk
import Derived.Sort.OwnSortedInts
import Derived.WalkSpells
namespace Go.Proofs.Ythmooplhhkafcaa
open Go.RowKit
set_option linter.unusedVariables false
set_option maxRecDepth 100000 in
theorem Clone_int (A : Option Addr) (n c : Nat) (l : List Int) (w : World) (hn : n ≤ 1073741824) (h : Rd w w.heap.size 1 A n (l.map (Value.int .i64))) :
    Calls Try.prog 70 #[.slice A n c] w fun e w' => ∃ A' c', e = .returned (.slice A' n c') ∧ n ≤ c' ∧ w'.ownsRow w.heap.size 3 1 (.slice A' n c') n (l.map (Value.int .i64)) ∧ Below w.heap.size w w' := by
  have H := Lib.hid h; clear h
  obtain ⟨i0, hi0, hz0, hz1, hz2⟩ := info_parts info_int
  have HI0 := Lib.hid hi0; have HZ0 := Lib.hid hz0; have HZ1 := Lib.hid hz1; have HZ2 := Lib.hid hz2
  clear hi0 hz0 hz1 hz2
  have q : ∀ (w : World) (a : Option Addr) (n c n' c' : Nat), (binOp .eql 54 (.slice a n c) (.slice none n' c')).run Try.prog w = .ok (.bool a.isNone) w := fun w a n c n' c' => Lib.run_eql_slice_nil w _ _ a n c n' c' Try.underlying54
  cases A with
  | none =>
    have hn0 : n = 0 := by
      rcases Nat.eq_zero_or_pos n with h | h
      · exact h
      · obtain ⟨_, _, h1, _⟩ := H.out.2 h; cases h1
    subst hn0
    have hl : l = [] := by have := H.out.1; simpa using this
    subst hl
    clear H
    go_enter Try.func70, Try.ntmps70
    go_wp2_with fail
    go_ret
    exact ⟨none, 0, rfl, Nat.le_refl _, World.ownsRow_nil _ _ _ _, Below.refl _ _⟩
  | some a =>
    go_enter Try.func70, Try.ntmps70
    go_wp2_with (at_builtin; refine wpList_append_rd _ rfl (.tmp 5) (.tmp 6) _ rfl w.heap.size 3 i0 _ 1 8 Try.underlying54 HI0.out HZ0.out HZ1.out HZ2.out rfl (by decide) _ 0 [] rfl (World.ownsRow_made w #[] 0 (Nat.le_refl _) (by simp [maxLen]) (by simp)) _ (some a) n c _ rfl (H.out.alloc (Nat.le_refl _) _) (by intro u hu; obtain ⟨_, _, rfl⟩ := List.mem_map.1 hu; rfl) (by unfold maxLen; omega) (by omega) (by simp) ?_; intro v1 w1 hown1 hg1)
    rw [Nat.zero_add, List.nil_append] at hown1
    obtain ⟨A', c', rfl, hc⟩ := own_form hown1
    go_ret
    exact ⟨A', c', rfl, hc, hown1, (((Below.refl _ _).alloc (Nat.le_refl _) _).grown hg1 (by simp) (fun g hg => by cases hg; exact Nat.le_refl _))⟩
/-- slices.Sort of a row of the call's own. -/
theorem Sort_own (v : Value) (n base : Nat) (l : List Int) (w : World) (hn : n ≤ 1073741824) (h : w.ownsRow base 3 1 v n (l.map (Value.int .i64))) :
    Calls Try.prog 71 #[v] w fun e w' => e = .returned (.tuple #[]) ∧ w'.ownsRow base 3 1 v n ((l.mergeSort fun x y => decide (x ≤ y)).map (Value.int .i64)) ∧ w.grownBy w' v.ownBlock := by
  have hl : l.length = n := by have := h.1; simpa using this
  rcases Nat.eq_zero_or_pos n with hn0 | hn0
  · subst hn0
    obtain rfl : l = [] := List.eq_nil_of_length_eq_zero hl
    obtain ⟨A, c, rfl, _⟩ := own_form h
    exact (sh_slices_Sort_int_none A c w).mono fun e w' ⟨he, hw⟩ => by subst hw; exact ⟨he, by simpa using h, World.grownBy.refl _ _⟩
  · rcases h.2 with ⟨_, h0⟩ | ⟨g, cap, cur, rfl, hg, hb, h1, h2, h3, h4⟩
    · omega
    · subst hl
      refine (sh_slices_Sort_int g 0 cap l w (holds_of_blockI hb (by simpa using h4)) (Array.getElem?_eq_some_iff.1 hb).1 (by omega)).mono ?_
      rintro e w' ⟨rfl, n, os, rfl⟩
      exact ⟨rfl, ownsRow_sortedI (by simp) hg hb h1 h2 h3, grownBy_sortedI _⟩
set_option maxHeartbeats 1000000 in
theorem Sample_any (b s n k : Nat) (w : World) (hd : DrawAt w b s) (hn : n ≤ 65536) (hk : k ≤ n) :
    Calls Try.prog 34 #[.pointer (some ⟨b, 0, none⟩), .int .i64 n, .int .i64 k] w fun e w' => ∃ A c, e = .returned (.tuple #[.slice A k c, .int .i64 0]) ∧ w'.ownsRow w.heap.size 3 1 (.slice A k c) k ((sampL s n k).map (Value.int .i64)) ∧ Upd w.heap.size b (permS s n) w w' := by
  have hlt := hd.lt
  have HD := Lib.hid hd; clear hd
  have hk0 : ¬ ((k : Int) < 0) := by omega
  have hk1 : ¬ ((n : Int) < (k : Int)) := by omega
  go_enter Try.func34, Try.ntmps34
  go_wp2_with fail
  refine (size_in b s n _ HD.out (by omega) (by omega)).mono ?_
  rintro e w' ⟨rfl, rfl⟩
  go_wp2_with fail
  refine (Perm_any b s n _ HD.out hn).mono ?_
  rintro e w1 ⟨rfl, hown1, hu1⟩
  have HU1 := Lib.hid hu1
  have hs1 := hu1.size
  have hc : n ≤ n := Nat.le_refl _
  obtain ⟨A2, hsl, hr2⟩ := slice_head (P := Try.prog) (t := 54) (sz := 1) Try.underlying54 Try.sizeOf3 (Rd.own hown1) (k : Int) k n rfl hk hc
  have e2 : (((permL s n).map (Value.int .i64)).take (k * 1)) = ((permL s n).take k).map (Value.int .i64) := by rw [Nat.mul_one, List.map_take]
  rw [e2] at hr2
  have R2 := Lib.hid hr2
  clear hu1 hown1 hr2 e2 hc
  go_wp2_with fail
  refine (Clone_int _ _ _ _ _ (by omega) R2.out).mono ?_
  rintro e w2 ⟨A3, c3, rfl, hc3, hown3, hb3⟩
  have H3 := Lib.hid hown3; have B3 := Lib.hid hb3; clear hown3 hb3 hsl
  go_wp2_with fail
  refine (Sort_own _ k w1.heap.size _ _ (by omega) H3.out).mono ?_
  rintro e w3 ⟨rfl, hown4, hg4⟩
  have hs3 := B3.out.size
  have HU4 := Lib.hid (HU1.out.below ((B3.out.mono hs1).grown hg4 (by omega) (fun g hg => by have := (H3.out.lt g hg).1; omega)))
  have H4 := Lib.hid (ownsRow_base hown4 hs1)
  clear hown4 hg4
  go_wp2
  go_ret2
  exact ⟨A3, c3, rfl, H4.out, HU4.out⟩
end Go.Proofs.Ythmooplhhkafcaa
