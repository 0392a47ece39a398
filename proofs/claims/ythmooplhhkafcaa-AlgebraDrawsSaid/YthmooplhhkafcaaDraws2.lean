/- Contracts of the draws: size, Copy, Below, Bits. Conditions: as each statement says. -/
import Derived.Test.YthmooplhhkafcaaShuf
namespace Go.Proofs.Ythmooplhhkafcaa
open Go.RowKit
set_option linter.unusedVariables false
theorem DrawAt.new (w : World) (s : Nat) : DrawAt (w.alloc (.cells #[.int .u64 s, .bool true] 71)) w.heap.size s :=
  ⟨by simp [World.cell?_alloc_new], by simp [World.cell?_alloc_new], by
    exact frozen_of_row _ _ _ _ _ (heap_alloc_new w _), by simp⟩
theorem size_out (b s : Nat) (n : Int) (w : World) (hd : DrawAt w b s) (h : n < 0 ∨ 65536 < n) :
    Calls Try.prog 68 #[.pointer (some ⟨b, 0, none⟩), .int .i64 n] w fun e w' => e = .returned (.int .i64 3) ∧ w = w' := by
  have h3 : n < 0 ∨ (0 ≤ n ∧ 65536 < n) := by omega
  have h1 := hd.c1
  clear hd h
  rcases h3 with h3 | ⟨h3, h4⟩
  all_goals
    go_enter Try.func68, Try.ntmps68
    go_wp2_with (go_at_call 67; refine (valid_yes _ _ h1).mono ?_; rintro e w' ⟨rfl, rfl⟩)
    go_ret
    exact ⟨rfl, rfl⟩
theorem size_in (b s : Nat) (n : Int) (w : World) (hd : DrawAt w b s) (h : 0 ≤ n) (h' : n ≤ 65536) :
    Calls Try.prog 68 #[.pointer (some ⟨b, 0, none⟩), .int .i64 n] w fun e w' => e = .returned (.int .i64 0) ∧ w = w' := by
  have h1 := hd.c1
  clear hd
  go_enter Try.func68, Try.ntmps68
  go_wp2_with (go_at_call 67; refine (valid_yes _ _ h1).mono ?_; rintro e w' ⟨rfl, rfl⟩)
  go_ret
  exact ⟨rfl, rfl⟩
theorem Copy_any (b s : Nat) (w : World) (hd : DrawAt w b s) :
    Calls Try.prog 32 #[.pointer (some ⟨b, 0, none⟩)] w fun e w' => e = .returned (.pointer (some ⟨w.heap.size, 0, none⟩)) ∧ DrawAt w' w.heap.size s ∧ w'.heap.size = w.heap.size + 1 ∧ Below w.heap.size w w' := by
  have h1 := hd.c1
  have h0 := hd.c0
  clear hd
  go_enter Try.func32, Try.ntmps32
  go_wp2_with (go_at_call 67; refine (valid_yes _ _ h1).mono ?_; rintro e w' ⟨rfl, rfl⟩)
  go_ret
  exact ⟨rfl, DrawAt.new w s, by simp, (Below.refl _ _).alloc (Nat.le_refl _) _⟩
theorem Below_bad (b s : Nat) (n : Int) (w : World) (hd : DrawAt w b s) (h : n < 1) :
    Calls Try.prog 37 #[.pointer (some ⟨b, 0, none⟩), .int .i64 n] w fun e w' => e = .returned (.tuple #[.int .i64 0, .int .i64 2]) ∧ w = w' := by
  have h1 := hd.c1
  clear hd
  go_enter Try.func37, Try.ntmps37
  go_wp2_with (go_at_call 67; refine (valid_yes _ _ h1).mono ?_; rintro e w' ⟨rfl, rfl⟩)
  go_ret2
  exact ⟨rfl, rfl⟩
theorem Next_upd (b s B : Nat) (w : World) (hd : DrawAt w b s) (hB : b < B) :
    Calls Try.prog 36 #[.pointer (some ⟨b, 0, none⟩)] w fun e w' => e = .returned (.int .u64 (nextY s)) ∧ Upd B b (nextS s) w w' ∧ w'.heap.size = w.heap.size :=
  (Next_any s b w hd.c0 hd.c1 hd.fr).mono fun e w' ⟨he, hq⟩ => ⟨he, hq.below B, by rw [hq.heap, size_setCell]⟩
theorem Below_any (b s n : Nat) (w : World) (hd : DrawAt w b s) (hn : 1 ≤ n) (hn' : n ≤ 9223372036854775807) :
    Calls Try.prog 37 #[.pointer (some ⟨b, 0, none⟩), .int .i64 n] w fun e w' => e = .returned (.tuple #[.int .i64 (nextY s % n : Nat), .int .i64 0]) ∧ Upd w.heap.size b (nextS s) w w' := by
  have hY : nextY s < two64 := outY_lt (nextX_lt _)
  have hlt := hd.lt
  have h1 := hd.c1
  have HD := Lib.hid hd
  clear hd
  have hn0 : ¬ ((n : Int) < 1) := by omega
  go_enter Try.func37, Try.ntmps37
  go_wp2_with fail
  refine (valid_yes _ _ h1).mono ?_
  rintro e w' ⟨rfl, rfl⟩
  go_wp2_with fail
  refine (Next_upd b s w.heap.size _ HD.out hlt).mono ?_
  rintro e w1 ⟨rfl, hu, hs⟩
  have HU := Lib.hid hu; clear hu hs
  unfold two64 at hY
  generalize hyy : nextY s = y at hY
  have HYY := Lib.hid hyy; clear hyy
  have hm : y % n < n := Nat.mod_lt _ (by omega)
  go_wp2_with fail
  go_ret2
  refine ⟨?_, HU.out⟩
  rw [HYY.out]; simp
end Go.Proofs.Ythmooplhhkafcaa
