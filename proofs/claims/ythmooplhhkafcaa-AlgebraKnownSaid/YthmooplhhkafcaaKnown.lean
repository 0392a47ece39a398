/- The examples of the chapter that each statement begins or ends with hold: 'known' returns true in every world. -/
import Derived.Test.YthmooplhhkafcaaProg
import Derived.Test.YthmooplhhkafcaaBuilder
import Derived.Test.YthmooplhhkafcaaShare
namespace Go.Proofs.Ythmooplhhkafcaa
open Go.RowKit
def bs0 : List Bool := [true, true, false, true]
theorem parse_known (w : World) :
    Calls Try.prog 13 #[.string ⟨#[49, 49, 48, 49]⟩] w (RetOwn w 4 1 4 (bs0.map Value.bool) (fun v => .tuple #[v, .int .i64 0])) := by
  refine (Parse_any ⟨#[49, 49, 48, 49]⟩ w (by decide)).mono fun e w' h => ?_
  rcases h with ⟨_, h⟩ | ⟨h, _⟩
  · exact h
  · exact absurd (show ∀ c ∈ ([49, 49, 48, 49] : List UInt8), c = 48 ∨ c = 49 by decide) h
theorem mul_known (w : World) :
    Calls Try.prog 50 #[.int .i64 8, .int .u64 87, .int .u64 131] w fun e w' => e = .returned (.tuple #[.int .u64 193, .int .i64 0]) ∧ Below w.heap.size w w' := Mul_any 8 87 131 w
theorem parity_known (A : Option Addr) (c : Nat) (w : World) (B : Nat) (h : Rd w B 1 A 4 (bs0.map Value.bool)) :
    Calls Try.prog 51 #[.slice A 4 c] w fun e w' => e = .returned (.bool true) ∧ w = w' := Parity_any A 4 c bs0 w B (by omega) h
theorem count_known (A : Option Addr) (c : Nat) (w : World) (B : Nat) (h : Rd w B 1 A 4 (bs0.map Value.bool)) :
    Calls Try.prog 52 #[.slice A 4 c] w fun e w' => e = .returned (.int .i64 3) ∧ w = w' := Count_any A 4 c bs0 w B (by omega) h
theorem text_known (A : Option Addr) (c : Nat) (w : World) (h : Rd w w.heap.size 1 A 4 (bs0.map Value.bool)) :
    Calls Try.prog 14 #[.slice A 4 c] w fun e w' => e = .returned (.string ⟨#[49, 49, 48, 49]⟩) ∧ Below w.heap.size w w' := Text_any A 4 c bs0 w (by omega) h
theorem split_known (a b c c' : Nat) (w : World) (hc' : 1 ≤ c') (h : Rd w w.heap.size 1 (some ⟨a, 0, none⟩) 1 [.int .u8 5]) (h' : Rd w w.heap.size 1 (some ⟨b, 0, none⟩) 1 [.int .u8 3]) :
    Calls Try.prog 25 #[.slice (some ⟨a, 0, none⟩) 1 c, .int .i64 3, .int .i64 2, .slice (some ⟨b, 0, none⟩) 1 c'] w
      fun e w' => e = .returned (.tuple #[.slice (some ⟨w.heap.size, 0, none⟩) 3 3, .int .i64 0]) ∧ w'.cell? ⟨w.heap.size, 3, none⟩ = some (.slice (some ⟨w.heap.size + 2, 0, none⟩) 1 1) ∧ w'.cell? ⟨w.heap.size + 2, 0, none⟩ = some (.int .u8 3) ∧ w.heap.size + 2 < w'.heap.size ∧ Below w.heap.size w w' := by
  refine (Split_ok _ _ 1 c 1 c' 3 1 [5] [3] w (by omega) (by omega) (by omega) (by omega) rfl hc' (by intro x hx; simp at hx; omega) (by intro x hx; simp at hx; omega) h h').mono fun e w' ⟨he, hS, hb⟩ => ?_
  obtain ⟨hsz, cs, hB, _, hsh⟩ := hS
  obtain ⟨_, h2, h3⟩ := hsh 1 (by omega)
  refine ⟨he, ?_, ?_, by omega, hb⟩
  · rw [cell_of_row _ _ _ _ _ _ hB]; exact h2
  · rw [cell_of_row _ _ _ _ _ _ h3]; rfl

set_option maxHeartbeats 1000000 in
theorem known_any (w : World) : Calls Try.prog 12 #[] w fun e w' => e = .returned (.bool true) ∧ Below w.heap.size w w' := by
  go_enter Try.func12, Try.ntmps12
  go_wp2_with fail
  refine (parse_known w).mono ?_
  rintro e w1 ⟨A, c, rfl, hc, hown, hb1⟩
  have hr1 := Rd.own hown
  clear hown
  go_wp2_with fail
  refine (mul_known w1).mono ?_
  rintro e w2 ⟨rfl, hb2⟩
  have hr2 := hr1.below hb2
  have s1 := hb1.size
  have s2 := hb2.size
  clear hr1
  go_wp2_with fail
  refine (split_known _ _ _ _ _ (Nat.le_refl _) ?_ ?_).mono ?_
  · refine Rd.mono ((Rd.new w2 #[.int .u8 5] 5 1 1 rfl).alloc (by simp) _) ?_
    simp
  · have hq := Rd.new (w2.alloc (.cells #[.int .u8 5] 5)) #[.int .u8 3] 5 1 1 rfl
    rw [World.size_alloc] at hq
    refine Rd.mono hq ?_
    simp
  rintro e w3 ⟨rfl, hc1, hc2, hs3, hb3⟩
  simp only [World.size_alloc] at hc1 hc2 hs3 hb3
  have hr2' := ((hr2.mono (B' := w2.heap.size) s2).alloc (Nat.le_refl _) (.cells #[.int .u8 5] 5)).alloc (by simp) (.cells #[.int .u8 3] 5)
  have hr3 : Rd w3 w3.heap.size 1 A 4 (bs0.map Value.bool) := (hr2'.below (hb3.mono (by omega))).mono (by omega)
  have hb4 : Below w.heap.size w w3 := ((hb1.trans (hb2.mono s1)).alloc (by omega) (.cells #[.int .u8 5] 5)).alloc (by simp; omega) (.cells #[.int .u8 3] 5) |>.trans (hb3.mono (by omega))
  clear hr2 hr2' hb1 hb2 hb3
  go_wp2_with fail
  refine (parity_known _ _ _ _ hr3).mono ?_
  rintro e w' ⟨rfl, rfl⟩
  go_wp2_with fail
  refine (count_known _ _ _ _ hr3).mono ?_
  rintro e w' ⟨rfl, rfl⟩
  go_wp2_with fail
  refine (text_known _ _ _ hr3).mono ?_
  rintro e w4 ⟨rfl, hb5⟩
  have hd1 := (hb5.cell (p := ⟨w2.heap.size + 1 + 1, 3, none⟩) (by show w2.heap.size + 1 + 1 < _; omega)).trans hc1
  have hd2 := (hb5.cell (p := ⟨w2.heap.size + 1 + 1 + 2, 0, none⟩) (by show w2.heap.size + 1 + 1 + 2 < _; omega)).trans hc2
  clear hc1 hc2 hr3
  go_wp2_with fail
  go_ret
  exact ⟨rfl, hb4.trans (hb5.mono (by have := hb4.size; omega))⟩
end Go.Proofs.Ythmooplhhkafcaa
