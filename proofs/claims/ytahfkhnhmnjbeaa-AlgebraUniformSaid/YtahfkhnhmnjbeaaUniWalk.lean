/- The walk of AlgebraUniform, joined with its law. -/
import Derived.Test.YtahfkhnhmnjbeaaUni
import Derived.Test.YtahfkhnhmnjbeaaUniLaw2
namespace Go.Proofs.Ytahfkhnhmnjbeaa
open Go.RowKit
set_option maxRecDepth 100000 in
theorem Uni_out (A : Option Addr) (n c o : Nat) (w : World) (hn : n ≤ 9223372036854775807) (ho : o < 256) (hb : n < 1 ∨ 6 < n) :
    Calls Try.prog 7 #[.slice A n c, .int .u8 o] w fun e w' => e = .returned (.bool true) ∧ Below w.heap.size w w' := by
  have hm : ∃ m : Nat, (o : Int) % 5 = (m : Int) ∧ m ≤ 4 := ⟨o % 5, by omega, by omega⟩
  obtain ⟨m, hm, hm4⟩ := hm
  have h2 : (n : Int) < 1 ∨ (¬ (n : Int) < 1 ∧ (6 : Int) < (n : Int)) := by omega
  clear hb
  rcases h2 with g1 | ⟨g0, g1⟩
  all_goals
    go_enter Try.func7, Try.ntmps7
    go_wp2_with (go_at_call 15; refine (known_any _).mono ?_; rintro e w9 ⟨rfl, hb9⟩)
    go_ret
    exact ⟨rfl, hb9⟩
theorem AlgebraUniform_walk (v0 : Value) (i0 : BitsArg) (o : Nat) (w : World) (hx0 : IsBits w v0 i0) (ho : o < 256) :
    Calls Try.prog 7 #[v0, .int .u8 o] w fun e w' => e = .returned (.bool true) ∧ Below w.heap.size w w' := by
  obtain ⟨rfl, a1, a2, a3, a4⟩ := hx0
  by_cases hb : i0.n < 1 ∨ 6 < i0.n
  · exact Uni_out _ _ _ _ w (by omega) ho hb
  · exact Uni_in _ i0.n _ o (o % 5) (i0.n + o % 5 - 1) i0.bs w (by omega) (by omega) (by omega) (by omega) ho rfl (fun j hj => uni_law i0.bs i0.n (o % 5) _ j a3 (by omega) rfl hj) a4
end Go.Proofs.Ytahfkhnhmnjbeaa
