/- AlgebraForms: forms that are too long, and the walk for all of them. -/
import Derived.Test.YtahfkhnhmnjbeaaFormsWalk
namespace Go.Proofs.Ytahfkhnhmnjbeaa
open Go.RowKit
set_option linter.unusedVariables false
set_option maxRecDepth 100000 in
theorem Forms_big (b : BitsArg) (s : ByteArray) (N : Nat) (W : Int) (p : BytesArg) (K : Int) (w : World)
    (hnb : b.n ≤ 9223372036854775807) (hns : s.size ≤ 9223372036854775807) (hnp : p.n ≤ 9223372036854775807) (hb : 800 < b.n ∨ 800 < s.size ∨ 100 < p.n) :
    Calls Try.prog 14 #[.agg #[.slice b.A b.n b.c, .string s, .int .u64 N, .int .i64 W, .slice p.A p.n p.c, .int .i64 K]] w fun e w' => e = .returned (.bool true) ∧ Below w.heap.size w w' := by
  have h3 : (800 : Int) < (b.n : Int) ∨ ((b.n : Int) ≤ 800 ∧ (800 : Int) < (s.size : Int)) ∨ ((b.n : Int) ≤ 800 ∧ (s.size : Int) ≤ 800 ∧ (100 : Int) < (p.n : Int)) := by omega
  clear hb
  rcases h3 with g1 | ⟨g1, g2⟩ | ⟨g1, g2, g3⟩
  all_goals
    go_enter Try.func14, Try.ntmps14
    go_wp2_with (go_at_call 15; refine (known_any _).mono ?_; rintro e w9 ⟨rfl, hb9⟩)
    go_ret
    exact ⟨rfl, ((Below.refl _ _).alloc (Nat.le_refl _) _).trans (hb9.mono (by simp))⟩
theorem AlgebraForms_walk (v0 : Value) (i0 : FormsArg) (w : World) (hx0 : IsForms w v0 i0) :
    Calls Try.prog 14 #[v0] w fun e w' => e = .returned (.bool true) ∧ Below w.heap.size w w' := by
  obtain ⟨u0, u4, rfl, hb, hs, hN, hW, hp, hK⟩ := hx0
  obtain ⟨rfl, a1, a2, a3, a4⟩ := hb
  obtain ⟨rfl, b1, b2, b3, b4, b5⟩ := hp
  unfold maxLen at hs
  by_cases h : 800 < i0.b.n ∨ 800 < i0.s.size ∨ 100 < i0.p.n
  · exact Forms_big _ _ _ _ _ _ w (by omega) (by omega) (by omega) h
  · exact Forms_try _ _ _ _ _ _ w (by omega) (by omega) (by omega) a4 b5 b4 hN hK.2
end Go.Proofs.Ytahfkhnhmnjbeaa
