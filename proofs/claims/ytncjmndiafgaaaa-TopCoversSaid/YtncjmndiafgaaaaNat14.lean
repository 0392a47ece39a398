/- The contract of fit. Conditions: as each statement says. -/
import Derived.Test.YtncjmndiafgaaaaNat13
namespace Go.Proofs.Ytncjmndiafgaaaa
open Go.RowKit
set_option linter.unusedVariables false
def FitP (l : List Nat) (w : World) (e : Ending) (w' : World) : Prop := ∃ A n c, e = .returned (.tuple #[.slice A n c, .int .i64 0]) ∧ n = l.length ∧ n ≤ c ∧ w'.ownsRow w.heap.size 47 1 (.slice A n c) n (limC l) ∧ Below w.heap.size w w'
theorem fit_any (A : Option Addr) (n c : Nat) (l : List Nat) (w : World) (hn : n ≤ 20000) (h64 : (trimL l).length ≤ 64) (hc : n ≤ c) (h : Rd w w.heap.size 1 A n (limC l)) :
    Calls Try.prog 49 #[.slice A n c] w (FitP (trimL l) w) := by
  have H := Lib.hid h
  have hll : l.length = n := by have := h.1; simpa using this
  have htl : (trimL l).length ≤ n := by have h1 := trimN_le l l.length; rw [trimL_len]; omega
  clear h
  go_enter Try.func49, Try.ntmps49
  go_wp2_with fail
  refine (clone_any A n c l _ (by omega) hc H.out).mono ?_
  rintro e w6 ⟨A2, n2, c2, rfl, hn2, hc2, ho2, hb2⟩
  have hb : ¬ (64 : Int) < (n2 : Int) := by omega
  have HN2 := Lib.hid hn2; have HO2 := Lib.hid ho2; have HB2 := Lib.hid hb2
  clear hn2 ho2 hb2
  go_wp2_with fail
  go_ret2
  exact ⟨_, _, _, rfl, HN2.out, hc2, HO2.out, HB2.out⟩
#print axioms fit_any
end Go.Proofs.Ytncjmndiafgaaaa
