/- Contracts of the Toeplitz hash: what is refused; the reference's; SeedBits. Conditions: as each statement says. -/
import Derived.Test.YthmooplhhkafcaaToep
namespace Go.Proofs.Ythmooplhhkafcaa
open Go.RowKit
def seedB (n out : Int) : Int := if 1 ≤ n + out then n + out - 1 else 0
/-- The error of a Toeplitz hash. -/
def toepE (n s : Nat) (out : Int) : Int := if 512 < n then 4 else if out < 0 ∨ 512 < out then 3 else if (s : Int) ≠ seedB n out then 22 else 0
theorem Toeplitz_bad (A A' : Option Addr) (s cs n c : Nat) (out : Int) (w : World) (hn : n ≤ 1073741824) (he : toepE n s out ≠ 0) :
    Calls Try.prog 48 #[.slice A s cs, .slice A' n c, .int .i64 out] w fun e w' => e = .returned (.tuple #[.slice none 0 0, .int .i64 (toepE n s out)]) ∧ w = w' := by
  by_cases h1 : 512 < n
  · have HE : Hid (toepE n s out = 4) := Lib.hid (by unfold toepE; rw [if_pos h1])
    clear he
    have h1' : (512 : Int) < (n : Int) := by omega
    go_enter Try.func48, Try.ntmps48
    go_wp2
    go_ret2
    exact ⟨by rw [HE.out]; rfl, rfl⟩
  · have h1' : (n : Int) ≤ 512 := by omega
    by_cases h2 : out < 0
    · have HE : Hid (toepE n s out = 3) := Lib.hid (by unfold toepE; rw [if_neg h1, if_pos (.inl h2)])
      clear he
      go_enter Try.func48, Try.ntmps48
      go_wp2
      go_ret2
      exact ⟨by rw [HE.out]; rfl, rfl⟩
    · by_cases h3 : 512 < out
      · have HE : Hid (toepE n s out = 3) := Lib.hid (by unfold toepE; rw [if_neg h1, if_pos (.inr h3)])
        clear he
        go_enter Try.func48, Try.ntmps48
        go_wp2
        go_ret2
        exact ⟨by rw [HE.out]; rfl, rfl⟩
      · have h4 : (s : Int) ≠ seedB n out := by
          intro h4
          apply he
          unfold toepE
          rw [if_neg h1, if_neg (by omega), if_neg (by simpa using h4)]
        have HE : Hid (toepE n s out = 22) := Lib.hid (by unfold toepE; rw [if_neg h1, if_neg (by omega), if_pos h4])
        clear he
        unfold seedB at h4
        by_cases h5 : 1 ≤ (n : Int) + out
        · rw [if_pos h5] at h4
          by_cases h6 : 1 < (n : Int) + out
          · have ht : ((s : Int) != (n : Int) + out - 1) = true := by rw [bne_iff_ne]; exact h4
            clear h4
            go_enter Try.func48, Try.ntmps48
            go_wp2
            go_ret2
            exact ⟨by rw [HE.out]; rfl, rfl⟩
          · have ht : ((s : Int) != 0) = true := by rw [bne_iff_ne]; omega
            clear h4
            go_enter Try.func48, Try.ntmps48
            go_wp2
            go_ret2
            exact ⟨by rw [HE.out]; rfl, rfl⟩
        · rw [if_neg h5] at h4
          have h6 : ¬ 1 < (n : Int) + out := by omega
          have ht : ((s : Int) != 0) = true := by rw [bne_iff_ne]; exact h4
          clear h4
          go_enter Try.func48, Try.ntmps48
          go_wp2
          go_ret2
          exact ⟨by rw [HE.out]; rfl, rfl⟩
end Go.Proofs.Ythmooplhhkafcaa
