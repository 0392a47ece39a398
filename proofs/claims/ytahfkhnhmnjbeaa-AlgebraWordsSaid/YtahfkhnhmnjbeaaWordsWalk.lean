/- The walk of AlgebraWords: it returns true for every width and number. -/
import Derived.Test.YtahfkhnhmnjbeaaProg
import Derived.Test.YtahfkhnhmnjbeaaKnown
import Derived.Test.YtahfkhnhmnjbeaaRefw
namespace Go.Proofs.Ytahfkhnhmnjbeaa
open Go.RowKit
set_option maxHeartbeats 1000000 in
theorem AlgebraWords_walk (n m : Int) (w : World) (_ : -9223372036854775808 ≤ n ∧ n ≤ 9223372036854775807) (_ : -9223372036854775808 ≤ m ∧ m ≤ 9223372036854775807) :
    Calls Try.prog 4 #[.int .i64 n, .int .i64 m] w fun e w' => e = .returned (.bool true) ∧ Below w.heap.size w w' := by
  by_cases hw : isWB n = true
  · have hn : n = 8 ∨ n = 16 ∨ n = 32 := by simpa [isWB, or_assoc] using hw
    have hn0 : 8 ≤ n := by omega
    have hn1 : n ≤ 32 := by omega
    clear hn
    by_cases hm : m < 0
    · have HR := Lib.hid (show wordsR n m = (0, 3) by unfold wordsR; rw [if_neg (by rw [elemE_nil, hw]; simp), if_pos (by omega)])
      go_enter Try.func4, Try.ntmps4
      go_wp2_with fail
      refine (Words_any _ _ _).mono ?_
      rw [HR.out]
      rintro e w' ⟨rfl, rfl⟩
      go_wp2_with fail
      refine (Width_any _ _).mono ?_
      rintro e w' ⟨rfl, rfl⟩
      go_wp2_with fail
      refine (known_any _).mono ?_
      rintro e w' ⟨rfl, hb⟩
      go_wp2_with fail
      go_ret
      exact ⟨rfl, hb⟩
    · by_cases hm2 : m > 65536
      · have HR := Lib.hid (show wordsR n m = (0, 3) by unfold wordsR; rw [if_neg (by rw [elemE_nil, hw]; simp), if_pos (by omega)])
        go_enter Try.func4, Try.ntmps4
        go_wp2_with fail
        refine (Words_any _ _ _).mono ?_
        rw [HR.out]
        rintro e w' ⟨rfl, rfl⟩
        go_wp2_with fail
        refine (Width_any _ _).mono ?_
        rintro e w' ⟨rfl, rfl⟩
        go_wp2_with fail
        refine (known_any _).mono ?_
        rintro e w' ⟨rfl, hb⟩
        go_wp2_with fail
        go_ret
        exact ⟨rfl, hb⟩
      · have HR := Lib.hid (show wordsR n m = (m / n + 2, 0) by unfold wordsR; rw [if_neg (by rw [elemE_nil, hw]; simp), if_neg (by omega)])
        have hd0 : 0 ≤ m / n := Int.ediv_nonneg (by omega) (by omega)
        have hd1 : m / n ≤ m := Int.ediv_le_self _ (by omega)
        go_enter Try.func4, Try.ntmps4
        go_wp2_with fail
        refine (Words_any _ _ _).mono ?_
        rw [HR.out]
        rintro e w' ⟨rfl, rfl⟩
        go_wp2_with fail
        refine (Width_any _ _).mono ?_
        rintro e w' ⟨rfl, rfl⟩
        go_wp2_with fail
        refine (known_any _).mono ?_
        rintro e w' ⟨rfl, hb⟩
        go_wp2_with fail
        go_ret
        exact ⟨rfl, hb⟩
  · have hw' : isWB n = false := by simpa using hw
    clear hw
    have HR := Lib.hid (show wordsR n m = (0, 2) by unfold wordsR; rw [if_pos (by rw [elemE_nil, hw']; simp), elemE_nil, hw']; rfl)
    go_enter Try.func4, Try.ntmps4
    go_wp2_with fail
    refine (Words_any _ _ _).mono ?_
    rw [HR.out]
    rintro e w' ⟨rfl, rfl⟩
    go_wp2_with fail
    refine (Width_any _ _).mono ?_
    rintro e w' ⟨rfl, rfl⟩
    go_wp2_with fail
    refine (known_any _).mono ?_
    rintro e w' ⟨rfl, hb⟩
    go_wp2_with fail
    go_ret
    exact ⟨rfl, hb⟩
end Go.Proofs.Ytahfkhnhmnjbeaa
