/- Contracts of the inverse of a finite field (Euclid's steps), of bits.Len64 and of Inverse. Conditions: as each statement says. -/
import Derived.Test.YtblilfbhohnbgaaGreatProg
import Derived.Test.YtblilfbhohnbgaaGreatField
import Derived.Test.YtblilfbhohnbgaaGreatMath
import Derived.Shelf.Strconv.Itoa0
import Derived.Lib.ItoaNum
namespace Go.Proofs.YtblilfbhohnbgaaGreat
open Go.RowKit
/-- Euclid's measure in the slots. -/
def eucM (u v : Value) : Nat := Lib.bitLen (intOf u).toNat + Lib.bitLen (intOf v).toNat
theorem bitLen_is {u l : Nat} (h1 : 1 ≤ l) (h2 : 2 ^ (l - 1) ≤ u) (h3 : u < 2 ^ l) (h4 : l ≤ 64) : Lib.bitLen u = l := by
  have hne : u ≠ 0 := by have := Nat.two_pow_pos (l - 1); omega
  obtain ⟨a1, a2, a3⟩ := Lib.bitLenAux_bounds 64 u (Nat.lt_of_lt_of_le h3 (Nat.pow_le_pow_right (by omega) h4)) hne
  exact LenIs.unique (u := u) ⟨a3, fun _ => ⟨a1, a2⟩⟩ hne h2 h3 h1
theorem Euc.m {w a u v x y lu lv : Nat} (hw : IsW w) (h : Euc w a u v x y lu lv) : eucM (.int .u64 u) (.int .u64 v) = lu + lv := by
  have := hw.le; have := h.u4; have := h.v4; have := h.v3
  unfold eucM intOf
  rw [Int.toNat_natCast, Int.toNat_natCast, bitLen_is h.u3 h.u1 h.u2 (by omega), bitLen_is (by omega) h.v1 h.v2 (by omega)]
end Go.Proofs.YtblilfbhohnbgaaGreat
