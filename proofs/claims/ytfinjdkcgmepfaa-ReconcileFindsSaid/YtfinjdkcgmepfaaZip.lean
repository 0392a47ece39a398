/- Contracts of kept, zip and Xor. Conditions: as each statement says. -/
import Derived.Test.YtfinjdkcgmepfaaBits2
import Derived.Test.YtfinjdkcgmepfaaApp
import Derived.Test.YtfinjdkcgmepfaaDrawMath
import Derived.Test.YtfinjdkcgmepfaaDraw
namespace Go.Proofs.Ytfinjdkcgmepfaa
open Go.RowKit
end Go.Proofs.Ytfinjdkcgmepfaa
/- Contracts of the Toeplitz hash (program and reference). Conditions: as each statement says. -/
namespace Go.Proofs.Ytfinjdkcgmepfaa
open Go.RowKit
theorem ownsRow_base {w : World} {base base' : Nat} {t : TypeId} {sz n : Nat} {v : Value} {xs : List Value} (h : w.ownsRow base t sz v n xs) (hb : base' ≤ base) : w.ownsRow base' t sz v n xs := by
  refine ⟨h.1, ?_⟩
  rcases h.2 with h1 | ⟨g, cap, cur, hv, hg, rest⟩
  · exact .inl h1
  · exact .inr ⟨g, cap, cur, hv, by omega, rest⟩
def ToepRel (w : World) (seed a : List Bool) (out : Nat) (v i : Value) (wr : World) : Prop :=
  ∃ k : Nat, k ≤ a.length ∧ i = .int .i64 k ∧ ∃ A c, v = .slice A out c ∧ out ≤ c ∧ wr.ownsRow w.heap.size 4 1 (.slice A out c) out ((toepL seed a out k).map Value.bool) ∧ Below w.heap.size w wr
end Go.Proofs.Ytfinjdkcgmepfaa
/- Contracts of the Toeplitz hash: what is refused; the reference's; SeedBits. Conditions: as each statement says. -/
namespace Go.Proofs.Ytfinjdkcgmepfaa
open Go.RowKit
def seedB (n out : Int) : Int := if 1 ≤ n + out then n + out - 1 else 0
/-- The error of a Toeplitz hash. -/
def toepE (n s : Nat) (out : Int) : Int := if 512 < n then 4 else if out < 0 ∨ 512 < out then 3 else if (s : Int) ≠ seedB n out then 22 else 0
end Go.Proofs.Ytfinjdkcgmepfaa
/- Contracts of the functions between bits and numbers (program and reference): number, Word, Number. Conditions: as each statement says. -/
namespace Go.Proofs.Ytfinjdkcgmepfaa
open Go.RowKit
set_option linter.unusedVariables false
set_option linter.unusedSimpArgs false
def wordV (l : List Bool) : Nat := l.foldl (fun n b => 2 * n + if b then 1 else 0) 0
theorem wordV_snoc (l : List Bool) (b : Bool) : wordV (l ++ [b]) = 2 * wordV l + if b then 1 else 0 := by simp [wordV, List.foldl_append]
theorem wordV_lt (l : List Bool) : wordV l < 2 ^ l.length := by
  suffices h : ∀ (r : List Bool), wordV r.reverse < 2 ^ r.length by have := h l.reverse; simpa using this
  intro r
  induction r with
  | nil => simp [wordV]
  | cons b r ih =>
    rw [List.reverse_cons, wordV_snoc, List.length_cons, Nat.pow_succ]
    split <;> omega
theorem wordV_small (l : List Bool) (k n : Nat) (hk : k < n) (hn : n ≤ 64) : wordV (l.take k) < 9223372036854775808 := by
  refine Nat.lt_of_lt_of_le (wordV_lt _) ?_
  refine Nat.le_trans (Nat.pow_le_pow_right (by omega) (List.length_take_le _ _)) ?_
  exact Nat.le_trans (Nat.pow_le_pow_right (by omega) (show k ≤ 63 by omega)) (by decide)
/-- The bits of a number. -/
def numL (a width : Nat) : List Bool := (List.range width).map fun i => (a / 2 ^ (width - 1 - i)) % 2 == 1
theorem numL_len (a width : Nat) : (numL a width).length = width := by simp [numL]
theorem or_one {q : Nat} (hq : q < 9223372036854775808) : bits BinOp.or IntKind.u64 ((q : Int) * 2) 1 = ((2 * q + 1 : Nat) : Int) := by
  rw [show ((q : Int) * 2) = ((q * 2 : Nat) : Int) by omega, show (1 : Int) = ((1 : Nat) : Int) from rfl, u64_or_nat _ _ (by omega) (by omega)]
  congr 1
  rw [Nat.mul_comm]
  exact (Nat.two_pow_add_eq_or_of_lt (i := 1) (b := 1) (by decide) q).symm
/-- A store into the last of the cells that have not been filled, from the end on. -/
theorem row_put {wi : World} {h q : Nat} {t : TypeId} {xs : List Value} {z u : Value} (hh : wi.heap[h]? = some (.cells (List.replicate (q + 1) z ++ xs).toArray t (0, 0))) :
    (wi.setCell ⟨h, q, none⟩ u).heap[h]? = some (.cells (List.replicate q z ++ (u :: xs)).toArray t (0, 0)) := by
  simp only [World.setCell, Array.getElem?_modify, hh, if_true, Option.map_some, Option.isSome_none, Bool.false_eq_true, if_false]
  congr 2
  apply Array.ext'
  rw [List.replicate_succ']
  simp
theorem numL_drop (a width q : Nat) (hq : q < width) : (numL a width).drop q = ((a / 2 ^ (width - 1 - q)) % 2 == 1) :: (numL a width).drop (q + 1) := by
  rw [List.drop_eq_getElem_cons (by rw [numL_len]; exact hq)]
  simp [numL]
theorem numL_take (a width q : Nat) (hq : q < width) : (numL a width).take (q + 1) = (numL a width).take q ++ [((a / 2 ^ (width - 1 - q)) % 2 == 1)] := by
  rw [take_snoc _ _ (by rw [numL_len]; exact hq)]
  simp [numL]
theorem odd_cast (b : Nat) : ((b : Int) % 2 == 1) = (b % 2 == 1) := by
  rw [Bool.eq_iff_iff]
  simp
  omega
theorem mask_one (b : Nat) (hb : b < 18446744073709551616) : (bits BinOp.and IntKind.u64 (b : Int) 1 == 1) = (b % 2 == 1) := by
  rw [show (1 : Int) = ((1 : Nat) : Int) from rfl, u64_and_nat b 1 hb (by omega), nat_mask1, Bool.eq_iff_iff]
  simp
  omega
end Go.Proofs.Ytfinjdkcgmepfaa
/- Plain mathematics of AlgebraUniform: how many seeds have a hash. No program is in sight. -/
namespace Go.Proofs.Ytfinjdkcgmepfaa
def cU (F : Nat → Nat) : Nat → Nat → Nat
  | 0, _ => 0
  | N + 1, j => cU F N j + if F N = j then 1 else 0
/-- The number of the hash of the seed with a number. -/
def hW (a : List Bool) (m s i : Nat) : Nat := wordV (toepL (numL i s) a m a.length)
theorem hW_lt (a : List Bool) (m s i : Nat) : hW a m s i < 2 ^ m := by
  have := wordV_lt (toepL (numL i s) a m a.length)
  rwa [toepL_len] at this
def wantU (a : List Bool) (n s k : Nat) : Nat := if cnt a = 0 then (if k = 0 then 2 ^ s else 0) else 2 ^ (n - 1)
theorem cU_le (F : Nat → Nat) : ∀ N j, cU F N j ≤ N
  | 0, _ => Nat.le_refl _
  | N + 1, j => by have := cU_le F N j; simp only [cU]; split <;> omega
end Go.Proofs.Ytfinjdkcgmepfaa
