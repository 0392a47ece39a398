/- Contracts of Unpack (reference; the program's to come). Conditions: as each statement says. -/
import Derived.Test.YthmooplhhkafcaaPack
namespace Go.Proofs.Ythmooplhhkafcaa
open Go.RowKit
set_option linter.unusedVariables false
set_option linter.unusedSimpArgs false
/-- Bit i of bytes. -/
def bitU (p : List Nat) (i : Nat) : Bool := (p.getD (i / 8) 0 / 2 ^ (7 - i % 8)) % 2 == 1
def unL (p : List Nat) (k : Nat) : List Bool := (List.range k).map (bitU p)
def okU (p : List Nat) (n k : Nat) : Bool := (List.range k).all fun i => decide (i < n) || !bitU p i
theorem unL_len (p : List Nat) (k : Nat) : (unL p k).length = k := by simp [unL]
theorem unL_snoc (p : List Nat) (k : Nat) : unL p (k + 1) = unL p k ++ [bitU p k] := by simp [unL, List.range_succ]
theorem okU_snoc (p : List Nat) (n k : Nat) : okU p n (k + 1) = (okU p n k && (decide (k < n) || !bitU p k)) := by simp [okU, List.range_succ]
end Go.Proofs.Ythmooplhhkafcaa
