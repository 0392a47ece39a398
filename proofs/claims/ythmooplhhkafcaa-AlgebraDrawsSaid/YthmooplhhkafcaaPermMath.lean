/- Plain mathematics of draws in a row: bits, orders. No program is in sight. -/
import Derived.Test.YthmooplhhkafcaaDrawMath
namespace Go.Proofs.Ythmooplhhkafcaa
set_option linter.unusedVariables false
/-- The state behind k draws. -/
def stN : Nat → Nat → Nat
  | 0, s => s
  | k + 1, s => nextS (stN k s)
theorem stN_lt {s : Nat} (hs : s < two64) : ∀ k, stN k s < two64
  | 0 => hs
  | k + 1 => nextS_lt _
def bitsD (k s : Nat) : List Bool := (List.range k).map fun i => nextY (stN i s) % 2 == 1
theorem bitsD_snoc (k s : Nat) : bitsD (k + 1) s = bitsD k s ++ [nextY (stN k s) % 2 == 1] := by simp [bitsD, List.range_succ]
theorem bitsD_len (k s : Nat) : (bitsD k s).length = k := by simp [bitsD]
/-- Two elements of a list exchanged. -/
def swapL (l : List Int) (i j : Nat) : List Int := (l.set i (l.getD j 0)).set j (l.getD i 0)
theorem swapL_len (l : List Int) (i j : Nat) : (swapL l i j).length = l.length := by simp [swapL]
/-- The shuffle from index i down: the state and the list. -/
def shuf : Nat → Nat → List Int → Nat × List Int
  | 0, s, l => (s, l)
  | i + 1, s, l => shuf i (nextS s) (swapL l (i + 1) (nextY s % (i + 2)))
theorem shuf_len : ∀ i s l, (shuf i s l).2.length = l.length
  | 0, _, _ => rfl
  | i + 1, s, l => by rw [shuf, shuf_len i, swapL_len]
def idL (n : Nat) : List Int := (List.range n).map fun i : Nat => (i : Int)
theorem idL_len (n : Nat) : (idL n).length = n := by simp [idL]
theorem idL_snoc (n : Nat) : idL (n + 1) = idL n ++ [(n : Int)] := by simp [idL, List.range_succ]
/-- The order of n things that is drawn from a state, and the state behind it. -/
def permL (s n : Nat) : List Int := (shuf (n - 1) s (idL n)).2
def permS (s n : Nat) : Nat := (shuf (n - 1) s (idL n)).1
theorem permL_len (s n : Nat) : (permL s n).length = n := by rw [permL, shuf_len, idL_len]
theorem shuf_lt : ∀ i s l, s < two64 → (shuf i s l).1 < two64
  | 0, _, _, h => h
  | i + 1, s, l, _ => shuf_lt i _ _ (nextS_lt s)
theorem permS_lt (s n : Nat) (h : s < two64) : permS s n < two64 := shuf_lt _ _ _ h
/-- What is exchanged is a permutation. -/
theorem swapL_perm (l : List Int) (i j : Nat) (hi : i < l.length) (hj : j < l.length) : (swapL l i j).Perm l := by
  have e1 : l.getD j 0 = l[j] := by simp [List.getD, List.getElem?_eq_getElem hj]
  have e2 : l.getD i 0 = l[i] := by simp [List.getD, List.getElem?_eq_getElem hi]
  rw [swapL, e1, e2]
  exact List.set_set_perm hi hj
theorem shuf_perm : ∀ i s l, i < l.length ∨ i = 0 → (shuf i s l).2.Perm l
  | 0, _, l, _ => List.Perm.refl _
  | i + 1, s, l, h => by
    have hl : i + 1 < l.length := by omega
    refine (shuf_perm i _ _ (by rw [swapL_len]; omega)).trans (swapL_perm l _ _ hl ?_)
    exact Nat.lt_of_lt_of_le (Nat.mod_lt _ (by omega)) hl
theorem permL_perm (s n : Nat) : (permL s n).Perm (idL n) := shuf_perm _ _ _ (by rw [idL_len]; omega)
end Go.Proofs.Ythmooplhhkafcaa
