/- Contracts of Distance, Outside, Pick, Drop (program and reference) and flip. Conditions: as each statement says. -/
import Derived.Test.YtncjmndiafgaaaaZip
import Derived.Laws.OwnMore
namespace Go.Proofs.Ytncjmndiafgaaaa
open Go.RowKit
set_option linter.unusedVariables false
def outB (l : List Int) (n : Nat) : Bool := l.any fun i => decide (i < 0) || decide ((n : Int) ≤ i)
def pickL (b : List Bool) (l : List Int) : List Bool := l.map fun i => b.getD i.toNat false
def dropL (b : List Bool) (l : List Int) (k : Nat) : List Bool := ((List.range k).filter fun i : Nat => !(l.contains (i : Int))).map fun i => b.getD i false
theorem outB_snoc (l : List Int) (n : Nat) (x : Int) : outB (l ++ [x]) n = (outB l n || (decide (x < 0) || decide ((n : Int) ≤ x))) := by simp [outB]
theorem outB_mem {l : List Int} {n : Nat} {x : Int} (h : x ∈ l) (hx : x < 0 ∨ (n : Int) ≤ x) : outB l n = true := by
  unfold outB
  rw [List.any_eq_true]
  exact ⟨x, h, by rcases hx with h | h <;> simp [h]⟩
theorem pickL_snoc (b : List Bool) (l : List Int) (x : Int) : pickL b (l ++ [x]) = pickL b l ++ [b.getD x.toNat false] := by simp [pickL]
theorem pickL_len (b : List Bool) (l : List Int) : (pickL b l).length = l.length := by simp [pickL]
theorem dropL_yes {b : List Bool} {l : List Int} {k : Nat} (h : l.contains (k : Int) = true) : dropL b l (k + 1) = dropL b l k := by
  unfold dropL
  rw [List.range_succ, List.filter_append]
  simp only [List.filter_cons, h, Bool.not_true, Bool.false_eq_true, if_false, List.filter_nil, List.append_nil]
theorem dropL_no {b : List Bool} {l : List Int} {k : Nat} (h : l.contains (k : Int) = false) : dropL b l (k + 1) = dropL b l k ++ [b.getD k false] := by
  unfold dropL
  rw [List.range_succ, List.filter_append, List.map_append]
  simp only [List.filter_cons, h, Bool.not_false, if_true, List.filter_nil, List.map_cons, List.map_nil]
theorem dropL_le (b : List Bool) (l : List Int) (k : Nat) : (dropL b l k).length ≤ k := by
  unfold dropL
  rw [List.length_map]
  exact Nat.le_trans (List.length_filter_le _ _) (by simp)

def PickPost (b : List Bool) (l : List Int) (n m : Nat) (w : World) (e : Ending) (w' : World) : Prop :=
  (outB l n = false ∧ RetOwn w 4 1 m ((pickL b l).map Value.bool) (fun v => .tuple #[v, .int .i64 0]) e w') ∨
  (outB l n = true ∧ e = .returned (.tuple #[.slice none 0 0, .int .i64 3]) ∧ Below w.heap.size w w')
theorem own_apart {w : World} {base S t sz n : Nat} {v1 v2 : Value} {xs : List Value} (h1 : ∀ k, v1.ownBlock = some k → k < S) (h2 : w.ownsRow base t sz v2 n xs) (hS : S ≤ base) : v2.ownBlock = none ∨ v2.ownBlock ≠ v1.ownBlock := by
  cases hv : v2.ownBlock with
  | none => exact .inl rfl
  | some k => exact .inr fun e => by have := (h2.lt k hv).1; have := h1 k e.symm; omega
end Go.Proofs.Ytncjmndiafgaaaa
