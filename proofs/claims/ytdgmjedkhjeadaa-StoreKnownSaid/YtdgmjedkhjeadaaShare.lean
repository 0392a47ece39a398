/- Contracts of the functions of the shares of a secret. Conditions: as each statement says. -/
import Derived.Test.YtdgmjedkhjeadaaProg
import Derived.Test.YtdgmjedkhjeadaaBase
import Derived.Test.YtdgmjedkhjeadaaField
import Derived.Test.YtdgmjedkhjeadaaTypes
import Derived.Test.YtdgmjedkhjeadaaTail
import Derived.Test.YtdgmjedkhjeadaaMath
namespace Go.Proofs.Ytdgmjedkhjeadaa
open Go.RowKit

def u8s (l : List Nat) : List Value := l.map fun x : Nat => Value.int .u8 x
/-- Byte j of the share of place x. -/
def shareB (sec co : List Nat) (q x j : Nat) : Nat := gm 8 (valF ((co.drop (j * q)).take q) x) x ^^^ sec.getD j 0
def shareY (sec co : List Nat) (q x n : Nat) : List Nat := (List.range n).map (shareB sec co q x)
theorem shareY_snoc (sec co : List Nat) (q x n : Nat) : shareY sec co q x (n + 1) = shareY sec co q x n ++ [shareB sec co q x n] := by simp [shareY, List.range_succ]
theorem shareY_len (sec co : List Nat) (q x n : Nat) : (shareY sec co q x n).length = n := by simp [shareY]
/-- The first i shares lie in memory: the list's cells in block B, the bytes of share t in block B + 1 + t. -/
def ShareAt (w : World) (B n q : Nat) (sec co : List Nat) (cs : Array Value) (t : Nat) : Prop :=
  cs[t * 2]? = some (.int .u8 ((t : Int) + 1)) ∧ cs[t * 2 + 1]? = some (.slice (some ⟨B + 1 + t, 0, none⟩) n n) ∧
  w.heap[B + 1 + t]? = some (.cells (u8s (shareY sec co q (t + 1) n)).toArray 5 (0, 0))
def RowRel (wo : World) (h n q x : Nat) (sec co : List Nat) (v : Value) (wi : World) : Prop :=
  ∃ j : Nat, j ≤ n ∧ v = .int .i64 j ∧ wo.grownBy wi (some h) ∧ wi.heap.size = wo.heap.size ∧
    wi.heap[h]? = some (.cells (u8s (shareY sec co q x j) ++ List.replicate (n - j) (Value.int .u8 0)).toArray 5 (0, 0))

end Go.Proofs.Ytdgmjedkhjeadaa
