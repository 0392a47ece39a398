/- Contracts of Parse and Text of the reference, and of same. Conditions: as each statement says. -/
import Derived.Test.YtdgmjedkhjeadaaBuilder
import Derived.Test.YtdgmjedkhjeadaaZip
namespace Go.Proofs.Ytdgmjedkhjeadaa
open Go.RowKit
set_option linter.unusedVariables false
set_option linter.unusedSimpArgs false
theorem conv_bytes {w : World} {B n : Nat} {A : Option Addr} (c : Nat) (l : List UInt8) (h : Rd w B 1 A n (Lib.byteCells l)) : (convert 58 9 (.slice A n c)).run Try.prog w = .ok (.string ⟨l.toArray⟩) w := by
  have hl : l.length = n := by have := h.1; simpa [Lib.byteCells] using this
  subst hl
  cases A with
  | some a =>
    refine run_convert_bytes_back w _ _ _ a c l Try.underlying58 Try.underlying5 Try.underlying9 fun j hj => ?_
    obtain ⟨b, off, hA, _, hc⟩ := h.2 (by omega)
    cases hA
    rw [addr_add]
    exact hc j _ (by simp [Lib.byteCells, hj])
  | none =>
    have h0 : l = [] := by
      cases l with
      | nil => rfl
      | cons x l => obtain ⟨b, off, hA, _⟩ := h.2 (by simp); cases hA
    subst h0
    rw [run_convert_bytes_string w _ _ _ _ _ _ Try.underlying58 Try.underlying5 Try.underlying9]
    simp [Conv.bytesToString]
    rfl
theorem bitsOf_snoc (l : List UInt8) (c : UInt8) : bitsOf (l ++ [c]) = bitsOf l ++ [c == 49] := by simp [bitsOf]
/-- What the reference's Parse returns. -/
def RefParsePost (s : ByteArray) (w : World) (e : Ending) (w' : World) : Prop :=
  (AllBits s.data.toList ∧ RetOwn w 4 1 s.size ((bitsOf s.data.toList).map Value.bool) (fun v => .tuple #[v, .bool true]) e w') ∨
  (¬ AllBits s.data.toList ∧ e = .returned (.tuple #[.slice none 0 0, .bool false]) ∧ Below w.heap.size w w')
/-- A second store into the cell that was filled last. -/
theorem row_over {wi : World} {h j : Nat} {t : TypeId} {xs ys : List Value} {z u : Value} (hh : wi.heap[h]? = some (.cells ((xs ++ [z]) ++ ys).toArray t (0, 0))) (hx : xs.length = j) :
    (wi.setCell ⟨h, j, none⟩ u).heap[h]? = some (.cells ((xs ++ [u]) ++ ys).toArray t (0, 0)) := by
  simp only [World.setCell, Array.getElem?_modify, hh, if_true, Option.map_some, Option.isSome_none, Bool.false_eq_true, if_false]
  congr 2
  apply Array.ext'
  subst hx
  simp
theorem textOf_take {bs : List Bool} {k : Nat} (h : k < bs.length) : Lib.byteCells (textOf (bs.take (k + 1))) = Lib.byteCells (textOf (bs.take k)) ++ [.int .u8 (if bs[k] then 49 else 48)] := by
  rw [take_snoc _ _ h]
  unfold textOf
  rw [List.map_append, List.map_cons, List.map_nil, byteCells_snoc]
  cases bs[k] <;> rfl
end Go.Proofs.Ytdgmjedkhjeadaa
