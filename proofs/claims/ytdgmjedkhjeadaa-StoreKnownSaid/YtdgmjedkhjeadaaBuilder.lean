/- Contracts of strings.Builder's WriteByte and String over this program. Conditions: the builder is one that the call itself has made. -/
import Derived.Test.YtdgmjedkhjeadaaProg
import Derived.Test.YtdgmjedkhjeadaaTypes
import Derived.Lib.Builder
import Derived.Shelf.Strings.Builder1
namespace Go.Proofs.Ytdgmjedkhjeadaa
open Go.RowKit
end Go.Proofs.Ytdgmjedkhjeadaa
/- Contracts of the functions that turn bit strings into texts, numbers and bytes, and back. Conditions: as each statement says. -/
namespace Go.Proofs.Ytdgmjedkhjeadaa
open Go.RowKit

/-- The bits of the bytes 48 and 49. -/
def bitsOf (l : List UInt8) : List Bool := l.map fun c => c == 49
def AllBits (l : List UInt8) : Prop := ∀ c ∈ l, c = 48 ∨ c = 49


theorem AllBits.snoc {l : List UInt8} {c : UInt8} (h : AllBits l) (hc : c = 48 ∨ c = 49) : AllBits (l ++ [c]) := by
  intro x hx
  rcases List.mem_append.1 hx with h1 | h1
  · exact h x h1
  · simp at h1; subst h1; exact hc
/-- What Parse returns: the bits, or an error. -/
def ParsePost (s : ByteArray) (w : World) (e : Ending) (w' : World) : Prop :=
  (AllBits s.data.toList ∧ RetOwn w 4 1 s.size ((bitsOf s.data.toList).map Value.bool) (fun v => .tuple #[v, .int .i64 0]) e w') ∨
  (¬ AllBits s.data.toList ∧ e = .returned (.tuple #[.slice none 0 0, .int .i64 6]) ∧ Below w.heap.size w w')
def ParseRel (s : ByteArray) (w : World) (v : Value) (wr : World) : Prop :=
  ∃ pos, pos ≤ s.size ∧ v = .slice (some ⟨w.heap.size, 0, none⟩) pos s.size ∧ wr.heap[w.heap.size + 1]? = some (.stringIter s pos) ∧
    wr.ownsRow w.heap.size 4 1 (.slice (some ⟨w.heap.size, 0, none⟩) pos s.size) pos ((bitsOf (s.data.toList.take pos)).map Value.bool) ∧ Below w.heap.size w wr ∧ AllBits (s.data.toList.take pos)
theorem parse_step {s : ByteArray} {w wr w1 : World} {pos : Nat} {c : UInt8} (hp : pos < s.size) (hc : s.data.toList[pos]? = some c) (h : c = 48 ∨ c = 49)
    (hit : wr.heap[w.heap.size + 1]? = some (.stringIter s pos)) (hbw : Below w.heap.size w wr) (hall : AllBits (s.data.toList.take pos)) (o : Obj)
    (hown1 : w1.ownsRow w.heap.size 4 1 (.slice (some ⟨w.heap.size, 0, none⟩) (pos + 1) s.size) (pos + 1) ((bitsOf (s.data.toList.take pos)).map Value.bool ++ [.bool (c == 49)]))
    (hg : ((wr.iterAt (w.heap.size + 1) s (pos + 1)).alloc o).grownBy w1 (some w.heap.size)) :
    ParseRel s w (.slice (some ⟨w.heap.size, 0, none⟩) (pos + 1) s.size) w1 ∧ w1.iterPos (w.heap.size + 1) = pos + 1 := by
  have hlt : pos < s.data.toList.length := by simpa using hp
  have e : s.data.toList.take (pos + 1) = s.data.toList.take pos ++ [c] := by
    rw [take_snoc _ _ hlt]
    rw [List.getElem?_eq_getElem hlt] at hc
    rw [Option.some.inj hc]
  have hk : w.heap.size + 1 < wr.heap.size := (Array.getElem?_eq_some_iff.1 hit).1
  have hi2 : (wr.iterAt (w.heap.size + 1) s (pos + 1)).heap[w.heap.size + 1]? = some (.stringIter s (pos + 1)) := Lib.iterAt_heap _ _ _ _ _ hit
  have hsz := Lib.iterAt_size wr (w.heap.size + 1) s (pos + 1)
  have hi3 : w1.heap[w.heap.size + 1]? = some (.stringIter s (pos + 1)) := by
    rw [hg.block _ (by simp; omega) (by simp)]
    rw [Below.heap_alloc _ _ _ (by rw [hsz]; exact hk)]
    exact hi2
  refine ⟨⟨pos + 1, hp, rfl, hi3, ?_, ?_, ?_⟩, iterPos_of hi3⟩
  · rw [e]; simpa [bitsOf] using hown1
  · exact ((Lib.below_iterAt hbw (by omega) s _).alloc (by rw [hsz]; omega) o).grown hg (by simp; omega) (fun k hk => by cases hk; exact Nat.le_refl _)
  · rw [e]; exact hall.snoc h

/-- The text of some bits. -/
def textOf (l : List Bool) : List UInt8 := l.map fun b => if b then 49 else 48
theorem byteCells_snoc (l : List UInt8) (c : UInt8) : Lib.byteCells (l ++ [c]) = Lib.byteCells l ++ [.int .u8 (c.toNat : Int)] := by simp [Lib.byteCells]
end Go.Proofs.Ytdgmjedkhjeadaa
