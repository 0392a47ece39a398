/- What stays in memory but for some blocks; blocks known whole; rows of numbers. Conditions: as each statement says. -/
import Derived.Test.YtghjlbbalngdhaaGreatDoorProg
import Derived.Test.YtghjlbbalngdhaaGreatDoorPush2
namespace Go.Proofs.YtghjlbbalngdhaaGreatDoor
open Go.RowKit
set_option linter.unusedVariables false
/-- Old memory stays, but for the blocks of a list. -/
structure KeepL (L : List Nat) (w w' : World) : Prop where
  os : w'.os = w.os
  tape : w'.tape = w.tape
  output : w'.output = w.output
  size : w.heap.size ≤ w'.heap.size
  block : ∀ k, k < w.heap.size → k ∉ L → w'.heap[k]? = w.heap[k]?
theorem KeepL.refl (L : List Nat) (w : World) : KeepL L w w := ⟨rfl, rfl, rfl, Nat.le_refl _, fun _ _ _ => rfl⟩
theorem KeepL.trans {L : List Nat} {a b c : World} (h : KeepL L a b) (k : KeepL L b c) : KeepL L a c :=
  ⟨k.os.trans h.os, k.tape.trans h.tape, k.output.trans h.output, Nat.le_trans h.size k.size, fun j h1 h2 => (k.block j (Nat.lt_of_lt_of_le h1 h.size) h2).trans (h.block j h1 h2)⟩
theorem KeepL.to {L L' : List Nat} {a b : World} (h : KeepL L a b) (hL : ∀ k ∈ L, k < a.heap.size → k ∈ L') : KeepL L' a b :=
  ⟨h.os, h.tape, h.output, h.size, fun k h1 h2 => h.block k h1 (fun h3 => h2 (hL k h3 h1))⟩
theorem KeepL.sub {L L' : List Nat} {a b : World} (h : KeepL L a b) (hL : ∀ k ∈ L, k ∈ L') : KeepL L' a b := h.to fun k hk _ => hL k hk
theorem KeepL.set (w : World) (h o : Nat) (u : Value) : KeepL [h] w (w.setCell ⟨h, o, none⟩ u) :=
  ⟨rfl, rfl, rfl, by rw [size_setCell]; exact Nat.le_refl _, fun k _ hk => Below.heap_setCell _ _ _ _ (by simpa using hk)⟩
theorem KeepL.of_below {L : List Nat} {w w' : World} (h : Below w.heap.size w w') : KeepL L w w' := ⟨h.os, h.tape, h.output, h.size, fun k hk _ => h.block k hk⟩
theorem KeepL.alloc (L : List Nat) (w : World) (o : Obj) : KeepL L w (w.alloc o) := .of_below ((Below.refl _ _).alloc (Nat.le_refl _) _)
theorem KeepL.q {L : List Nat} {w w' : World} (h : Qw w w') : KeepL L w w' := .of_below (h.below _)
theorem KeepL.grown {L : List Nat} {w w' : World} {r : Option Nat} (h : w.grownBy w' r) (hr : ∀ k, r = some k → k < w.heap.size → k ∈ L) : KeepL L w w' :=
  ⟨h.os, h.tape, h.output, h.size, fun k hk hL => h.block k hk (fun e => hL (hr k e.symm hk))⟩
theorem KeepL.below {L : List Nat} {w w' : World} {B : Nat} (h : KeepL L w w') (hB : B ≤ w.heap.size) (hL : ∀ k ∈ L, B ≤ k) : Below B w w' :=
  ⟨h.os, h.tape, h.output, h.size, fun k hk => h.block k (by omega) (fun h2 => by have := hL k h2; omega)⟩
theorem KeepL.cell {L : List Nat} {w w' : World} (h : KeepL L w w') {b o : Nat} (hb : b < w.heap.size) (hL : b ∉ L) : w'.cell? ⟨b, o, none⟩ = w.cell? ⟨b, o, none⟩ := World.cell?_of_block (w' := w') (w := w) (a := ⟨b, o, none⟩) (h.block b hb hL)
theorem ownsRow_keepL {L : List Nat} {w w' : World} {base : Nat} {t : TypeId} {sz n : Nat} {v : Value} {xs : List Value} (h : w.ownsRow base t sz v n xs) (hk : KeepL L w w') (hL : ∀ k ∈ L, k < base) : w'.ownsRow base t sz v n xs := by
  refine ⟨h.1, ?_⟩
  rcases h.2 with h1 | ⟨g, cap, cur, rfl, hg1, hh, rest⟩
  · exact .inl h1
  · exact .inr ⟨g, cap, cur, rfl, hg1, (hk.block _ (Array.getElem?_eq_some_iff.1 hh).1 (fun h2 => by have := hL g h2; omega)).trans hh, rest⟩
section
variable {P : Program} {t e : TypeId} {size bytes : Nat}
/-- append of one element that lies in a new block with a number of its own. -/
theorem wpList_pushG {ops : Array Oper} {rest : List Oper} {o : Oper} {a : Act} {Q : Exit → Act → World → Prop} {wa : World} {us : Array Value} {tu : TypeId} (T : ElemB P t e size bytes) (s x : Operand) (hgd : o.guard = none)
    (ho : o.op = .call { callee := .builtin .append, args := #[s, x], argTypes := #[t, t] }) (B : Nat) (n : Nat) (xs : List Value) {v : Value} (hs : a.eval s = v) (hown : wa.ownsRow B e size v n xs) {g : Nat} (hg : wa.heap.size = g)
    (hx : a.eval x = .slice (some ⟨g, 0, none⟩) 1 1) (hus : us.size = size) (h1 : ∀ u ∈ us.toList, u.oneCell' = true) (hn : n ≤ 1099511627776) (hb : bytes ≤ 64) (hB : B ≤ g)
    (h : ∀ v' w', w'.ownsRow B e size v' (n + 1) (xs ++ us.toList) → Below B wa w' → wa.grownBy w' v.ownBlock → Lies v v' (g + 1) → wpList P ops Q rest (a.put o.dst v') w') : wpList P ops Q (o :: rest) a (wa.alloc (.cells us tu)) := by
  subst hg
  exact wpList_pushL T s x hgd ho B n xs hs hown hx hus h1 hn hb hB h
end
/-- A block known whole. -/
def Bk (w : World) (h : Nat) (cs : Array Value) (t : TypeId) : Prop := w.heap[h]? = some (.cells cs t (0, 0))
theorem Bk.lt {w : World} {h : Nat} {cs : Array Value} {t : TypeId} (k : Bk w h cs t) : h < w.heap.size := (Array.getElem?_eq_some_iff.1 k).1
theorem Bk.past {w w' : World} {h B : Nat} {cs : Array Value} {t : TypeId} (k : Bk w h cs t) (hb : Below B w w') (hB : h < B) : Bk w' h cs t := (hb.block h hB).trans k
theorem Bk.keepL {L : List Nat} {w w' : World} {h : Nat} {cs : Array Value} {t : TypeId} (k : Bk w h cs t) (hb : KeepL L w w') (hL : h ∉ L) : Bk w' h cs t := (hb.block h k.lt hL).trans k
theorem Bk.cell {w : World} {h : Nat} {cs : Array Value} {t : TypeId} (k : Bk w h cs t) (i : Nat) : w.cell? ⟨h, i, none⟩ = cs[i]? := by rw [cell_of_row _ _ _ _ _ _ k]
theorem Bk.froz {w : World} {h : Nat} {cs : Array Value} {t : TypeId} (k : Bk w h cs t) (i : Nat) : w.frozen? ⟨h, i, none⟩ = false := by
  have : w.heap[h]? = some (.cells cs t (0, 0)) := k
  rw [World.frozen?, this]; rfl
theorem Bk.new (w : World) (cs : Array Value) (t : TypeId) : Bk (w.alloc (.cells cs t)) w.heap.size cs t := heap_alloc_new w _
theorem Bk.set {w : World} {h : Nat} {cs : Array Value} {t : TypeId} (k : Bk w h cs t) (i : Nat) (u : Value) : Bk (w.setCell ⟨h, i, none⟩ u) h (cs.setIfInBounds i u) t := by
  have : w.heap[h]? = some (.cells cs t (0, 0)) := k
  show (w.setCell ⟨h, i, none⟩ u).heap[h]? = _
  simp only [World.setCell, Array.getElem?_modify, this, if_true, Option.map_some, Option.isSome_none, Bool.false_eq_true, if_false]
theorem Bk.ne {w : World} {h h' : Nat} {cs cs' : Array Value} {t t' : TypeId} (k : Bk w h cs t) (k' : Bk w h' cs' t') (ht : t ≠ t') : h ≠ h' := by
  rintro rfl
  unfold Bk at k k'
  rw [k] at k'
  simp at k'
  exact ht k'.2
/-- A block of numbers. -/
def IRow (w : World) (h : Nat) (l : List Int) : Prop := Bk w h (l.map (Value.int .i64)).toArray 3
theorem IRow.cell {w : World} {h : Nat} {l : List Int} (k : IRow w h l) {i : Nat} (hi : i < l.length) : w.cell? ⟨h, i, none⟩ = some (.int .i64 (l.getD i 0)) := by
  rw [Bk.cell k]
  simp [hi, List.getD_eq_getElem?_getD]
theorem IRow.set {w : World} {h : Nat} {l : List Int} (k : IRow w h l) (i : Nat) (x : Int) : IRow (w.setCell ⟨h, i, none⟩ (.int .i64 x)) h (l.set i x) := by
  have := Bk.set k i (.int .i64 x)
  unfold IRow
  rw [List.map_set]
  simpa using this
theorem IRow.keepL {L : List Nat} {w w' : World} {h : Nat} {l : List Int} (k : IRow w h l) (hb : KeepL L w w') (hL : h ∉ L) : IRow w' h l := Bk.keepL k hb hL
theorem IRow.froz {w : World} {h : Nat} {l : List Int} (k : IRow w h l) (i : Nat) : w.frozen? ⟨h, i, none⟩ = false := Bk.froz k i
theorem IRow.lt {w : World} {h : Nat} {l : List Int} (k : IRow w h l) : h < w.heap.size := Bk.lt k
theorem bnextK {w0 w w' : World} (h : Below w0.heap.size w0 w) (hb : Below w.heap.size w w') : Below w0.heap.size w0 w' := h.trans (hb.mono h.size)
end Go.Proofs.YtghjlbbalngdhaaGreatDoor
