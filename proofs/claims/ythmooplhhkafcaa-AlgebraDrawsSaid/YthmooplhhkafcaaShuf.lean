/- Contracts of the draws beyond Next: size, Copy, Below, Bits, shuffle, Perm. Conditions: as each statement says. -/
import Derived.Test.YthmooplhhkafcaaDraw
import Derived.Test.YthmooplhhkafcaaTypes
import Derived.Test.YthmooplhhkafcaaOpenInts
import Derived.Test.YthmooplhhkafcaaStr
import Derived.RegionTactic
import Derived.BigRegion
namespace Go.Proofs.Ythmooplhhkafcaa
open Go.RowKit
set_option linter.unusedVariables false
/-- Valid draws with a state lie at block b. -/
structure DrawAt (w : World) (b s : Nat) : Prop where
  c0 : w.cell? ⟨b, 0, none⟩ = some (.int .u64 s)
  c1 : w.cell? ⟨b, 1, none⟩ = some (.bool true)
  fr : w.frozen? ⟨b, 0, none⟩ = false
  lt : b < w.heap.size
/-- w' is w but for new memory from block B on, and the state of the draws at block b. -/
def Upd (B b s : Nat) (w w' : World) : Prop := Below B (w.setCell ⟨b, 0, none⟩ (.int .u64 s)) w'
theorem arr_set_noop {c : Array Value} {o : Nat} {v : Value} (h : c[o]? = some v) : c.setIfInBounds o v = c := by
  apply Array.ext_getElem?
  intro i
  rw [Array.getElem?_setIfInBounds]
  split
  · rename_i e; subst e
    rw [if_pos (Array.getElem?_eq_some_iff.1 h).1, h]
  · rfl
theorem setCell_noop {w : World} {b o : Nat} {v : Value} (h : w.cell? ⟨b, o, none⟩ = some v) : w.setCell ⟨b, o, none⟩ v = w := by
  unfold World.cell? at h
  split at h
  · rename_i c t fz hb
    simp only [Option.isSome_none, Bool.false_eq_true, if_false] at h
    unfold World.setCell
    have : (w.heap.modify b fun | .cells c elem frozen => .cells (if (none : Option Nat).isSome then c else c.setIfInBounds o v) elem frozen | o => o) = w.heap := by
      apply Array.ext_getElem?
      intro k
      rw [Array.getElem?_modify]
      split
      · rename_i hk; subst hk
        rw [hb]
        simp only [Option.map_some, Option.isSome_none, Bool.false_eq_true, if_false]
        rw [arr_set_noop h]
      · rfl
    show { w with heap := _ } = w
    exact (congrArg (fun x => { w with heap := x }) this)
  · cases h
theorem setCell_self {w : World} {b o : Nat} {v : Value} (h : w.cell? ⟨b, o, none⟩ = some v) : (w.setCell ⟨b, o, none⟩ v).cell? ⟨b, o, none⟩ = some v := cell_set h
theorem setCell_frozen (w : World) (p q : Addr) (u : Value) : (w.setCell p u).frozen? q = w.frozen? q := World.frozen?_setCell w p q u
theorem DrawAt.set {w : World} {b s : Nat} (h : DrawAt w b s) (s' : Nat) : DrawAt (w.setCell ⟨b, 0, none⟩ (.int .u64 s')) b s' :=
  ⟨cell_set h.c0, (World.cell?_setCell_other w _ _ _ (by simp)).trans h.c1, (setCell_frozen _ _ _ _).trans h.fr, by rw [size_setCell]; exact h.lt⟩
theorem DrawAt.below {w w' : World} {B b s : Nat} (h : DrawAt w b s) (hb : Below B w w') (hB : b < B) : DrawAt w' b s :=
  ⟨(hb.cell (p := ⟨b, 0, none⟩) hB).trans h.c0, (hb.cell (p := ⟨b, 1, none⟩) hB).trans h.c1, (hb.frozen (p := ⟨b, 0, none⟩) hB).trans h.fr, Nat.lt_of_lt_of_le h.lt hb.size⟩
theorem DrawAt.q {w w' : World} {b s : Nat} (h : DrawAt w b s) (hq : Qw w w') : DrawAt w' b s := by obtain ⟨d, rfl⟩ := hq; exact ⟨h.c0, h.c1, h.fr, h.lt⟩
theorem DrawAt.setOther {w : World} {b s : Nat} (h : DrawAt w b s) {p : Addr} (hp : p.block ≠ b) (u : Value) : DrawAt (w.setCell p u) b s :=
  ⟨(World.cell?_setCell_other w _ _ _ (fun e => hp (by rw [e]))).trans h.c0, (World.cell?_setCell_other w _ _ _ (fun e => hp (by rw [e]))).trans h.c1, (setCell_frozen _ _ _ _).trans h.fr, by rw [size_setCell]; exact h.lt⟩
theorem DrawAt.drew {w : World} {b s : Nat} (h : DrawAt w b s) : DrawAt w.drew b s := ⟨h.c0, h.c1, h.fr, h.lt⟩
theorem Upd.at {w w' : World} {B b s s' : Nat} (h : DrawAt w b s) (hu : Upd B b s' w w') (hB : b < B) : DrawAt w' b s' := (h.set s').below hu hB
theorem Upd.size {w w' : World} {B b s : Nat} (hu : Upd B b s w w') : w.heap.size ≤ w'.heap.size := by have := Below.size hu; rwa [size_setCell] at this
theorem Upd.heap {w w' : World} {B b s : Nat} (hu : Upd B b s w w') {k : Nat} (hk : k < B) (hb : k ≠ b) : w'.heap[k]? = w.heap[k]? := (Below.block hu k hk).trans (Below.heap_setCell _ _ _ _ hb)
theorem Upd.start {w : World} {B b s : Nat} (h : DrawAt w b s) : Upd B b s w w := by
  have e : w.setCell ⟨b, 0, none⟩ (.int .u64 s) = w := setCell_noop h.c0
  unfold Upd; rw [e]; exact Below.refl _ _
theorem Upd.cell {w w' : World} {B b s : Nat} (hu : Upd B b s w w') {p : Addr} (hp : p.block < B) (hne : p.block ≠ b) : w'.cell? p = w.cell? p :=
  (Below.cell hu hp).trans (World.cell?_setCell_other w _ _ _ (fun e => hne (by rw [← e])))
theorem Upd.frozen {w w' : World} {B b s : Nat} (hu : Upd B b s w w') {p : Addr} (hp : p.block < B) : w'.frozen? p = w.frozen? p :=
  (Below.frozen hu hp).trans (setCell_frozen _ _ _ _)
/-- What lies wholly below the draws' block reads as before. -/
theorem Rd.upd {w w' : World} {B b s B0 sz n : Nat} {A : Option Addr} {xs : List Value} (h : Rd w B0 sz A n xs) (hu : Upd B b s w w') (h0 : B0 ≤ b) (hB : b < B) : Rd w' B0 sz A n xs :=
  h.keep fun c o hc => hu.cell (p := ⟨c, o, none⟩) (by show c < B; omega) (by show c ≠ b; omega)
end Go.Proofs.Ythmooplhhkafcaa
