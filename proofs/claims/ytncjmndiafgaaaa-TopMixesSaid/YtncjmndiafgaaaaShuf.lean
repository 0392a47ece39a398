/- Contracts of the draws beyond Next: size, Copy, Below, Bits, shuffle, Perm. Conditions: as each statement says. -/
import Derived.Test.YtncjmndiafgaaaaDraw
import Derived.Test.YtncjmndiafgaaaaOpen
import Derived.Test.YtncjmndiafgaaaaStr
import Derived.RegionTactic
import Derived.BigRegion
import Derived.Test.YtncjmndiafgaaaaDrawMath
import Derived.Test.YtncjmndiafgaaaaApp
namespace Go.Proofs.Ytncjmndiafgaaaa
open Go.RowKit
set_option linter.unusedVariables false
/-- Valid draws with a state lie at block b. -/
structure DrawAt (w : World) (b s : Nat) : Prop where
  c0 : w.cell? ⟨b, 0, none⟩ = some (.int .u64 s)
  c1 : w.cell? ⟨b, 1, none⟩ = some (.bool true)
  fr : w.frozen? ⟨b, 0, none⟩ = false
  lt : b < w.heap.size
/-- w' is w but for new memory from block B on, and the state of the draws at block b. -/
def Upd (B b s : Nat) (w w' : World) : Prop := Below B (w.setCell ⟨b, 0, none⟩ (.int .u64 s)) w'
theorem arr_set_noop {c : Array Value} {o : Nat} {v : Value} (h : c[o]? = some v) : c.setIfInBounds o v = c := by
  apply Array.ext_getElem?
  intro i
  rw [Array.getElem?_setIfInBounds]
  split
  · rename_i e; subst e
    rw [if_pos (Array.getElem?_eq_some_iff.1 h).1, h]
  · rfl
theorem setCell_noop {w : World} {b o : Nat} {v : Value} (h : w.cell? ⟨b, o, none⟩ = some v) : w.setCell ⟨b, o, none⟩ v = w := by
  unfold World.cell? at h
  split at h
  · rename_i c t fz hb
    simp only [Option.isSome_none, Bool.false_eq_true, if_false] at h
    unfold World.setCell
    have : (w.heap.modify b fun | .cells c elem frozen => .cells (if (none : Option Nat).isSome then c else c.setIfInBounds o v) elem frozen | o => o) = w.heap := by
      apply Array.ext_getElem?
      intro k
      rw [Array.getElem?_modify]
      split
      · rename_i hk; subst hk
        rw [hb]
        simp only [Option.map_some, Option.isSome_none, Bool.false_eq_true, if_false]
        rw [arr_set_noop h]
      · rfl
    show { w with heap := _ } = w
    exact (congrArg (fun x => { w with heap := x }) this)
  · cases h
theorem setCell_self {w : World} {b o : Nat} {v : Value} (h : w.cell? ⟨b, o, none⟩ = some v) : (w.setCell ⟨b, o, none⟩ v).cell? ⟨b, o, none⟩ = some v := cell_set h
theorem setCell_frozen (w : World) (p q : Addr) (u : Value) : (w.setCell p u).frozen? q = w.frozen? q := World.frozen?_setCell w p q u
theorem DrawAt.set {w : World} {b s : Nat} (h : DrawAt w b s) (s' : Nat) : DrawAt (w.setCell ⟨b, 0, none⟩ (.int .u64 s')) b s' :=
  ⟨cell_set h.c0, (World.cell?_setCell_other w _ _ _ (by simp)).trans h.c1, (setCell_frozen _ _ _ _).trans h.fr, by rw [size_setCell]; exact h.lt⟩
theorem DrawAt.below {w w' : World} {B b s : Nat} (h : DrawAt w b s) (hb : Below B w w') (hB : b < B) : DrawAt w' b s :=
  ⟨(hb.cell (p := ⟨b, 0, none⟩) hB).trans h.c0, (hb.cell (p := ⟨b, 1, none⟩) hB).trans h.c1, (hb.frozen (p := ⟨b, 0, none⟩) hB).trans h.fr, Nat.lt_of_lt_of_le h.lt hb.size⟩
theorem DrawAt.q {w w' : World} {b s : Nat} (h : DrawAt w b s) (hq : Qw w w') : DrawAt w' b s := by obtain ⟨d, rfl⟩ := hq; exact ⟨h.c0, h.c1, h.fr, h.lt⟩
theorem DrawAt.setOther {w : World} {b s : Nat} (h : DrawAt w b s) {p : Addr} (hp : p.block ≠ b) (u : Value) : DrawAt (w.setCell p u) b s :=
  ⟨(World.cell?_setCell_other w _ _ _ (fun e => hp (by rw [e]))).trans h.c0, (World.cell?_setCell_other w _ _ _ (fun e => hp (by rw [e]))).trans h.c1, (setCell_frozen _ _ _ _).trans h.fr, by rw [size_setCell]; exact h.lt⟩
theorem DrawAt.drew {w : World} {b s : Nat} (h : DrawAt w b s) : DrawAt w.drew b s := ⟨h.c0, h.c1, h.fr, h.lt⟩
theorem Upd.at {w w' : World} {B b s s' : Nat} (h : DrawAt w b s) (hu : Upd B b s' w w') (hB : b < B) : DrawAt w' b s' := (h.set s').below hu hB
theorem Upd.size {w w' : World} {B b s : Nat} (hu : Upd B b s w w') : w.heap.size ≤ w'.heap.size := by have := Below.size hu; rwa [size_setCell] at this
theorem Upd.heap {w w' : World} {B b s : Nat} (hu : Upd B b s w w') {k : Nat} (hk : k < B) (hb : k ≠ b) : w'.heap[k]? = w.heap[k]? := (Below.block hu k hk).trans (Below.heap_setCell _ _ _ _ hb)
theorem Upd.start {w : World} {B b s : Nat} (h : DrawAt w b s) : Upd B b s w w := by
  have e : w.setCell ⟨b, 0, none⟩ (.int .u64 s) = w := setCell_noop h.c0
  unfold Upd; rw [e]; exact Below.refl _ _
theorem Upd.cell {w w' : World} {B b s : Nat} (hu : Upd B b s w w') {p : Addr} (hp : p.block < B) (hne : p.block ≠ b) : w'.cell? p = w.cell? p :=
  (Below.cell hu hp).trans (World.cell?_setCell_other w _ _ _ (fun e => hne (by rw [← e])))
theorem Upd.frozen {w w' : World} {B b s : Nat} (hu : Upd B b s w w') {p : Addr} (hp : p.block < B) : w'.frozen? p = w.frozen? p :=
  (Below.frozen hu hp).trans (setCell_frozen _ _ _ _)
/-- What lies wholly below the draws' block reads as before. -/
theorem Rd.upd {w w' : World} {B b s B0 sz n : Nat} {A : Option Addr} {xs : List Value} (h : Rd w B0 sz A n xs) (hu : Upd B b s w w') (h0 : B0 ≤ b) (hB : b < B) : Rd w' B0 sz A n xs :=
  h.keep fun c o hc => hu.cell (p := ⟨c, o, none⟩) (by show c < B; omega) (by show c ≠ b; omega)
end Go.Proofs.Ytncjmndiafgaaaa
/- Contracts of the draws: size, Copy, Below, Bits. Conditions: as each statement says. -/
namespace Go.Proofs.Ytncjmndiafgaaaa
open Go.RowKit
set_option linter.unusedVariables false
theorem DrawAt.new (w : World) (s : Nat) : DrawAt (w.alloc (.cells #[.int .u64 s, .bool true] 123)) w.heap.size s :=
  ⟨by simp [World.cell?_alloc_new], by simp [World.cell?_alloc_new], by
    exact frozen_of_row _ _ _ _ _ (heap_alloc_new w _), by simp⟩
theorem size_out (b s : Nat) (n : Int) (w : World) (hd : DrawAt w b s) (h : n < 0 ∨ 65536 < n) :
    Calls Try.prog 70 #[.pointer (some ⟨b, 0, none⟩), .int .i64 n] w fun e w' => e = .returned (.int .i64 3) ∧ w = w' := by
  have h3 : n < 0 ∨ (0 ≤ n ∧ 65536 < n) := by omega
  have h1 := hd.c1
  clear hd h
  rcases h3 with h3 | ⟨h3, h4⟩
  all_goals
    go_enter Try.func70, Try.ntmps70
    go_wp2_with (go_at_call 76; refine (valid_yes _ _ h1).mono ?_; rintro e w' ⟨rfl, rfl⟩)
    go_ret
    exact ⟨rfl, rfl⟩
theorem size_in (b s : Nat) (n : Int) (w : World) (hd : DrawAt w b s) (h : 0 ≤ n) (h' : n ≤ 65536) :
    Calls Try.prog 70 #[.pointer (some ⟨b, 0, none⟩), .int .i64 n] w fun e w' => e = .returned (.int .i64 0) ∧ w = w' := by
  have h1 := hd.c1
  clear hd
  go_enter Try.func70, Try.ntmps70
  go_wp2_with (go_at_call 76; refine (valid_yes _ _ h1).mono ?_; rintro e w' ⟨rfl, rfl⟩)
  go_ret
  exact ⟨rfl, rfl⟩
theorem Next_upd (b s B : Nat) (w : World) (hd : DrawAt w b s) (hB : b < B) :
    Calls Try.prog 72 #[.pointer (some ⟨b, 0, none⟩)] w fun e w' => e = .returned (.int .u64 (nextY s)) ∧ Upd B b (nextS s) w w' ∧ w'.heap.size = w.heap.size :=
  (Next_any s b w hd.c0 hd.c1 hd.fr).mono fun e w' ⟨he, hq⟩ => ⟨he, hq.below B, by rw [hq.heap, size_setCell]⟩
end Go.Proofs.Ytncjmndiafgaaaa
/- Contracts of bits that are drawn (the program's and the reference's), of the reference's Next and Below. Conditions: as each statement says. -/
namespace Go.Proofs.Ytncjmndiafgaaaa
open Go.RowKit
set_option linter.unusedVariables false
theorem Upd.mono {w w' : World} {B B' b s : Nat} (h : Upd B b s w w') (hB : B' ≤ B) : Upd B' b s w w' := Below.mono h hB
theorem setCell_set {w : World} {p : Addr} {u v : Value} : ((w.setCell p u).setCell p v) = w.setCell p v := by
  unfold World.setCell
  congr 1
  apply Array.ext_getElem?
  intro k
  rw [Array.getElem?_modify, Array.getElem?_modify, Array.getElem?_modify]
  split
  · cases w.heap[k]? with
    | none => rfl
    | some o =>
      simp only [Option.map_some, Option.some.injEq]
      cases o <;> try rfl
      rename_i c t fz
      simp only [Obj.cells.injEq, and_true]
      split
      · rfl
      · apply Array.ext_getElem?
        intro i
        rw [Array.getElem?_setIfInBounds, Array.getElem?_setIfInBounds, Array.getElem?_setIfInBounds]
        simp only [Array.size_setIfInBounds]
        split <;> simp_all
  · rfl
theorem Below.setBoth {a w : World} {B : Nat} (h : Below B a w) (p : Addr) (u : Value) : Below B (a.setCell p u) (w.setCell p u) := by
  refine ⟨h.os, h.tape, h.output, by rw [size_setCell, size_setCell]; exact h.size, fun k hk => ?_⟩
  have := h.block k hk
  simp only [World.setCell, Array.getElem?_modify, this]
theorem Upd.trans {a w w' : World} {B b s s' : Nat} (h : Upd B b s a w) (k : Upd B b s' w w') : Upd B b s' a w' := by
  have h1 := Below.setBoth h ⟨b, 0, none⟩ (.int .u64 s')
  rw [setCell_set] at h1
  exact Below.trans h1 k
theorem Upd.below {a w w' : World} {B b s : Nat} (h : Upd B b s a w) (k : Below B w w') : Upd B b s a w' := Below.trans h k
theorem Upd.bel0 {a w w' : World} {B b s : Nat} (h : Below B a w) (k : Upd B b s w w') : Upd B b s a w' := Below.trans (Below.setBoth h _ _) k
/-- What is but the draws' state and new memory changes nothing below the draws. -/
theorem Upd.to {a w : World} {B b s B0 : Nat} (h : Upd B b s a w) (h0 : B0 ≤ b) (hB : B0 ≤ B) : Below B0 a w := (((Below.refl B0 a).setCell (p := ⟨b, 0, none⟩) h0 _)).trans (Below.mono h hB)
theorem ownsRow_upd {w w' : World} {base b s : Nat} {t : TypeId} {sz n : Nat} {v : Value} {xs : List Value} (h : w.ownsRow base t sz v n xs) (hu : Upd w.heap.size b s w w') (hb : b < base) : w'.ownsRow base t sz v n xs := by
  refine ⟨h.1, ?_⟩
  rcases h.2 with h1 | ⟨g, cap, cur, hv, hg, hh, rest⟩
  · exact .inl h1
  · refine .inr ⟨g, cap, cur, hv, hg, ?_, rest⟩
    rw [hu.heap (Array.getElem?_eq_some_iff.1 hh).1 (by omega)]; exact hh
theorem fill_get {α : Type} (xs : List α) (z : α) (k n : Nat) (hl : xs.length = k) (h : k < n) : (xs ++ List.replicate (n - k) z)[k]? = some z := by
  rw [List.getElem?_append_right (by omega), hl, Nat.sub_self, List.getElem?_replicate, if_pos (by omega)]
theorem fill_set {α : Type} (xs : List α) (z u : α) (k n : Nat) (hl : xs.length = k) (h : k < n) : (xs ++ List.replicate (n - k) z).set k u = (xs ++ [u]) ++ List.replicate (n - (k + 1)) z := by
  rw [List.set_append_right _ _ (by omega), hl, Nat.sub_self, show n - k = (n - (k + 1)) + 1 by omega, List.replicate_succ]
  simp
theorem bit_odd (y : Nat) : ((y : Int) % 2 == 1) = (y % 2 == 1) := by rw [Bool.eq_iff_iff]; simp; omega
theorem mask_odd {y : Nat} (h : y < two64) : (bits BinOp.and IntKind.u64 (y : Int) 1 == 1) = (y % 2 == 1) := by
  rw [show (1 : Int) = ((1 : Nat) : Int) from rfl, u64_and_nat y 1 h (by decide), Nat.and_one_is_mod, Bool.eq_iff_iff]
  simp; omega
end Go.Proofs.Ytncjmndiafgaaaa
