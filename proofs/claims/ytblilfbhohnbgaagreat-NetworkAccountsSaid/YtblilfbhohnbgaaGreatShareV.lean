/- Lists of shares in memory: what they read as; own lists; the comparison of two lists. Conditions: as each statement says. -/
import Derived.Test.YtblilfbhohnbgaaGreatPush
import Derived.Test.YtblilfbhohnbgaaGreatShare
import Derived.Test.YtblilfbhohnbgaaGreatForms2
import Derived.Test.YtblilfbhohnbgaaGreatMath
import Derived.Test.YtblilfbhohnbgaaGreatZip
import Derived.Test.YtblilfbhohnbgaaGreatField
import Derived.Deep.RegionHeld3
namespace Go.Proofs.YtblilfbhohnbgaaGreat
open Go.RowKit
set_option linter.unusedVariables false
/-- A share in memory: its place, its slice, its bytes. -/
structure ShareV where
  X : Nat
  A : Option Addr
  n : Nat
  c : Nat
  Y : List Nat
def ShareV.view (s : ShareV) : Nat × List Nat := (s.X, s.Y)
def shCells : List ShareV → List Value
  | [] => []
  | s :: l => .int .u8 s.X :: .slice s.A s.n s.c :: shCells l
theorem shCells_len : ∀ l : List ShareV, (shCells l).length = l.length * 2
  | [] => rfl
  | _ :: l => by simp [shCells, shCells_len l]; omega
theorem shCells_snoc : ∀ (l : List ShareV) (s : ShareV), shCells (l ++ [s]) = shCells l ++ [.int .u8 s.X, .slice s.A s.n s.c]
  | [], _ => rfl
  | _ :: l, s => by simp [shCells, shCells_snoc l s]
theorem shCells_0 : ∀ (l : List ShareV) (i : Nat) (h : i < l.length), (shCells l)[i * 2]? = some (.int .u8 (l[i]).X)
  | [], _, h => by simp at h
  | s :: l, 0, _ => rfl
  | s :: l, i + 1, h => by
    rw [Nat.add_mul]; exact shCells_0 l i (by simpa using h)
theorem shCells_1 : ∀ (l : List ShareV) (i : Nat) (h : i < l.length), (shCells l)[i * 2 + 1]? = some (.slice (l[i]).A (l[i]).n (l[i]).c)
  | [], _, h => by simp at h
  | s :: l, 0, _ => rfl
  | s :: l, i + 1, h => by
    rw [Nat.add_mul]; exact shCells_1 l i (by simpa using h)
/-- What is asked of a share that is read. -/
def ShareV.ok (w : World) (B : Nat) (s : ShareV) : Prop := s.X < 256 ∧ Bytes s.Y ∧ s.n ≤ s.c ∧ s.n ≤ 1073741824 ∧ s.Y.length = s.n ∧ Rd w B 1 s.A s.n (u8s s.Y)
/-- The slice (A, n) reads as the shares l. -/
def ShR (w : World) (B : Nat) (A : Option Addr) (n : Nat) (l : List ShareV) : Prop := l.length = n ∧ Rd w B 2 A n (shCells l) ∧ ∀ s ∈ l, s.ok w B
theorem ShareV.ok.keep {w w' : World} {B : Nat} {s : ShareV} (h : s.ok w B) (hk : ∀ b o, b < B → w'.cell? ⟨b, o, none⟩ = w.cell? ⟨b, o, none⟩) : s.ok w' B := ⟨h.1, h.2.1, h.2.2.1, h.2.2.2.1, h.2.2.2.2.1, h.2.2.2.2.2.keep hk⟩
theorem ShareV.ok.mono {w : World} {B B' : Nat} {s : ShareV} (h : s.ok w B) (hB : B ≤ B') : s.ok w B' := ⟨h.1, h.2.1, h.2.2.1, h.2.2.2.1, h.2.2.2.2.1, h.2.2.2.2.2.mono hB⟩
section
variable {w w' : World} {B B' n : Nat} {A : Option Addr} {l : List ShareV}
theorem ShR.keep (h : ShR w B A n l) (hk : ∀ b o, b < B → w'.cell? ⟨b, o, none⟩ = w.cell? ⟨b, o, none⟩) : ShR w' B A n l := ⟨h.1, h.2.1.keep hk, fun s hs => (h.2.2 s hs).keep hk⟩
theorem ShR.mono (h : ShR w B A n l) (hB : B ≤ B') : ShR w B' A n l := ⟨h.1, h.2.1.mono hB, fun s hs => (h.2.2 s hs).mono hB⟩
theorem ShR.below (h : ShR w B A n l) (hb : Below B w w') : ShR w' B A n l := h.keep fun b o hlt => hb.cell (p := ⟨b, o, none⟩) hlt
theorem ShR.q (h : ShR w B A n l) (hq : Qw w w') : ShR w' B A n l := h.keep fun _ _ _ => hq.cell _
theorem ShR.drew (h : ShR w B A n l) : ShR w.drew B A n l := h
end
/-- Rows of different types lie in different blocks. -/
theorem ownsRow_ne {w : World} {b1 b2 t1 t2 s1 s2 n1 n2 : Nat} {v1 v2 : Value} {x1 x2 : List Value} (h1 : w.ownsRow b1 t1 s1 v1 n1 x1) (h2 : w.ownsRow b2 t2 s2 v2 n2 x2) (hne : t1 ≠ t2) : ∀ k, v1.ownBlock = some k → some k ≠ v2.ownBlock := by
  intro k hk e
  rcases h1.2 with ⟨rfl, _⟩ | ⟨g1, c1, cur1, rfl, _, hg1, _⟩
  · cases hk
  · rcases h2.2 with ⟨rfl, _⟩ | ⟨g2, c2, cur2, rfl, _, hg2, _⟩
    · cases e
    · simp only [Value.ownBlock, Option.some.injEq] at hk e
      subst hk
      rw [← e, hg1] at hg2
      injection hg2 with hg2
      injection hg2 with _ ht _
      exact hne ht
/-- A list of shares of the call's own, each with a row of bytes of its own. -/
def ShareV.own (w : World) (base : Nat) (s : ShareV) : Prop := s.X < 256 ∧ Bytes s.Y ∧ s.n ≤ s.c ∧ s.n ≤ 1073741824 ∧ s.Y.length = s.n ∧ (0 < s.n → w.ownsRow base 5 1 (.slice s.A s.n s.c) s.n (u8s s.Y))
def ShOwn (w : World) (base : Nat) (v : Value) (n : Nat) (l : List ShareV) : Prop := l.length = n ∧ w.ownsRow base 129 2 v n (shCells l) ∧ ∀ s ∈ l, s.own w base
theorem ShareV.own.ok {w : World} {base : Nat} {s : ShareV} (h : s.own w base) : s.ok w w.heap.size :=
  ⟨h.1, h.2.1, h.2.2.1, h.2.2.2.1, h.2.2.2.2.1, ⟨by simp [u8s, h.2.2.2.2.1], fun h0 => (Rd.own (h.2.2.2.2.2 h0)).2 h0⟩⟩
theorem ShOwn.rd {w : World} {base n c : Nat} {A : Option Addr} {l : List ShareV} (h : ShOwn w base (.slice A n c) n l) : ShR w w.heap.size A n l := ⟨h.1, Rd.own h.2.1, fun s hs => (h.2.2 s hs).ok⟩
theorem ShOwn.nil (w : World) (base : Nat) : ShOwn w base (.slice none 0 0) 0 [] := ⟨rfl, World.ownsRow_nil _ _ _ _, fun _ h => by cases h⟩
/-- What is made beyond leaves it. -/
theorem ShOwn.past {w w' : World} {base n : Nat} {v : Value} {l : List ShareV} (h : ShOwn w base v n l) (hb : Below w.heap.size w w') : ShOwn w' base v n l :=
  ⟨h.1, ownsRow_below h.2.1 hb (Nat.le_refl _), fun s hs => by
    obtain ⟨h1, h2, h3, h4, h5, h6⟩ := h.2.2 s hs
    exact ⟨h1, h2, h3, h4, h5, fun h0 => ownsRow_below (h6 h0) hb (Nat.le_refl _)⟩⟩
/-- One share more. -/
theorem ShOwn.push {w w' : World} {base n : Nat} {v v' : Value} {l : List ShareV} {s : ShareV} (h : ShOwn w base v n l) (hs : s.own w base) (hrow : w'.ownsRow base 129 2 v' (n + 1) (shCells l ++ [.int .u8 s.X, .slice s.A s.n s.c])) (hg : w.grownBy w' v.ownBlock) :
    ShOwn w' base v' (n + 1) (l ++ [s]) := by
  have hT : (5 : Nat) ≠ 129 := by decide
  refine ⟨by simp [h.1], by rw [shCells_snoc]; exact hrow, fun t ht => ?_⟩
  have key : ∀ t : ShareV, t.own w base → t.own w' base := fun t ⟨h1, h2, h3, h4, h5, h6⟩ => ⟨h1, h2, h3, h4, h5, fun h0 => ownsRow_grown (h6 h0) hg (ownsRow_ne (h6 h0) h.2.1 hT)⟩
  rcases List.mem_append.1 ht with ht | ht
  · exact key t (h.2.2 t ht)
  · rw [List.mem_singleton.1 ht]; exact key s hs
/-- The call returns a new list of shares with these views. -/
def RetShares (w : World) (n : Nat) (vs : List (Nat × List Nat)) (mk : Value → Value) (e : Ending) (w' : World) : Prop :=
  ∃ A c l, e = .returned (mk (.slice A n c)) ∧ n ≤ c ∧ ShOwn w' w.heap.size (.slice A n c) n l ∧ l.map ShareV.view = vs ∧ Below w.heap.size w w'
theorem RetShares.of {w w' : World} {n : Nat} {l : List ShareV} {vs : List (Nat × List Nat)} {mk : Value → Value} {v : Value} (h : ShOwn w' w.heap.size v n l) (hv : l.map ShareV.view = vs) (hb : Below w.heap.size w w') : RetShares w n vs mk (.returned (mk v)) w' := by
  obtain ⟨A, c, rfl, hc⟩ := own_form h.2.1
  exact ⟨A, c, l, rfl, hc, h, hv, hb⟩
end Go.Proofs.YtblilfbhohnbgaaGreat
namespace Go.Proofs.YtblilfbhohnbgaaGreat
open Go.RowKit
set_option linter.unusedVariables false
theorem shCells_take : ∀ (l : List ShareV) (k : Nat), (shCells l).take (k * 2) = shCells (l.take k)
  | [], k => by simp [shCells]
  | s :: l, 0 => by simp [shCells]
  | s :: l, k + 1 => by
    rw [Nat.add_mul, List.take_succ_cons]
    show Value.int .u8 s.X :: Value.slice s.A s.n s.c :: (shCells l).take (k * 2) = _
    rw [shCells_take l k]; rfl
theorem shCells_drop : ∀ (l : List ShareV) (k : Nat), (shCells l).drop (k * 2) = shCells (l.drop k)
  | [], k => by simp [shCells]
  | s :: l, 0 => by simp [shCells]
  | s :: l, k + 1 => by
    rw [Nat.add_mul, List.drop_succ_cons]
    show (shCells l).drop (k * 2) = _
    exact shCells_drop l k
/-- The first k shares, and all others, of a list that is read. -/
theorem ShR.head {w : World} {B n : Nat} {A A2 : Option Addr} {l : List ShareV} (h : ShR w B A n l) (k : Nat) (hk : k ≤ n) (hr : Rd w B 2 A2 k ((shCells l).take (k * 2))) : ShR w B A2 k (l.take k) :=
  ⟨by rw [List.length_take, h.1]; omega, by rw [← shCells_take]; exact hr, fun s hs => h.2.2 s (List.mem_of_mem_take hs)⟩
theorem ShR.tail {w : World} {B n : Nat} {A A2 : Option Addr} {l : List ShareV} (h : ShR w B A n l) (k : Nat) (hk : k ≤ n) (hr : Rd w B 2 A2 (n - k) (((shCells l).drop (k * 2)).take ((n - k) * 2))) : ShR w B A2 (n - k) (l.drop k) := by
  have e : ((shCells l).drop (k * 2)).take ((n - k) * 2) = shCells (l.drop k) := by
    rw [shCells_drop, List.take_of_length_le (by rw [shCells_len, List.length_drop, h.1]; exact Nat.le_refl _)]
  rw [e] at hr
  exact ⟨by rw [List.length_drop, h.1], hr, fun s hs => h.2.2 s (List.mem_of_mem_drop hs)⟩
/-- What a read of share i takes. -/
theorem ShR.at {w : World} {B n : Nat} {A : Option Addr} {l : List ShareV} (h : ShR w B A n l) {i : Nat} (hi : i < n) :
    ∃ (b off : Nat) (s : ShareV), A = some ⟨b, off, none⟩ ∧ l[i]? = some s ∧ b < B ∧ w.cell? ⟨b, off + i * 2, none⟩ = some (.int .u8 s.X) ∧ w.cell? ⟨b, off + i * 2 + 1, none⟩ = some (.slice s.A s.n s.c) ∧ s.ok w B := by
  obtain ⟨b, off, rfl, hb, hc⟩ := h.2.1.2 (by omega)
  have hl : i < l.length := by rw [h.1]; exact hi
  exact ⟨b, off, l[i], rfl, List.getElem?_eq_getElem hl, hb, hc _ _ (shCells_0 l i hl), hc _ _ (shCells_1 l i hl), h.2.2 _ (List.getElem_mem hl)⟩
/-- What a read of a byte of a share takes. -/
theorem ShareV.ok.at {w : World} {B : Nat} {s : ShareV} (h : s.ok w B) {j : Nat} (hj : j < s.n) : ∃ b off, s.A = some ⟨b, off, none⟩ ∧ b < B ∧ w.cell? ⟨b, off + j, none⟩ = some (.int .u8 (s.Y.getD j 0 : Nat)) := by
  obtain ⟨b, off, hA, hb, hc⟩ := h.2.2.2.2.2.2 (by omega)
  have hl : j < s.Y.length := by rw [h.2.2.2.2.1]; exact hj
  exact ⟨b, off, hA, hb, hc j _ (by simp [u8s, List.getD, List.getElem?_eq_getElem hl])⟩
/-- The call returns bytes and an error. -/
def RetES (w : World) (E : Int) (S : List Nat) (e : Ending) (w' : World) : Prop :=
  ∃ A m c, e = .returned (.tuple #[.slice A m c, .int .i64 E]) ∧ m ≤ c ∧ S.length = m ∧ Rd w' w'.heap.size 1 A m (u8s S) ∧ Below w.heap.size w w'
theorem RetES.nil {w w' : World} (E : Int) (hb : Below w.heap.size w w') : RetES w E [] (.returned (.tuple #[.slice none 0 0, .int .i64 E])) w' := ⟨none, 0, 0, rfl, Nat.le_refl _, rfl, by simpa [u8s] using Rd.nil _ _ _ _, hb⟩
theorem RetES.own {w w' : World} {t n : Nat} {v : Value} {S : List Nat} (h : w'.ownsRow w.heap.size t 1 v n (u8s S)) (hb : Below w.heap.size w w') : RetES w 0 S (.returned (.tuple #[v, .int .i64 0])) w' := by
  obtain ⟨A, c, rfl, hc⟩ := own_form h
  exact ⟨A, n, c, rfl, hc, by have := h.1; simpa [u8s] using this, Rd.own h, hb⟩
/-- What stays of the shares while the first i of them are written. -/
structure Chg (B i : Nat) (w0 w : World) : Prop where
  size : w.heap.size = w0.heap.size
  bel : Below (B + 1) w0 w
  far : ∀ b, B + 1 + i ≤ b → w.heap[b]? = w0.heap[b]?
theorem Chg.refl (B i : Nat) (w : World) : Chg B i w w := ⟨rfl, Below.refl _ _, fun _ _ => rfl⟩
theorem Chg.mono {B i : Nat} {w0 w : World} (h : Chg B i w0 w) : Chg B (i + 1) w0 w := ⟨h.size, h.bel, fun b hb => h.far b (by omega)⟩
theorem Chg.set {B i : Nat} {w0 w : World} (h : Chg B (i + 1) w0 w) (j : Nat) (u : Value) : Chg B (i + 1) w0 (w.setCell ⟨B + 1 + i, j, none⟩ u) :=
  ⟨by simpa [World.setCell] using h.size, h.bel.setCell (by simp only; omega) _, fun b hb => (Below.heap_setCell _ _ _ _ (by simp only; omega)).trans (h.far b hb)⟩
theorem Chg.q {B i : Nat} {w0 w w' : World} (h : Chg B i w0 w) (hq : Qw w w') : Chg B i w0 w' := by
  obtain ⟨d, rfl⟩ := hq
  exact ⟨h.size, h.bel.trans ((Qw.refl w).drewN d |>.below _), h.far⟩
end Go.Proofs.YtblilfbhohnbgaaGreat
