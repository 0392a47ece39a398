/- Lists of shares in memory: what they read as; own lists; the comparison of two lists. Conditions: as each statement says. -/
import Derived.Test.YthmooplhhkafcaaPush
import Derived.Test.YthmooplhhkafcaaShare
import Derived.Test.YthmooplhhkafcaaForms2
namespace Go.Proofs.Ythmooplhhkafcaa
open Go.RowKit
set_option linter.unusedVariables false
theorem elB_u8 : ElemB Try.prog 28 5 1 1 := ElemB.of Try.underlying28 info_u8 rfl (by decide)
theorem elB_share : ElemB Try.prog 38 40 2 32 := ElemB.of Try.underlying38 info_share rfl (by decide)
/-- A share in memory: its place, its slice, its bytes. -/
structure ShareV where
  X : Nat
  A : Option Addr
  n : Nat
  c : Nat
  Y : List Nat
def ShareV.view (s : ShareV) : Nat × List Nat := (s.X, s.Y)
def shCells : List ShareV → List Value
  | [] => []
  | s :: l => .int .u8 s.X :: .slice s.A s.n s.c :: shCells l
theorem shCells_len : ∀ l : List ShareV, (shCells l).length = l.length * 2
  | [] => rfl
  | _ :: l => by simp [shCells, shCells_len l]; omega
theorem shCells_snoc : ∀ (l : List ShareV) (s : ShareV), shCells (l ++ [s]) = shCells l ++ [.int .u8 s.X, .slice s.A s.n s.c]
  | [], _ => rfl
  | _ :: l, s => by simp [shCells, shCells_snoc l s]
theorem shCells_0 : ∀ (l : List ShareV) (i : Nat) (h : i < l.length), (shCells l)[i * 2]? = some (.int .u8 (l[i]).X)
  | [], _, h => by simp at h
  | s :: l, 0, _ => rfl
  | s :: l, i + 1, h => by
    rw [Nat.add_mul]; exact shCells_0 l i (by simpa using h)
theorem shCells_1 : ∀ (l : List ShareV) (i : Nat) (h : i < l.length), (shCells l)[i * 2 + 1]? = some (.slice (l[i]).A (l[i]).n (l[i]).c)
  | [], _, h => by simp at h
  | s :: l, 0, _ => rfl
  | s :: l, i + 1, h => by
    rw [Nat.add_mul]; exact shCells_1 l i (by simpa using h)
/-- What is asked of a share that is read. -/
def ShareV.ok (w : World) (B : Nat) (s : ShareV) : Prop := s.X < 256 ∧ Bytes s.Y ∧ s.n ≤ s.c ∧ s.n ≤ 1073741824 ∧ s.Y.length = s.n ∧ Rd w B 1 s.A s.n (u8s s.Y)
/-- The slice (A, n) reads as the shares l. -/
def ShR (w : World) (B : Nat) (A : Option Addr) (n : Nat) (l : List ShareV) : Prop := l.length = n ∧ Rd w B 2 A n (shCells l) ∧ ∀ s ∈ l, s.ok w B
theorem ShareV.ok.keep {w w' : World} {B : Nat} {s : ShareV} (h : s.ok w B) (hk : ∀ b o, b < B → w'.cell? ⟨b, o, none⟩ = w.cell? ⟨b, o, none⟩) : s.ok w' B := ⟨h.1, h.2.1, h.2.2.1, h.2.2.2.1, h.2.2.2.2.1, h.2.2.2.2.2.keep hk⟩
theorem ShareV.ok.mono {w : World} {B B' : Nat} {s : ShareV} (h : s.ok w B) (hB : B ≤ B') : s.ok w B' := ⟨h.1, h.2.1, h.2.2.1, h.2.2.2.1, h.2.2.2.2.1, h.2.2.2.2.2.mono hB⟩
section
variable {w w' : World} {B B' n : Nat} {A : Option Addr} {l : List ShareV}
theorem ShR.keep (h : ShR w B A n l) (hk : ∀ b o, b < B → w'.cell? ⟨b, o, none⟩ = w.cell? ⟨b, o, none⟩) : ShR w' B A n l := ⟨h.1, h.2.1.keep hk, fun s hs => (h.2.2 s hs).keep hk⟩
theorem ShR.mono (h : ShR w B A n l) (hB : B ≤ B') : ShR w B' A n l := ⟨h.1, h.2.1.mono hB, fun s hs => (h.2.2 s hs).mono hB⟩
theorem ShR.below (h : ShR w B A n l) (hb : Below B w w') : ShR w' B A n l := h.keep fun b o hlt => hb.cell (p := ⟨b, o, none⟩) hlt
theorem ShR.q (h : ShR w B A n l) (hq : Qw w w') : ShR w' B A n l := h.keep fun _ _ _ => hq.cell _
theorem ShR.drew (h : ShR w B A n l) : ShR w.drew B A n l := h
end
/-- Rows of different types lie in different blocks. -/
theorem ownsRow_ne {w : World} {b1 b2 t1 t2 s1 s2 n1 n2 : Nat} {v1 v2 : Value} {x1 x2 : List Value} (h1 : w.ownsRow b1 t1 s1 v1 n1 x1) (h2 : w.ownsRow b2 t2 s2 v2 n2 x2) (hne : t1 ≠ t2) : ∀ k, v1.ownBlock = some k → some k ≠ v2.ownBlock := by
  intro k hk e
  rcases h1.2 with ⟨rfl, _⟩ | ⟨g1, c1, cur1, rfl, _, hg1, _⟩
  · cases hk
  · rcases h2.2 with ⟨rfl, _⟩ | ⟨g2, c2, cur2, rfl, _, hg2, _⟩
    · cases e
    · simp only [Value.ownBlock, Option.some.injEq] at hk e
      subst hk
      rw [← e, hg1] at hg2
      injection hg2 with hg2
      injection hg2 with _ ht _
      exact hne ht
/-- A list of shares of the call's own, each with a row of bytes of its own. -/
def ShareV.own (w : World) (base : Nat) (s : ShareV) : Prop := s.X < 256 ∧ Bytes s.Y ∧ s.n ≤ s.c ∧ s.n ≤ 1073741824 ∧ s.Y.length = s.n ∧ (0 < s.n → w.ownsRow base 5 1 (.slice s.A s.n s.c) s.n (u8s s.Y))
def ShOwn (w : World) (base : Nat) (v : Value) (n : Nat) (l : List ShareV) : Prop := l.length = n ∧ w.ownsRow base 40 2 v n (shCells l) ∧ ∀ s ∈ l, s.own w base
theorem ShareV.own.ok {w : World} {base : Nat} {s : ShareV} (h : s.own w base) : s.ok w w.heap.size :=
  ⟨h.1, h.2.1, h.2.2.1, h.2.2.2.1, h.2.2.2.2.1, ⟨by simp [u8s, h.2.2.2.2.1], fun h0 => (Rd.own (h.2.2.2.2.2 h0)).2 h0⟩⟩
theorem ShOwn.rd {w : World} {base n c : Nat} {A : Option Addr} {l : List ShareV} (h : ShOwn w base (.slice A n c) n l) : ShR w w.heap.size A n l := ⟨h.1, Rd.own h.2.1, fun s hs => (h.2.2 s hs).ok⟩
theorem ShOwn.nil (w : World) (base : Nat) : ShOwn w base (.slice none 0 0) 0 [] := ⟨rfl, World.ownsRow_nil _ _ _ _, fun _ h => by cases h⟩
/-- What is made beyond leaves it. -/
theorem ShOwn.past {w w' : World} {base n : Nat} {v : Value} {l : List ShareV} (h : ShOwn w base v n l) (hb : Below w.heap.size w w') : ShOwn w' base v n l :=
  ⟨h.1, ownsRow_below h.2.1 hb (Nat.le_refl _), fun s hs => by
    obtain ⟨h1, h2, h3, h4, h5, h6⟩ := h.2.2 s hs
    exact ⟨h1, h2, h3, h4, h5, fun h0 => ownsRow_below (h6 h0) hb (Nat.le_refl _)⟩⟩
/-- One share more. -/
theorem ShOwn.push {w w' : World} {base n : Nat} {v v' : Value} {l : List ShareV} {s : ShareV} (h : ShOwn w base v n l) (hs : s.own w base) (hrow : w'.ownsRow base 40 2 v' (n + 1) (shCells l ++ [.int .u8 s.X, .slice s.A s.n s.c])) (hg : w.grownBy w' v.ownBlock) :
    ShOwn w' base v' (n + 1) (l ++ [s]) := by
  have hT : (5 : Nat) ≠ 40 := by decide
  refine ⟨by simp [h.1], by rw [shCells_snoc]; exact hrow, fun t ht => ?_⟩
  have key : ∀ t : ShareV, t.own w base → t.own w' base := fun t ⟨h1, h2, h3, h4, h5, h6⟩ => ⟨h1, h2, h3, h4, h5, fun h0 => ownsRow_grown (h6 h0) hg (ownsRow_ne (h6 h0) h.2.1 hT)⟩
  rcases List.mem_append.1 ht with ht | ht
  · exact key t (h.2.2 t ht)
  · rw [List.mem_singleton.1 ht]; exact key s hs
/-- The call returns a new list of shares with these views. -/
def RetShares (w : World) (n : Nat) (vs : List (Nat × List Nat)) (mk : Value → Value) (e : Ending) (w' : World) : Prop :=
  ∃ A c l, e = .returned (mk (.slice A n c)) ∧ n ≤ c ∧ ShOwn w' w.heap.size (.slice A n c) n l ∧ l.map ShareV.view = vs ∧ Below w.heap.size w w'
theorem RetShares.of {w w' : World} {n : Nat} {l : List ShareV} {vs : List (Nat × List Nat)} {mk : Value → Value} {v : Value} (h : ShOwn w' w.heap.size v n l) (hv : l.map ShareV.view = vs) (hb : Below w.heap.size w w') : RetShares w n vs mk (.returned (mk v)) w' := by
  obtain ⟨A, c, rfl, hc⟩ := own_form h.2.1
  exact ⟨A, c, l, rfl, hc, h, hv, hb⟩
/-- Bytes as Lean's own. -/
def bytesOf (l : List Nat) : List UInt8 := l.map UInt8.ofNat
theorem bytesOf_cells {l : List Nat} (h : Bytes l) : Lib.byteCells (bytesOf l) = u8s l := by
  unfold bytesOf Lib.byteCells u8s
  rw [List.map_map]
  apply List.map_congr_left
  intro x hx
  have := h x hx
  simp [Nat.mod_eq_of_lt this]
theorem bytesOf_inj {l l' : List Nat} (h : Bytes l) (h' : Bytes l') : bytesOf l = bytesOf l' ↔ l = l' := by
  constructor
  · intro e
    have h1 := congrArg (List.map UInt8.toNat) e
    have k : ∀ {l : List Nat}, Bytes l → (bytesOf l).map UInt8.toNat = l := fun {l} h => by
      unfold bytesOf
      rw [List.map_map]
      conv => rhs; rw [← List.map_id l]
      apply List.map_congr_left
      intro x hx
      have := h x hx
      simp [Nat.mod_eq_of_lt this]
    rwa [k h, k h'] at h1
  · rintro rfl; rfl
theorem same_nat (A A' : Option Addr) (n m c c' : Nat) (l l' : List Nat) (w : World) (B : Nat) (hl : Bytes l) (hl' : Bytes l') (h : Rd w B 1 A n (u8s l)) (h' : Rd w B 1 A' m (u8s l')) :
    Calls Try.prog 18 #[.slice A n c, .slice A' m c'] w fun e w' => e = .returned (.bool (decide (l = l'))) ∧ w = w' := by
  rw [← bytesOf_cells hl] at h
  rw [← bytesOf_cells hl'] at h'
  have := same_any A A' n m c c' _ _ w B h h'
  rwa [decide_eq_decide.2 (bytesOf_inj hl hl')] at this
theorem same_yes (A A' : Option Addr) (n m c c' : Nat) (l : List Nat) (w : World) (B : Nat) (hl : Bytes l) (h : Rd w B 1 A n (u8s l)) (h' : Rd w B 1 A' m (u8s l)) :
    Calls Try.prog 18 #[.slice A n c, .slice A' m c'] w fun e w' => e = .returned (.bool true) ∧ w = w' := by
  have := same_nat A A' n m c c' l l w B hl hl h h'
  rwa [decide_eq_true rfl] at this
set_option maxRecDepth 100000 in
set_option maxHeartbeats 1000000 in
theorem sameShares_yes (A A' : Option Addr) (n c c' : Nat) (l l' : List ShareV) (w : World) (B : Nat) (hn : n ≤ 1073741824) (h : ShR w B A n l) (h' : ShR w B A' n l') (hv : l.map ShareV.view = l'.map ShareV.view) :
    Calls Try.prog 24 #[.slice A n c, .slice A' n c'] w fun e w' => e = .returned (.bool true) ∧ Qw w w' := by
  have H := Lib.hid h; have H' := Lib.hid h'; have HV := Lib.hid hv
  clear h h' hv
  go_enter Try.func24, Try.ntmps24
  go_wp2
  go_loopw [5] (fun i wr => ∃ k : Nat, k ≤ n ∧ i = .int .i64 k ∧ Qw w wr) (fun i _ => n - (intOf i).toNat)
  case atStart => exact ⟨0, Nat.zero_le _, rfl, Qw.refl _⟩
  case round =>
    obtain ⟨k, hk, rfl, hq⟩ := hrel
    by_cases hlt : k < n
    · have hkl : k < l.length := by rw [H.out.1]; exact hlt
      have hkl' : k < l'.length := by rw [H'.out.1]; exact hlt
      obtain ⟨b, off, rfl, hb, hc⟩ := H.out.2.1.2 (by omega)
      obtain ⟨b', off', rfl, hb', hc'⟩ := H'.out.2.1.2 (by omega)
      obtain ⟨hX, hB1, hnc, hn1, hly, hrd⟩ := H.out.2.2 _ (List.getElem_mem hkl)
      obtain ⟨hX', hB1', hnc', hn1', hly', hrd'⟩ := H'.out.2.2 _ (List.getElem_mem hkl')
      have hvk : (l[k]).view = (l'[k]).view := by
        have h1 := congrArg (fun z => z[k]?) HV.out
        simpa [hkl, hkl'] using h1
      have c0 : wr.cell? ⟨b, off + k * 2, none⟩ = some (.int .u8 (l[k]).X) := (hq.cell _).trans (hc _ _ (shCells_0 l k hkl))
      have c1 : wr.cell? ⟨b, off + k * 2 + 1, none⟩ = some (.slice (l[k]).A (l[k]).n (l[k]).c) := (hq.cell _).trans (hc _ _ (shCells_1 l k hkl))
      have c0' : wr.cell? ⟨b', off' + k * 2, none⟩ = some (.int .u8 (l'[k]).X) := (hq.cell _).trans (hc' _ _ (shCells_0 l' k hkl'))
      have c1' : wr.cell? ⟨b', off' + k * 2 + 1, none⟩ = some (.slice (l'[k]).A (l'[k]).n (l'[k]).c) := (hq.cell _).trans (hc' _ _ (shCells_1 l' k hkl'))
      have hrq := hrd.q hq
      have hrq' := hrd'.q hq
      generalize l[k] = s at c0 c1 hX hB1 hrq hvk hrd hnc hn1 hly
      generalize l'[k] = s' at c0' c1' hX' hB1' hrq' hvk hrd' hnc' hn1' hly'
      obtain ⟨X, A1, n1, c1v, Y⟩ := s
      obtain ⟨X', A2, n2, c2v, Y'⟩ := s'
      simp only [ShareV.view, Prod.mk.injEq] at hvk c0 c1 c0' c1' hX hX' hB1 hB1' hrq hrq'
      obtain ⟨rfl, rfl⟩ := hvk
      have HS := Lib.hid (same_yes A1 A2 n1 n2 c1v c2v Y wr B hB1 hrq hrq')
      have HRQ := Lib.hid hrq; have HRQ' := Lib.hid hrq'; have HB1 := Lib.hid hB1
      have hki : (k : Int) < (n : Int) := by omega
      clear hrq hrq' hrd hrd' hc hc' hkl hkl' hB1 hB1' hnc hnc' hn1 hn1' hly hly'
      go_wp2
      go_quiet ((go_at_call 18; exact quiet_e (same_yes _ _ _ _ _ _ _ _ _ HB1.out (HRQ.out.drewN _) (HRQ'.out.drewN _))))
      go_wp2
      go_roundw
      case rel => exact ⟨k + 1, by omega, by go_num, hq.drewN _⟩
      case measure => simp [intOf]; omega
    · obtain rfl : k = n := by omega
      go_wp2
      go_ret
      exact ⟨rfl, hq⟩
end Go.Proofs.Ythmooplhhkafcaa
