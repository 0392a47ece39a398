/- Lists of shares in memory: what they read as; own lists; the comparison of two lists. Conditions: as each statement says. -/
import Derived.Test.YtecndceekgaglaaGreatPush
import Derived.Test.YtecndceekgaglaaGreatShare
import Derived.Test.YtecndceekgaglaaGreatForms2
import Derived.Test.YtecndceekgaglaaGreatMath
import Derived.Test.YtecndceekgaglaaGreatZip
import Derived.Test.YtecndceekgaglaaGreatField
import Derived.Deep.RegionHeld3
namespace Go.Proofs.YtecndceekgaglaaGreat
open Go.RowKit
set_option linter.unusedVariables false
theorem elB_u8 : ElemB Tryz.prog 23 5 1 1 := ElemB.of Tryz.underlying23 info_u8 rfl (by decide)
theorem elB_share : ElemB Tryz.prog 37 106 2 32 := ElemB.of Tryz.underlying37 info_share rfl (by decide)
/-- A share in memory: its place, its slice, its bytes. -/
structure ShareV where
  X : Nat
  A : Option Addr
  n : Nat
  c : Nat
  Y : List Nat
def ShareV.view (s : ShareV) : Nat × List Nat := (s.X, s.Y)
def shCells : List ShareV → List Value
  | [] => []
  | s :: l => .int .u8 s.X :: .slice s.A s.n s.c :: shCells l
theorem shCells_len : ∀ l : List ShareV, (shCells l).length = l.length * 2
  | [] => rfl
  | _ :: l => by simp [shCells, shCells_len l]; omega
theorem shCells_snoc : ∀ (l : List ShareV) (s : ShareV), shCells (l ++ [s]) = shCells l ++ [.int .u8 s.X, .slice s.A s.n s.c]
  | [], _ => rfl
  | _ :: l, s => by simp [shCells, shCells_snoc l s]
theorem shCells_0 : ∀ (l : List ShareV) (i : Nat) (h : i < l.length), (shCells l)[i * 2]? = some (.int .u8 (l[i]).X)
  | [], _, h => by simp at h
  | s :: l, 0, _ => rfl
  | s :: l, i + 1, h => by
    rw [Nat.add_mul]; exact shCells_0 l i (by simpa using h)
theorem shCells_1 : ∀ (l : List ShareV) (i : Nat) (h : i < l.length), (shCells l)[i * 2 + 1]? = some (.slice (l[i]).A (l[i]).n (l[i]).c)
  | [], _, h => by simp at h
  | s :: l, 0, _ => rfl
  | s :: l, i + 1, h => by
    rw [Nat.add_mul]; exact shCells_1 l i (by simpa using h)
/-- What is asked of a share that is read. -/
def ShareV.ok (w : World) (B : Nat) (s : ShareV) : Prop := s.X < 256 ∧ Bytes s.Y ∧ s.n ≤ s.c ∧ s.n ≤ 1073741824 ∧ s.Y.length = s.n ∧ Rd w B 1 s.A s.n (u8s s.Y)
/-- The slice (A, n) reads as the shares l. -/
def ShR (w : World) (B : Nat) (A : Option Addr) (n : Nat) (l : List ShareV) : Prop := l.length = n ∧ Rd w B 2 A n (shCells l) ∧ ∀ s ∈ l, s.ok w B
theorem ShareV.ok.keep {w w' : World} {B : Nat} {s : ShareV} (h : s.ok w B) (hk : ∀ b o, b < B → w'.cell? ⟨b, o, none⟩ = w.cell? ⟨b, o, none⟩) : s.ok w' B := ⟨h.1, h.2.1, h.2.2.1, h.2.2.2.1, h.2.2.2.2.1, h.2.2.2.2.2.keep hk⟩
theorem ShareV.ok.mono {w : World} {B B' : Nat} {s : ShareV} (h : s.ok w B) (hB : B ≤ B') : s.ok w B' := ⟨h.1, h.2.1, h.2.2.1, h.2.2.2.1, h.2.2.2.2.1, h.2.2.2.2.2.mono hB⟩
section
variable {w w' : World} {B B' n : Nat} {A : Option Addr} {l : List ShareV}
theorem ShR.keep (h : ShR w B A n l) (hk : ∀ b o, b < B → w'.cell? ⟨b, o, none⟩ = w.cell? ⟨b, o, none⟩) : ShR w' B A n l := ⟨h.1, h.2.1.keep hk, fun s hs => (h.2.2 s hs).keep hk⟩
theorem ShR.mono (h : ShR w B A n l) (hB : B ≤ B') : ShR w B' A n l := ⟨h.1, h.2.1.mono hB, fun s hs => (h.2.2 s hs).mono hB⟩
theorem ShR.below (h : ShR w B A n l) (hb : Below B w w') : ShR w' B A n l := h.keep fun b o hlt => hb.cell (p := ⟨b, o, none⟩) hlt
theorem ShR.q (h : ShR w B A n l) (hq : Qw w w') : ShR w' B A n l := h.keep fun _ _ _ => hq.cell _
theorem ShR.drew (h : ShR w B A n l) : ShR w.drew B A n l := h
end
/-- Rows of different types lie in different blocks. -/
theorem ownsRow_ne {w : World} {b1 b2 t1 t2 s1 s2 n1 n2 : Nat} {v1 v2 : Value} {x1 x2 : List Value} (h1 : w.ownsRow b1 t1 s1 v1 n1 x1) (h2 : w.ownsRow b2 t2 s2 v2 n2 x2) (hne : t1 ≠ t2) : ∀ k, v1.ownBlock = some k → some k ≠ v2.ownBlock := by
  intro k hk e
  rcases h1.2 with ⟨rfl, _⟩ | ⟨g1, c1, cur1, rfl, _, hg1, _⟩
  · cases hk
  · rcases h2.2 with ⟨rfl, _⟩ | ⟨g2, c2, cur2, rfl, _, hg2, _⟩
    · cases e
    · simp only [Value.ownBlock, Option.some.injEq] at hk e
      subst hk
      rw [← e, hg1] at hg2
      injection hg2 with hg2
      injection hg2 with _ ht _
      exact hne ht
/-- A list of shares of the call's own, each with a row of bytes of its own. -/
def ShareV.own (w : World) (base : Nat) (s : ShareV) : Prop := s.X < 256 ∧ Bytes s.Y ∧ s.n ≤ s.c ∧ s.n ≤ 1073741824 ∧ s.Y.length = s.n ∧ (0 < s.n → w.ownsRow base 5 1 (.slice s.A s.n s.c) s.n (u8s s.Y))
def ShOwn (w : World) (base : Nat) (v : Value) (n : Nat) (l : List ShareV) : Prop := l.length = n ∧ w.ownsRow base 106 2 v n (shCells l) ∧ ∀ s ∈ l, s.own w base
theorem ShareV.own.ok {w : World} {base : Nat} {s : ShareV} (h : s.own w base) : s.ok w w.heap.size :=
  ⟨h.1, h.2.1, h.2.2.1, h.2.2.2.1, h.2.2.2.2.1, ⟨by simp [u8s, h.2.2.2.2.1], fun h0 => (Rd.own (h.2.2.2.2.2 h0)).2 h0⟩⟩
theorem ShOwn.rd {w : World} {base n c : Nat} {A : Option Addr} {l : List ShareV} (h : ShOwn w base (.slice A n c) n l) : ShR w w.heap.size A n l := ⟨h.1, Rd.own h.2.1, fun s hs => (h.2.2 s hs).ok⟩
theorem ShOwn.nil (w : World) (base : Nat) : ShOwn w base (.slice none 0 0) 0 [] := ⟨rfl, World.ownsRow_nil _ _ _ _, fun _ h => by cases h⟩
/-- What is made beyond leaves it. -/
theorem ShOwn.past {w w' : World} {base n : Nat} {v : Value} {l : List ShareV} (h : ShOwn w base v n l) (hb : Below w.heap.size w w') : ShOwn w' base v n l :=
  ⟨h.1, ownsRow_below h.2.1 hb (Nat.le_refl _), fun s hs => by
    obtain ⟨h1, h2, h3, h4, h5, h6⟩ := h.2.2 s hs
    exact ⟨h1, h2, h3, h4, h5, fun h0 => ownsRow_below (h6 h0) hb (Nat.le_refl _)⟩⟩
/-- One share more. -/
theorem ShOwn.push {w w' : World} {base n : Nat} {v v' : Value} {l : List ShareV} {s : ShareV} (h : ShOwn w base v n l) (hs : s.own w base) (hrow : w'.ownsRow base 106 2 v' (n + 1) (shCells l ++ [.int .u8 s.X, .slice s.A s.n s.c])) (hg : w.grownBy w' v.ownBlock) :
    ShOwn w' base v' (n + 1) (l ++ [s]) := by
  have hT : (5 : Nat) ≠ 106 := by decide
  refine ⟨by simp [h.1], by rw [shCells_snoc]; exact hrow, fun t ht => ?_⟩
  have key : ∀ t : ShareV, t.own w base → t.own w' base := fun t ⟨h1, h2, h3, h4, h5, h6⟩ => ⟨h1, h2, h3, h4, h5, fun h0 => ownsRow_grown (h6 h0) hg (ownsRow_ne (h6 h0) h.2.1 hT)⟩
  rcases List.mem_append.1 ht with ht | ht
  · exact key t (h.2.2 t ht)
  · rw [List.mem_singleton.1 ht]; exact key s hs
/-- The call returns a new list of shares with these views. -/
def RetShares (w : World) (n : Nat) (vs : List (Nat × List Nat)) (mk : Value → Value) (e : Ending) (w' : World) : Prop :=
  ∃ A c l, e = .returned (mk (.slice A n c)) ∧ n ≤ c ∧ ShOwn w' w.heap.size (.slice A n c) n l ∧ l.map ShareV.view = vs ∧ Below w.heap.size w w'
theorem RetShares.of {w w' : World} {n : Nat} {l : List ShareV} {vs : List (Nat × List Nat)} {mk : Value → Value} {v : Value} (h : ShOwn w' w.heap.size v n l) (hv : l.map ShareV.view = vs) (hb : Below w.heap.size w w') : RetShares w n vs mk (.returned (mk v)) w' := by
  obtain ⟨A, c, rfl, hc⟩ := own_form h.2.1
  exact ⟨A, c, l, rfl, hc, h, hv, hb⟩
/-- Bytes as Lean's own. -/
def bytesOf (l : List Nat) : List UInt8 := l.map UInt8.ofNat
theorem bytesOf_cells {l : List Nat} (h : Bytes l) : Lib.byteCells (bytesOf l) = u8s l := by
  unfold bytesOf Lib.byteCells u8s
  rw [List.map_map]
  apply List.map_congr_left
  intro x hx
  have := h x hx
  simp [Nat.mod_eq_of_lt this]
theorem bytesOf_inj {l l' : List Nat} (h : Bytes l) (h' : Bytes l') : bytesOf l = bytesOf l' ↔ l = l' := by
  constructor
  · intro e
    have h1 := congrArg (List.map UInt8.toNat) e
    have k : ∀ {l : List Nat}, Bytes l → (bytesOf l).map UInt8.toNat = l := fun {l} h => by
      unfold bytesOf
      rw [List.map_map]
      conv => rhs; rw [← List.map_id l]
      apply List.map_congr_left
      intro x hx
      have := h x hx
      simp [Nat.mod_eq_of_lt this]
    rwa [k h, k h'] at h1
  · rintro rfl; rfl
end Go.Proofs.YtecndceekgaglaaGreat
/- The contract of check of the program. Conditions: as the statement says. -/
namespace Go.Proofs.YtecndceekgaglaaGreat
open Go.RowKit
set_option linter.unusedVariables false
/-- The error of the first share that has one. -/
def chkE (len : Nat) : List Nat → List ShareV → Int
  | _, [] => 0
  | seen, s :: r => if s.X < 1 ∨ 16 < s.X then 2 else if s.X ∈ seen then 10 else if s.n ≠ len then 22 else if 256 < len then 4 else chkE len (s.X :: seen) r
/-- The places that were seen, as an array. -/
def seenC (seen : List Nat) : Array Value := ((List.range 17).map fun i => Value.bool (decide (i ∈ seen))).toArray
theorem seenC_get (seen : List Nat) (i : Nat) (h : i < 17) : (seenC seen)[i]? = some (.bool (decide (i ∈ seen))) := by simp [seenC, h]
theorem seenC_nil : seenC [] = Array.replicate 17 (.bool false) := by
  apply Array.ext'
  simp [seenC, List.map_const']
theorem seenC_put (seen : List Nat) (x : Nat) (h : x < 17) : (seenC seen).setIfInBounds x (.bool true) = seenC (x :: seen) := by
  apply Array.ext_getElem?
  intro i
  by_cases hi : i < 17
  · rw [seenC_get _ _ hi]
    by_cases hx : x = i
    · subst hx; rw [Array.getElem?_setIfInBounds_self_of_lt (by simpa [seenC] using hi)]; simp
    · rw [Array.getElem?_setIfInBounds_ne hx, seenC_get _ _ hi]
      have : ¬ i = x := fun e => hx e.symm
      simp [this]
  · rw [Array.getElem?_eq_none (by simp [seenC]; omega), Array.getElem?_eq_none (by simp [seenC]; omega)]
theorem chkE_cons (len : Nat) (seen : List Nat) (s : ShareV) (r : List ShareV) : chkE len seen (s :: r) = if s.X < 1 ∨ 16 < s.X then 2 else if s.X ∈ seen then 10 else if s.n ≠ len then 22 else if 256 < len then 4 else chkE len (s.X :: seen) r := rfl
theorem blk_set' {w : World} {b o : Nat} {cs : Array Value} {t : TypeId} (h : w.heap[b]? = some (.cells cs t (0, 0))) (u : Value) : (w.setCell ⟨b, o, none⟩ u).heap[b]? = some (.cells (cs.setIfInBounds o u) t (0, 0)) := by
  simp [World.setCell, Array.getElem?_modify, h]
set_option maxRecDepth 100000 in
set_option maxHeartbeats 1000000 in
theorem check_any (A : Option Addr) (n c len : Nat) (l : List ShareV) (w : World) (hn : n ≤ 1073741824) (hlen : len ≤ 1073741824) (h : ShR w w.heap.size A n l) :
    Calls Tryz.prog 39 #[.slice A n c, .int .i64 len] w fun e w' => e = .returned (.int .i64 (chkE len [] l)) ∧ Below w.heap.size w w' := by
  have H := Lib.hid h
  clear h
  go_enter Tryz.func39, Tryz.ntmps39
  go_wp2
  go_loopw [10] (fun v wr => ∃ (k : Nat) (seen : List Nat), k ≤ n ∧ v = .int .i64 k ∧ wr.heap[w.heap.size]? = some (.cells (seenC seen) 141 (0, 0)) ∧ Below w.heap.size w wr ∧ chkE len [] l = chkE len seen (l.drop k)) (fun v _ => n - (intOf v).toNat)
  case atStart => exact ⟨0, [], Nat.zero_le _, rfl, by rw [seenC_nil]; exact heap_alloc_new w _, (Below.refl _ _).alloc (Nat.le_refl _) _, rfl⟩
  case round =>
    obtain ⟨k, seen, hk, rfl, hblk, hbw, hE⟩ := hrel
    have hsz := hbw.size
    have HE := Lib.hid hE; clear hE
    by_cases hlt : k < n
    · have hlt' : (k : Int) < (n : Int) := by omega
      have hkl : k < l.length := by rw [H.out.1]; exact hlt
      obtain ⟨b, off, rfl, hb, hc⟩ := H.out.2.1.2 (by omega)
      have hokk := H.out.2.2 _ (List.getElem_mem hkl)
      have hX := hokk.1
      have hn1 := hokk.2.2.2.1
      clear hokk
      have c0 : wr.cell? ⟨b, off + k * 2, none⟩ = some (.int .u8 (l[k]).X) := (hbw.cell (p := ⟨b, off + k * 2, none⟩) hb).trans (hc _ _ (shCells_0 l k hkl))
      have c1 : wr.cell? ⟨b, off + k * 2 + 1, none⟩ = some (.slice (l[k]).A (l[k]).n (l[k]).c) := (hbw.cell (p := ⟨b, off + k * 2 + 1, none⟩) hb).trans (hc _ _ (shCells_1 l k hkl))
      have HS : Hid (chkE len [] l = chkE len seen (l[k] :: l.drop (k + 1))) := Lib.hid (by rw [HE.out, List.drop_eq_getElem_cons hkl])
      clear hc HE
      generalize l[k] = s at c0 c1 HS hX hn1
      obtain ⟨X, A1, n1, cp1, Y⟩ := s
      dsimp only at c0 c1 hX hn1
      rw [chkE_cons] at HS
      dsimp only at HS
      clear hkl
      have hblt : w.heap.size < wr.heap.size := (Array.getElem?_eq_some_iff.1 hblk).1
      have HBK := Lib.hid hblk
      by_cases g1 : X < 1 ∨ 16 < X
      · rw [if_pos g1] at HS
        clear hblk
        rcases g1 with g1 | g1
        · have g1' : (X : Int) < 1 := by omega
          go_wp2_with fail
          go_ret
          exact ⟨by rw [HS.out]; rfl, hbw.alloc hsz _⟩
        · have g1' : ¬ (X : Int) < 1 := by omega
          have g2' : (16 : Int) < (X : Int) := by omega
          go_wp2_with fail
          go_ret
          exact ⟨by rw [HS.out]; rfl, hbw.alloc hsz _⟩
      · rw [if_neg g1] at HS
        have g1' : ¬ (X : Int) < 1 := by omega
        have g2' : ¬ (16 : Int) < (X : Int) := by omega
        have hX17 : X < 17 := by omega
        have hX17' : (X : Int) < 17 := by omega
        have cs : wr.cell? ⟨w.heap.size, X, none⟩ = some (.bool (decide (X ∈ seen))) := by rw [cell_of_row _ _ _ _ _ _ hblk, seenC_get _ _ hX17]
        have fs : wr.frozen? ⟨w.heap.size, X, none⟩ = false := by simp [World.frozen?, hblk]
        clear hblk
        by_cases g3 : X ∈ seen
        · rw [if_pos g3] at HS
          rw [decide_eq_true g3] at cs
          have cs2 : (wr.alloc (.cells #[.int .u8 X, .slice A1 n1 cp1] 106)).cell? ⟨w.heap.size, X, none⟩ = some (.bool true) := (World.cell?_alloc_lt wr _ _ hblt).trans cs
          clear g1
          go_wp2_with fail
          go_ret
          exact ⟨by rw [HS.out]; rfl, hbw.alloc hsz _⟩
        · rw [if_neg g3] at HS
          rw [decide_eq_false g3] at cs
          have cs2 : (wr.alloc (.cells #[.int .u8 X, .slice A1 n1 cp1] 106)).cell? ⟨w.heap.size, X, none⟩ = some (.bool false) := (World.cell?_alloc_lt wr _ _ hblt).trans cs
          by_cases g4 : n1 = len
          · rw [if_neg (by omega)] at HS
            have g4' : ((n1 : Int) != (len : Int)) = false := by subst g4; simp
            by_cases g5 : 256 < len
            · rw [if_pos g5] at HS
              have g5' : (256 : Int) < (len : Int) := by omega
              clear g1 g3 g4
              go_wp2_with fail
              go_ret
              exact ⟨by rw [HS.out]; rfl, hbw.alloc hsz _⟩
            · rw [if_neg g5] at HS
              have g5' : ¬ (256 : Int) < (len : Int) := by omega
              have fs2 : (wr.alloc (.cells #[.int .u8 X, .slice A1 n1 cp1] 106)).frozen? ⟨w.heap.size, X, none⟩ = false := (World.frozen?_alloc_past _ _ _ hblt).trans fs
              clear g1 g3 g4
              go_wp2_with fail
              go_roundw
              case rel => exact ⟨k + 1, X :: seen, by omega, by go_num, by rw [← seenC_put _ _ hX17]; exact (Below.heap_alloc _ _ _ (by rw [size_setCell]; exact hblt)).trans (blk_set' HBK.out _), (hbw.setCell (p := ⟨w.heap.size, X, none⟩) (Nat.le_refl _) _).alloc (by rw [size_setCell]; exact hsz) _, HS.out⟩
              case measure => simp [intOf]; omega
          · rw [if_pos g4] at HS
            have g4' : ((n1 : Int) != (len : Int)) = true := by simp only [bne_iff_ne, ne_eq]; omega
            clear g1 g3 g4
            go_wp2_with fail
            go_ret
            exact ⟨by rw [HS.out]; rfl, hbw.alloc hsz _⟩
    · have hlt' : ¬ (k : Int) < (n : Int) := by omega
      have hz : chkE len [] l = 0 := by rw [HE.out, List.drop_of_length_le (by rw [H.out.1]; omega)]; rfl
      have HZ := Lib.hid hz
      clear hz hblk
      go_wp2_with fail
      go_ret
      exact ⟨by rw [HZ.out]; rfl, hbw⟩
end Go.Proofs.YtecndceekgaglaaGreat
/- The contracts of Faults and at of the reference. Conditions: as each statement says. -/
namespace Go.Proofs.YtecndceekgaglaaGreat
open Go.RowKit
set_option linter.unusedVariables false
/-- The error of the first share that has one, and its index. -/
def fltE (len : Nat) : List Nat → Nat → List ShareV → Int × Nat
  | _, _, [] => (0, 0)
  | seen, k, s :: r => if s.X < 1 ∨ 16 < s.X then (2, k) else if s.X ∈ seen then (10, k) else if s.n ≠ len then (22, k) else fltE len (seen ++ [s.X]) (k + 1) r
theorem fltE_cons (len : Nat) (seen : List Nat) (k : Nat) (s : ShareV) (r : List ShareV) : fltE len seen k (s :: r) = if s.X < 1 ∨ 16 < s.X then (2, k) else if s.X ∈ seen then (10, k) else if s.n ≠ len then (22, k) else fltE len (seen ++ [s.X]) (k + 1) r := rfl
theorem chk_flt {len : Nat} (hl : len ≤ 256) : ∀ (l : List ShareV) (s1 s2 : List Nat) (k : Nat), (∀ x, x ∈ s1 ↔ x ∈ s2) → chkE len s1 l = (fltE len s2 k l).1
  | [], _, _, _, _ => rfl
  | s :: r, s1, s2, k, h => by
    rw [chkE_cons, fltE_cons]
    by_cases h1 : s.X < 1 ∨ 16 < s.X
    · rw [if_pos h1, if_pos h1]
    · rw [if_neg h1, if_neg h1]
      by_cases h2 : s.X ∈ s1
      · rw [if_pos h2, if_pos ((h _).1 h2)]
      · rw [if_neg h2, if_neg (fun h3 => h2 ((h _).2 h3))]
        by_cases h3 : s.n ≠ len
        · rw [if_pos h3, if_pos h3]
        · rw [if_neg h3, if_neg h3, if_neg (by omega)]
          exact chk_flt hl r _ _ (k + 1) (fun x => by rw [List.mem_cons, List.mem_append, List.mem_singleton, h x]; exact or_comm)
theorem flt_ge (len : Nat) : ∀ (l : List ShareV) (seen : List Nat) (k : Nat), (fltE len seen k l).1 = 0 ∨ k ≤ (fltE len seen k l).2
  | [], _, _ => .inl rfl
  | s :: r, seen, k => by
    rw [fltE_cons]
    split
    · exact .inr (Nat.le_refl _)
    · split
      · exact .inr (Nat.le_refl _)
      · split
        · exact .inr (Nat.le_refl _)
        · rcases flt_ge len r (seen ++ [s.X]) (k + 1) with h | h
          · exact .inl h
          · exact .inr (by omega)
theorem flt_lt (len : Nat) : ∀ (l : List ShareV) (seen : List Nat) (k : Nat), (fltE len seen k l).2 ≤ k + l.length
  | [], _, _ => Nat.zero_le _
  | s :: r, seen, k => by
    rw [fltE_cons, List.length_cons]
    split
    · show k ≤ _; omega
    · split
      · show k ≤ _; omega
      · split
        · show k ≤ _; omega
        · have := flt_lt len r (seen ++ [s.X]) (k + 1); omega
theorem flt_codes (len : Nat) : ∀ (l : List ShareV) (seen : List Nat) (k : Nat), 0 ≤ (fltE len seen k l).1 ∧ (fltE len seen k l).1 ≤ 22
  | [], _, _ => by simp [fltE]
  | s :: r, seen, k => by
    rw [fltE_cons]
    split
    · simp
    · split
      · simp
      · split
        · simp
        · exact flt_codes len r _ _
/-- The program's error of Join is the document's. -/
theorem chk_join {len : Nat} {s : ShareV} {r : List ShareV} (h0 : s.n = len) : chkE len [] (s :: r) = if 256 < len ∧ ((fltE len [] 0 (s :: r)).1 = 0 ∨ 0 < (fltE len [] 0 (s :: r)).2) then 4 else (fltE len [] 0 (s :: r)).1 := by
  by_cases hl : len ≤ 256
  · rw [if_neg (by omega), chk_flt hl (s :: r) [] [] 0 (fun x => Iff.rfl)]
  · have hl' : 256 < len := by omega
    have e1 : chkE len [] (s :: r) = if s.X < 1 ∨ 16 < s.X then 2 else 4 := by
      rw [chkE_cons]
      split
      · rfl
      · simp [h0, hl']
    have e2 : fltE len [] 0 (s :: r) = if s.X < 1 ∨ 16 < s.X then (2, 0) else fltE len ([] ++ [s.X]) (0 + 1) r := by
      rw [fltE_cons]
      split
      · rfl
      · simp [h0]
    rw [e1, e2]
    by_cases h1 : s.X < 1 ∨ 16 < s.X
    · rw [if_pos h1, if_pos h1, if_neg (by simp)]
    · rw [if_neg h1, if_neg h1, if_pos]
      refine ⟨hl', ?_⟩
      rcases flt_ge len r ([] ++ [s.X]) (0 + 1) with h | h
      · exact .inl h
      · exact .inr (by omega)
end Go.Proofs.YtecndceekgaglaaGreat
/- Plain mathematics of Join and Explain: what is joined, and when. No program is in sight. -/
namespace Go.Proofs.YtecndceekgaglaaGreat
open Go.RowKit
set_option linter.unusedVariables false
/-- What shares without an error are. -/
structure ShGood (len : Nat) (l : List ShareV) : Prop where
  x : ∀ s ∈ l, 1 ≤ s.X ∧ s.X ≤ 16
  n : ∀ s ∈ l, s.n = len
  d : (l.map ShareV.X).Nodup
  len : l ≠ [] → len ≤ 256
theorem chk_good (len : Nat) : ∀ (l : List ShareV) (seen : List Nat), chkE len seen l = 0 → ShGood len l ∧ ∀ s ∈ l, s.X ∉ seen
  | [], _, _ => ⟨⟨fun _ h => (by cases h), fun _ h => (by cases h), List.nodup_nil, fun h => absurd rfl h⟩, fun _ h => (by cases h)⟩
  | s :: r, seen, h => by
    rw [chkE_cons] at h
    split at h
    · omega
    · rename_i h1
      split at h
      · omega
      · rename_i h2
        split at h
        · omega
        · rename_i h3
          split at h
          · omega
          · rename_i h4
            obtain ⟨g, h5⟩ := chk_good len r _ h
            refine ⟨⟨fun t ht => ?_, fun t ht => ?_, ?_, fun _ => by omega⟩, fun t ht => ?_⟩
            · rcases List.mem_cons.1 ht with rfl | ht
              · omega
              · exact g.x t ht
            · rcases List.mem_cons.1 ht with rfl | ht
              · omega
              · exact g.n t ht
            · rw [List.map_cons, List.nodup_cons]
              refine ⟨fun hm => ?_, g.d⟩
              obtain ⟨t, ht, he⟩ := List.mem_map.1 hm
              exact h5 t ht (by rw [he]; simp)
            · rcases List.mem_cons.1 ht with rfl | ht
              · exact h2
              · exact fun hm => h5 t ht (List.mem_cons_of_mem _ hm)
/-- Places from 1 to 16, each once: at most 16. -/
theorem nodup_le : ∀ (m : Nat) (l : List Nat), l.Nodup → (∀ x ∈ l, x < m) → l.length ≤ m
  | 0, l, _, h => by
    cases l with
    | nil => simp
    | cons a l => exact absurd (h a (by simp)) (by omega)
  | m + 1, l, hd, h => by
    by_cases hm : m ∈ l
    · have h1 := List.length_erase_of_mem hm
      have h2 := nodup_le m (l.erase m) (hd.erase m) (fun x hx => by
        have hx1 := List.mem_of_mem_erase hx
        have hx2 : x ≠ m := fun e => by subst e; exact (List.Nodup.not_mem_erase hd) hx
        have := h x hx1; omega)
      have := List.length_pos_of_mem hm
      omega
    · have h2 := nodup_le m l hd (fun x hx => by
        have hx2 : x ≠ m := fun e => by subst e; exact hm hx
        have := h x hx; omega)
      omega
theorem ShGood.few {len : Nat} {l : List ShareV} (g : ShGood len l) : l.length ≤ 16 := by
  have := nodup_le 17 (0 :: l.map ShareV.X) (List.nodup_cons.2 ⟨fun hm => by obtain ⟨s, hs, he⟩ := List.mem_map.1 hm; have := g.x s hs; omega, g.d⟩) (fun x hx => by
    rcases List.mem_cons.1 hx with rfl | hx
    · omega
    · obtain ⟨s, hs, rfl⟩ := List.mem_map.1 hx; have := g.x s hs; omega)
  simpa using this
theorem shCells_take : ∀ (l : List ShareV) (k : Nat), (shCells l).take (k * 2) = shCells (l.take k)
  | [], k => by simp [shCells]
  | s :: l, 0 => by simp [shCells]
  | s :: l, k + 1 => by
    rw [Nat.add_mul, List.take_succ_cons]
    show Value.int .u8 s.X :: Value.slice s.A s.n s.c :: (shCells l).take (k * 2) = _
    rw [shCells_take l k]; rfl
theorem shCells_drop : ∀ (l : List ShareV) (k : Nat), (shCells l).drop (k * 2) = shCells (l.drop k)
  | [], k => by simp [shCells]
  | s :: l, 0 => by simp [shCells]
  | s :: l, k + 1 => by
    rw [Nat.add_mul, List.drop_succ_cons]
    show (shCells l).drop (k * 2) = _
    exact shCells_drop l k
/-- The first k shares, and all others, of a list that is read. -/
theorem ShR.head {w : World} {B n : Nat} {A A2 : Option Addr} {l : List ShareV} (h : ShR w B A n l) (k : Nat) (hk : k ≤ n) (hr : Rd w B 2 A2 k ((shCells l).take (k * 2))) : ShR w B A2 k (l.take k) :=
  ⟨by rw [List.length_take, h.1]; omega, by rw [← shCells_take]; exact hr, fun s hs => h.2.2 s (List.mem_of_mem_take hs)⟩
theorem ShR.tail {w : World} {B n : Nat} {A A2 : Option Addr} {l : List ShareV} (h : ShR w B A n l) (k : Nat) (hk : k ≤ n) (hr : Rd w B 2 A2 (n - k) (((shCells l).drop (k * 2)).take ((n - k) * 2))) : ShR w B A2 (n - k) (l.drop k) := by
  have e : ((shCells l).drop (k * 2)).take ((n - k) * 2) = shCells (l.drop k) := by
    rw [shCells_drop, List.take_of_length_le (by rw [shCells_len, List.length_drop, h.1]; exact Nat.le_refl _)]
  rw [e] at hr
  exact ⟨by rw [List.length_drop, h.1], hr, fun s hs => h.2.2 s (List.mem_of_mem_drop hs)⟩
/-- What a read of share i takes. -/
theorem ShR.at {w : World} {B n : Nat} {A : Option Addr} {l : List ShareV} (h : ShR w B A n l) {i : Nat} (hi : i < n) :
    ∃ (b off : Nat) (s : ShareV), A = some ⟨b, off, none⟩ ∧ l[i]? = some s ∧ b < B ∧ w.cell? ⟨b, off + i * 2, none⟩ = some (.int .u8 s.X) ∧ w.cell? ⟨b, off + i * 2 + 1, none⟩ = some (.slice s.A s.n s.c) ∧ s.ok w B := by
  obtain ⟨b, off, rfl, hb, hc⟩ := h.2.1.2 (by omega)
  have hl : i < l.length := by rw [h.1]; exact hi
  exact ⟨b, off, l[i], rfl, List.getElem?_eq_getElem hl, hb, hc _ _ (shCells_0 l i hl), hc _ _ (shCells_1 l i hl), h.2.2 _ (List.getElem_mem hl)⟩
/-- What a read of a byte of a share takes. -/
theorem ShareV.ok.at {w : World} {B : Nat} {s : ShareV} (h : s.ok w B) {j : Nat} (hj : j < s.n) : ∃ b off, s.A = some ⟨b, off, none⟩ ∧ b < B ∧ w.cell? ⟨b, off + j, none⟩ = some (.int .u8 (s.Y.getD j 0 : Nat)) := by
  obtain ⟨b, off, hA, hb, hc⟩ := h.2.2.2.2.2.2 (by omega)
  have hl : j < s.Y.length := by rw [h.2.2.2.2.1]; exact hj
  exact ⟨b, off, hA, hb, hc j _ (by simp [u8s, List.getD, List.getElem?_eq_getElem hl])⟩
/-- The points of byte j. -/
def ptsJ (l : List ShareV) (k j : Nat) : List (Nat × Nat) := (l.take k).map fun s => (s.X, s.Y.getD j 0)
def polyJ (l : List ShareV) (k j : Nat) : List Nat := throughN (ptsJ l k j)
def okJ (l : List ShareV) (k j : Nat) : Bool := (l.drop k).all fun s => valF (polyJ l k j) s.X == s.Y.getD j 0
def secJ (l : List ShareV) (k m : Nat) : List Nat := (List.range m).map fun j => (polyJ l k j).getD 0 0
def allJ (l : List ShareV) (k m : Nat) : Bool := (List.range m).all (okJ l k)
theorem secJ_snoc (l : List ShareV) (k m : Nat) : secJ l k (m + 1) = secJ l k m ++ [(polyJ l k m).getD 0 0] := by simp [secJ, List.range_succ]
theorem secJ_len (l : List ShareV) (k m : Nat) : (secJ l k m).length = m := by simp [secJ]
theorem allJ_snoc (l : List ShareV) (k m : Nat) : allJ l k (m + 1) = (allJ l k m && okJ l k m) := by simp [allJ, List.range_succ]
theorem allJ_false {l : List ShareV} {k m j : Nat} (h : j < m) (h0 : okJ l k j = false) : allJ l k m = false := by
  cases h1 : allJ l k m
  · rfl
  · have := List.all_eq_true.1 h1 j (List.mem_range.2 h)
    rw [h0] at this; cases this
/-- Each share's bytes are bytes. -/
def ShBytes (l : List ShareV) : Prop := ∀ s ∈ l, s.X < 256 ∧ Bytes s.Y
theorem getD_byte {l : List Nat} (h : Bytes l) (j : Nat) : l.getD j 0 < 256 := by
  rcases Nat.lt_or_ge j l.length with h1 | h1
  · simp only [List.getD, List.getElem?_eq_getElem h1, Option.getD_some]; exact h _ (List.getElem_mem h1)
  · simp [List.getD, List.getElem?_eq_none h1]
theorem ptsJ_b {l : List ShareV} (h : ShBytes l) (k j : Nat) : PtB (ptsJ l k j) := fun p hp => by
  obtain ⟨s, hs, rfl⟩ := List.mem_map.1 hp
  obtain ⟨h1, h2⟩ := h s (List.mem_of_mem_take hs)
  exact ⟨h1, getD_byte h2 j⟩
theorem ptsJ_d {len : Nat} {l : List ShareV} (g : ShGood len l) (k j : Nat) : ((ptsJ l k j).map (·.1)).Nodup := by
  unfold ptsJ
  rw [List.map_map]
  have : ((l.take k).map ((fun p : Nat × Nat => p.1) ∘ fun s : ShareV => (s.X, s.Y.getD j 0))) = (l.map ShareV.X).take k := by rw [← List.map_take]; rfl
  rw [this]
  exact g.d.sublist (List.take_sublist _ _)
theorem ptsJ_len (l : List ShareV) (k j : Nat) (h : k ≤ l.length) : (ptsJ l k j).length = k := by simp [ptsJ]; omega
theorem polyJ_bytes {len : Nat} {l : List ShareV} (g : ShGood len l) (hb : ShBytes l) (k j : Nat) : Bytes (polyJ l k j) := (throughN_hits (ptsJ_b hb k j) (ptsJ_d g k j)).2.1
theorem polyJ_len {len : Nat} {l : List ShareV} (g : ShGood len l) (hb : ShBytes l) (k j : Nat) (h : k ≤ l.length) : (polyJ l k j).length = k := by
  unfold polyJ
  rw [(throughN_hits (ptsJ_b hb k j) (ptsJ_d g k j)).1, ptsJ_len l k j h]
def okE (b : Bool) : Int := if b then 0 else 19
def okS (b : Bool) (S : List Nat) : List Nat := if b then S else []
/-- The error of Join, and the secret. -/
def joinE (l : List ShareV) (k : Int) : Int :=
  if k < 1 ∨ 16 < k then 3 else if (l.length : Int) < k then 14 else
    if chkE (l.headD ⟨0, none, 0, 0, []⟩).n [] l ≠ 0 then chkE (l.headD ⟨0, none, 0, 0, []⟩).n [] l else if allJ l k.toNat (l.headD ⟨0, none, 0, 0, []⟩).n then 0 else 19
def joinS (l : List ShareV) (k : Int) : List Nat := if joinE l k = 0 then secJ l k.toNat (l.headD ⟨0, none, 0, 0, []⟩).n else []
/-- The call returns bytes and an error. -/
def RetES (w : World) (E : Int) (S : List Nat) (e : Ending) (w' : World) : Prop :=
  ∃ A m c, e = .returned (.tuple #[.slice A m c, .int .i64 E]) ∧ m ≤ c ∧ S.length = m ∧ Rd w' w'.heap.size 1 A m (u8s S) ∧ Below w.heap.size w w'
theorem RetES.nil {w w' : World} (E : Int) (hb : Below w.heap.size w w') : RetES w E [] (.returned (.tuple #[.slice none 0 0, .int .i64 E])) w' := ⟨none, 0, 0, rfl, Nat.le_refl _, rfl, by simpa [u8s] using Rd.nil _ _ _ _, hb⟩
theorem RetES.own {w w' : World} {t n : Nat} {v : Value} {S : List Nat} (h : w'.ownsRow w.heap.size t 1 v n (u8s S)) (hb : Below w.heap.size w w') : RetES w 0 S (.returned (.tuple #[v, .int .i64 0])) w' := by
  obtain ⟨A, c, rfl, hc⟩ := own_form h
  exact ⟨A, n, c, rfl, hc, by have := h.1; simpa [u8s] using this, Rd.own h, hb⟩
end Go.Proofs.YtecndceekgaglaaGreat
/- zip of bytes: the sum of two polynomials, a multiple. Conditions: as each statement says. -/
namespace Go.Proofs.YtecndceekgaglaaGreat
open Go.RowKit
set_option linter.unusedVariables false
set_option maxHeartbeats 400000 in
theorem zip_sum (A A' : Option Addr) (n c c' : Nat) (xs ys : List Nat)  (w : World) (hn : n ≤ 1073741824) (hbx : Bytes xs) (hby : Bytes ys)  (h : Rd w w.heap.size 1 A n (u8s xs)) (h' : Rd w w.heap.size 1 A' n (u8s ys)) :
    Calls Tryz.prog 79 #[.slice A n c, .slice A' n c', .func (.func 81) #[] #[]] w (RetOwn w 5 1 n (u8s (addP xs ys)) id) := by
  have hl : xs.length = n := by have := h.1; simpa [u8s] using this
  have hl' : ys.length = n := by have := h'.1; simpa [u8s] using this
  have hrl : (addP xs ys).length = n := by rw [addP_len _ _ (by rw [hl, hl'])]; exact hl
  have H := Lib.hid h; clear h
  have H' := Lib.hid h'; clear h'
  have HL := Lib.hid hl; clear hl
  have HL' := Lib.hid hl'; clear hl'
  have HRL := Lib.hid hrl; clear hrl
  have HBX := Lib.hid hbx; have HBY := Lib.hid hby
  clear hbx hby
  have hmk := fun w => make_u8 w n (by omega)
  go_enter Tryz.func79, Tryz.ntmps79
  go_wp2
  clear hmk
  go_loopw [15] (fun i wr => ∃ k : Nat, k ≤ n ∧ i = .int .i64 k ∧ wr.heap[w.heap.size]? = some (.cells (u8s ((addP xs ys).take k) ++ List.replicate (n - k) (Value.int .u8 0)).toArray 5 (0, 0)) ∧ Below w.heap.size w wr) (fun i _ => n - (intOf i).toNat)
  case atStart => exact ⟨0, Nat.zero_le _, rfl, by simpa [u8s] using heap_alloc_new w _, (Below.refl _ _).alloc (Nat.le_refl _) _⟩
  case round =>
    obtain ⟨k, hk, rfl, hB, hbw⟩ := hrel
    have HB := Lib.hid hB; clear hB
    by_cases hlt : k < n
    · obtain ⟨b, off, rfl, hb, hc⟩ := H.out.2 (by omega)
      obtain ⟨b', off', rfl, hb', hc'⟩ := H'.out.2 (by omega)
      have hka : k < xs.length := by rw [HL.out]; exact hlt
      have hkb : k < ys.length := by rw [HL'.out]; exact hlt
      have hkr : k < (addP xs ys).length := by rw [HRL.out]; exact hlt
      have h1 : wr.cell? ⟨b, off + k, none⟩ = some (.int .u8 (xs[k] : Nat)) := (hbw.cell (p := ⟨b, off + k, none⟩) hb).trans (hc k _ (by simp [u8s, hka]))
      have h2 : wr.cell? ⟨b', off' + k, none⟩ = some (.int .u8 (ys[k] : Nat)) := (hbw.cell (p := ⟨b', off' + k, none⟩) hb').trans (hc' k _ (by simp [u8s, hkb]))
      have hx : (u8s ((addP xs ys).take k)).length = k := by simp [u8s]; omega
      have h3 : ∃ u, wr.cell? ⟨w.heap.size, k, none⟩ = some u := ⟨_, (cell_of_row _ _ _ _ _ _ HB.out).trans (Array.getElem?_eq_getElem (by simp [u8s]; omega))⟩
      obtain ⟨u, h3⟩ := h3
      have h4 : wr.frozen? ⟨w.heap.size, k, none⟩ = false := by simp [World.frozen?, HB.out]
      have HS : Hid (u8s ((addP xs ys).take (k + 1)) = u8s ((addP xs ys).take k) ++ [.int .u8 ((xs[k] ^^^ ys[k] : Nat) : Int)]) := Lib.hid (by rw [take_snoc _ _ hkr, u8s, List.map_append]; simp [u8s, addP])
      have hxb := HBX.out _ (List.getElem_mem hka)
      have hyb := HBY.out _ (List.getElem_mem hkb)
      have HX := Lib.hid hx
      clear hc hc' hx
      generalize xs[k] = x at h1 HS hxb
      generalize ys[k] = y at h2 HS hyb
      clear hka hkb hkr
      go_wp2
      refine ⟨⟨k + 1, by omega, by go_num, ?_, hbw.setCell (p := ⟨w.heap.size, k, none⟩) (Nat.le_refl _) _⟩, by simp [intOf]; omega⟩
      obtain ⟨d, hd⟩ : ∃ d, n - k = d + 1 := ⟨n - k - 1, by omega⟩
      have h5 := HB.out
      rw [hd] at h5
      rw [HS.out, show n - (k + 1) = d by omega]
      rw [u8_xor_nat _ _ (by omega) (by omega)]
      exact row_fill (j := k) h5 HX.out
    · go_wp2
      go_ret
      obtain rfl : k = n := by omega
      have h5 := HB.out
      rw [Nat.sub_self, List.replicate_zero, List.append_nil, List.take_of_length_le (by rw [HRL.out]; exact Nat.le_refl _)] at h5
      exact RetOwn.of (mk := id) (own_of_row h5 (by simp [u8s, HRL.out]) (Nat.le_refl _) (by simp [maxLen]; omega)) hbw
set_option maxHeartbeats 400000 in
theorem zip_scaled (A A' : Option Addr) (n c c' : Nat) (xs ys : List Nat) (by' bx : Nat) (w : World) (hn : n ≤ 1073741824) (hbx : Bytes xs) (hby : Bytes ys) (hby2 : by' < 256) (hxb : bx < w.heap.size) (hcb : w.cell? ⟨bx, 0, none⟩ = some (.int .u8 by')) (h : Rd w w.heap.size 1 A n (u8s xs)) (h' : Rd w w.heap.size 1 A' n (u8s ys)) :
    Calls Tryz.prog 79 #[.slice A n c, .slice A' n c', .func (.func 103) #[] #[.pointer (some ⟨bx, 0, none⟩)]] w (RetOwn w 5 1 n (u8s (mulP xs by')) id) := by
  have hl : xs.length = n := by have := h.1; simpa [u8s] using this
  have hl' : ys.length = n := by have := h'.1; simpa [u8s] using this
  have hrl : (mulP xs by').length = n := by rw [mulP_len]; exact hl
  have H := Lib.hid h; clear h
  have H' := Lib.hid h'; clear h'
  have HL := Lib.hid hl; clear hl
  have HL' := Lib.hid hl'; clear hl'
  have HRL := Lib.hid hrl; clear hrl
  have HBX := Lib.hid hbx; have HBY := Lib.hid hby
  clear hbx hby
  have HCB := Lib.hid hcb; clear hcb
  have hmk := fun w => make_u8 w n (by omega)
  go_enter Tryz.func79, Tryz.ntmps79
  go_wp2
  clear hmk
  go_loopw [15] (fun i wr => ∃ k : Nat, k ≤ n ∧ i = .int .i64 k ∧ wr.heap[w.heap.size]? = some (.cells (u8s ((mulP xs by').take k) ++ List.replicate (n - k) (Value.int .u8 0)).toArray 5 (0, 0)) ∧ Below w.heap.size w wr) (fun i _ => n - (intOf i).toNat)
  case atStart => exact ⟨0, Nat.zero_le _, rfl, by simpa [u8s] using heap_alloc_new w _, (Below.refl _ _).alloc (Nat.le_refl _) _⟩
  case round =>
    obtain ⟨k, hk, rfl, hB, hbw⟩ := hrel
    have HB := Lib.hid hB; clear hB
    by_cases hlt : k < n
    · obtain ⟨b, off, rfl, hb, hc⟩ := H.out.2 (by omega)
      obtain ⟨b', off', rfl, hb', hc'⟩ := H'.out.2 (by omega)
      have hka : k < xs.length := by rw [HL.out]; exact hlt
      have hkb : k < ys.length := by rw [HL'.out]; exact hlt
      have hkr : k < (mulP xs by').length := by rw [HRL.out]; exact hlt
      have h1 : wr.cell? ⟨b, off + k, none⟩ = some (.int .u8 (xs[k] : Nat)) := (hbw.cell (p := ⟨b, off + k, none⟩) hb).trans (hc k _ (by simp [u8s, hka]))
      have h2 : wr.cell? ⟨b', off' + k, none⟩ = some (.int .u8 (ys[k] : Nat)) := (hbw.cell (p := ⟨b', off' + k, none⟩) hb').trans (hc' k _ (by simp [u8s, hkb]))
      have hx : (u8s ((mulP xs by').take k)).length = k := by simp [u8s]; omega
      have h3 : ∃ u, wr.cell? ⟨w.heap.size, k, none⟩ = some u := ⟨_, (cell_of_row _ _ _ _ _ _ HB.out).trans (Array.getElem?_eq_getElem (by simp [u8s]; omega))⟩
      obtain ⟨u, h3⟩ := h3
      have h4 : wr.frozen? ⟨w.heap.size, k, none⟩ = false := by simp [World.frozen?, HB.out]
      have HS : Hid (u8s ((mulP xs by').take (k + 1)) = u8s ((mulP xs by').take k) ++ [.int .u8 ((gm 8 xs[k] by' : Nat) : Int)]) := Lib.hid (by rw [take_snoc _ _ hkr, u8s, List.map_append]; simp [u8s, mulP])
      have hxb1 := HBX.out _ (List.getElem_mem hka)
      have hyb := HBY.out _ (List.getElem_mem hkb)
      have hcb2 : wr.cell? ⟨bx, 0, none⟩ = some (.int .u8 by') := (hbw.cell (p := ⟨bx, 0, none⟩) hxb).trans HCB.out
      have hgx : gm 8 xs[k] by' < 256 := gm8_lt (HBX.out _ (List.getElem_mem hka))
      have HX := Lib.hid hx
      clear hc hc' hx
      generalize xs[k] = x at h1 HS hxb1 hgx
      generalize ys[k] = y at h2 HS hyb
      clear hka hkb hkr
      go_wp2_with (first | (go_at_call 77; refine (product_any _ _ (by omega) (by omega) (by omega) (by omega) _).mono ?_; rintro e w' ⟨rfl, rfl⟩) | go_in)
      refine ⟨⟨k + 1, by omega, by go_num, ?_, hbw.setCell (p := ⟨w.heap.size, k, none⟩) (Nat.le_refl _) _⟩, by simp [intOf]; omega⟩
      obtain ⟨d, hd⟩ : ∃ d, n - k = d + 1 := ⟨n - k - 1, by omega⟩
      have h5 := HB.out
      rw [hd] at h5
      rw [HS.out, show n - (k + 1) = d by omega]
      exact row_fill (j := k) h5 HX.out
    · go_wp2
      go_ret
      obtain rfl : k = n := by omega
      have h5 := HB.out
      rw [Nat.sub_self, List.replicate_zero, List.append_nil, List.take_of_length_le (by rw [HRL.out]; exact Nat.le_refl _)] at h5
      exact RetOwn.of (mk := id) (own_of_row h5 (by simp [u8s, HRL.out]) (Nat.le_refl _) (by simp [maxLen]; omega)) hbw
theorem scaled_any (A : Option Addr) (n c : Nat) (xs : List Nat) (by' : Nat) (w : World) (hn : n ≤ 1073741824) (hbx : Bytes xs) (hb : by' < 256) (h : Rd w w.heap.size 1 A n (u8s xs)) :
    Calls Tryz.prog 80 #[.slice A n c, .int .u8 by'] w (RetOwn w 5 1 n (u8s (mulP xs by')) id) := by
  have H := Lib.hid h; have HB := Lib.hid hbx
  clear h hbx
  obtain ⟨wa, hwa⟩ : ∃ wa, wa = w.alloc (.cells #[.int .u8 by'] 5) := ⟨_, rfl⟩
  have Ba : Below w.heap.size w wa := by rw [hwa]; exact (Below.refl _ _).alloc (Nat.le_refl _) _
  have sa : wa.heap.size = w.heap.size + 1 := by rw [hwa]; simp
  have hcb : wa.cell? ⟨w.heap.size, 0, none⟩ = some (.int .u8 by') := by rw [hwa]; exact cell_of_one (heap_alloc_new w _)
  have Z := Lib.hid (zip_scaled A A n c c xs xs by' w.heap.size wa hn HB.out HB.out hb (by omega) hcb ((H.out.below Ba).mono (by omega)) ((H.out.below Ba).mono (by omega)))
  rw [hwa] at Z
  clear hcb
  go_enter Tryz.func80, Tryz.ntmps80
  go_wp2_with fail
  refine Z.out.mono ?_
  rintro e w1 ⟨A1, c1, rfl, hc1, hown1, hb1⟩
  rw [← hwa] at hown1 hb1
  try dsimp only [id]
  have ho := Lib.hid (ownsRow_mono hown1 (show w.heap.size ≤ wa.heap.size by omega))
  have hB := Ba.trans (hb1.mono (by omega))
  clear Z hwa hown1 hb1
  go_wp2_with fail
  go_ret
  exact ⟨A1, c1, rfl, hc1, ho.out, hB⟩
end Go.Proofs.YtecndceekgaglaaGreat
/- The contracts of Value, Poly and Split of the reference, and of the comparison of shares. Conditions: as each statement says. -/
namespace Go.Proofs.YtecndceekgaglaaGreat
open Go.RowKit
set_option linter.unusedVariables false
theorem sumP_val (key : Nat) (hk : key < 256) : ∀ (p : List Nat) (t : Nat), Bytes p → t < 256 → sumP 8 key p t = gm 8 (valF p key) t
  | [], t, _, _ => by simp [sumP, valF, zero_gm isW8]
  | c :: r, t, hp, ht => by
    have hg : gm 8 t key < 256 := gm8_lt ht
    have hv := valF_lt hp.tail key
    rw [sumP, sumP_val key hk r _ hp.tail hg, valF_cons, gm_xor_left isW8 (gm8_lt hv) hp.head, gm_assoc isW8 hv hk ht, gm_comm isW8 ht hk, Nat.xor_comm]
/-- The polynomial of byte j. -/
def polyL (sec co : List Nat) (q j : Nat) : List Nat := sec.getD j 0 :: (co.drop (j * q)).take q
/-- The shares of a secret, as the definition says. -/
def sharesV (sec co : List Nat) (q n N : Nat) : List (Nat × List Nat) := (List.range N).map fun i => (i + 1, shareY sec co q (i + 1) n)
theorem sharesV_snoc (sec co : List Nat) (q n N : Nat) : sharesV sec co q n (N + 1) = sharesV sec co q n N ++ [(N + 1, shareY sec co q (N + 1) n)] := by simp [sharesV, List.range_succ]
theorem polyL_bytes {sec co : List Nat} {q j : Nat} (hs : Bytes sec) (hc : Bytes co) : Bytes (polyL sec co q j) := by
  refine Bytes.cons ?_ ((hc.drop _).take _)
  rcases Nat.lt_or_ge j sec.length with h | h
  · simp only [List.getD, List.getElem?_eq_getElem h, Option.getD_some]; exact hs _ (List.getElem_mem h)
  · simp [List.getD, List.getElem?_eq_none h]
theorem polyL_val (sec co : List Nat) (q j x : Nat) : valF (polyL sec co q j) x = shareB sec co q x j := rfl
theorem shareY_bytes {sec co : List Nat} {q x n : Nat} (hs : Bytes sec) (hc : Bytes co) : Bytes (shareY sec co q x n) := fun y hy => by
  obtain ⟨j, _, rfl⟩ := List.mem_map.1 hy
  rw [← polyL_val]; exact valF_lt (polyL_bytes hs hc) x
end Go.Proofs.YtecndceekgaglaaGreat
/- Split of the program, refused; and what its shares read as. Conditions: as each statement says. -/
namespace Go.Proofs.YtecndceekgaglaaGreat
open Go.RowKit
set_option linter.unusedVariables false
/-- Why a call is refused. -/
def SplitNo (n m : Nat) (N K E : Int) : Prop :=
  (256 < n ∧ E = 4) ∨ (n ≤ 256 ∧ N < 1 ∧ E = 3) ∨ (n ≤ 256 ∧ 1 ≤ N ∧ 16 < N ∧ E = 3) ∨ (n ≤ 256 ∧ 1 ≤ N ∧ N ≤ 16 ∧ K < 1 ∧ E = 3) ∨ (n ≤ 256 ∧ 1 ≤ N ∧ N ≤ 16 ∧ 1 ≤ K ∧ N < K ∧ E = 3) ∨
  (n ≤ 256 ∧ 1 ≤ N ∧ N ≤ 16 ∧ 1 ≤ K ∧ K ≤ N ∧ ((m : Int) != (n : Int) * (K - 1)) = true ∧ E = 22)
theorem mul_small {n : Nat} {K N : Int} (hn : n ≤ 256) (h1 : 1 ≤ K) (h2 : K ≤ N) (h3 : N ≤ 16) : IntKind.i64.wrap ((n : Int) * (K - 1)) = (n : Int) * (K - 1) ∧ wrap64 ((n : Int) * (K - 1)) = (n : Int) * (K - 1) := by
  obtain ⟨q, hq⟩ := Int.eq_ofNat_of_zero_le (show 0 ≤ K - 1 by omega)
  have hq2 : q ≤ 15 := by omega
  have h : n * q ≤ 256 * 15 := Nat.mul_le_mul hn hq2
  rw [hq, show (n : Int) * (q : Int) = ((n * q : Nat) : Int) by simp]
  exact ⟨i64_small _ (by omega), IntWalk.wrap64_in _ ⟨by omega, by omega⟩⟩
theorem Split_no (A A' : Option Addr) (n c m c' : Nat) (N K E : Int) (w : World) (hE : SplitNo n m N K E) :
    Calls Tryz.prog 48 #[.slice A n c, .int .i64 N, .int .i64 K, .slice A' m c'] w fun e w' => e = .returned (.tuple #[.slice none 0 0, .int .i64 E]) ∧ w = w' := by
  rcases hE with ⟨g1, rfl⟩ | ⟨g1, g2, rfl⟩ | ⟨g1, g2, g3, rfl⟩ | ⟨g1, g2, g3, g4, rfl⟩ | ⟨g1, g2, g3, g4, g5, rfl⟩ | ⟨g1, g2, g3, g4, g5, g6, rfl⟩
  · have g1' : (256 : Int) < (n : Int) := by omega
    go_enter Tryz.func48, Tryz.ntmps48
    go_wp2
    go_ret2
    exact ⟨rfl, rfl⟩
  · have g1' : (n : Int) ≤ 256 := by omega
    go_enter Tryz.func48, Tryz.ntmps48
    go_wp2
    go_ret2
    exact ⟨rfl, rfl⟩
  · have g1' : (n : Int) ≤ 256 := by omega
    go_enter Tryz.func48, Tryz.ntmps48
    go_wp2
    go_ret2
    exact ⟨rfl, rfl⟩
  · have g1' : (n : Int) ≤ 256 := by omega
    go_enter Tryz.func48, Tryz.ntmps48
    go_wp2
    go_ret2
    exact ⟨rfl, rfl⟩
  · have g1' : (n : Int) ≤ 256 := by omega
    go_enter Tryz.func48, Tryz.ntmps48
    go_wp2
    go_ret2
    exact ⟨rfl, rfl⟩
  · have g1' : (n : Int) ≤ 256 := by omega
    obtain ⟨h1, h2⟩ := mul_small g1 g4 g5 g3
    rw [← h2] at g6
    clear h1 h2
    go_enter Tryz.func48, Tryz.ntmps48
    go_wp2
    go_ret2
    exact ⟨rfl, rfl⟩
/-- The program's shares as they lie in memory. -/
def progV (B n N q : Nat) (sec co : List Nat) : List ShareV := (List.range N).map fun t => ⟨t + 1, some ⟨B + 1 + t, 0, none⟩, n, n, shareY sec co q (t + 1) n⟩
theorem progV_len (B n N q : Nat) (sec co : List Nat) : (progV B n N q sec co).length = N := by simp [progV]
theorem progV_view (B n N q : Nat) (sec co : List Nat) : (progV B n N q sec co).map ShareV.view = sharesV sec co q n N := by
  unfold progV sharesV
  rw [List.map_map]
  rfl
theorem progV_get (B n N q : Nat) (sec co : List Nat) (t : Nat) (h : t < (progV B n N q sec co).length) : (progV B n N q sec co)[t] = ⟨t + 1, some ⟨B + 1 + t, 0, none⟩, n, n, shareY sec co q (t + 1) n⟩ := by simp [progV]
theorem SharesW.shr {w : World} {B n N q : Nat} {sec co : List Nat} (h : SharesW w B n N q sec co N) (hn : n ≤ 256) (hN : N ≤ 16) (hs : Bytes sec) (hc : Bytes co) : ShR w (B + 1 + N) (some ⟨B, 0, none⟩) N (progV B n N q sec co) := by
  obtain ⟨hsz, cs, hB, hcs, hat⟩ := h
  refine ⟨progV_len _ _ _ _ _ _, ⟨by rw [shCells_len, progV_len], fun _ => ⟨B, 0, rfl, by omega, fun j u hu => ?_⟩⟩, fun s hs' => ?_⟩
  · have hj : j < N * 2 := by
      have := (List.getElem?_eq_some_iff.1 hu).1
      rwa [shCells_len, progV_len] at this
    have hl : j / 2 < (progV B n N q sec co).length := by rw [progV_len]; omega
    rw [Nat.zero_add, cell_of_row _ _ _ _ _ _ hB]
    obtain ⟨h0, h1, _⟩ := hat (j / 2) (by omega)
    rcases Nat.mod_two_eq_zero_or_one j with hm | hm
    · have e : j = j / 2 * 2 := by omega
      rw [e] at hu ⊢
      rw [shCells_0 _ _ hl, progV_get] at hu
      rw [h0]; simpa using hu
    · have e : j = j / 2 * 2 + 1 := by omega
      rw [e] at hu ⊢
      rw [shCells_1 _ _ hl, progV_get] at hu
      rw [h1]; simpa using hu
  · obtain ⟨t, ht, rfl⟩ := List.getElem_of_mem hs'
    rw [progV_len] at ht
    rw [progV_get]
    obtain ⟨_, _, h2⟩ := hat t ht
    refine ⟨by simp only; omega, shareY_bytes hs hc, Nat.le_refl _, by simp only; omega, shareY_len _ _ _ _ _, by simp [u8s, shareY_len], fun _ => ⟨B + 1 + t, 0, rfl, by omega, fun j u hu => ?_⟩⟩
    rw [Nat.zero_add, cell_of_row _ _ _ _ _ _ h2]
    simpa using hu
/-- What stays of the shares while the first i of them are written. -/
structure Chg (B i : Nat) (w0 w : World) : Prop where
  size : w.heap.size = w0.heap.size
  bel : Below (B + 1) w0 w
  far : ∀ b, B + 1 + i ≤ b → w.heap[b]? = w0.heap[b]?
theorem Chg.refl (B i : Nat) (w : World) : Chg B i w w := ⟨rfl, Below.refl _ _, fun _ _ => rfl⟩
theorem Chg.mono {B i : Nat} {w0 w : World} (h : Chg B i w0 w) : Chg B (i + 1) w0 w := ⟨h.size, h.bel, fun b hb => h.far b (by omega)⟩
theorem Chg.set {B i : Nat} {w0 w : World} (h : Chg B (i + 1) w0 w) (j : Nat) (u : Value) : Chg B (i + 1) w0 (w.setCell ⟨B + 1 + i, j, none⟩ u) :=
  ⟨by simpa [World.setCell] using h.size, h.bel.setCell (by simp only; omega) _, fun b hb => (Below.heap_setCell _ _ _ _ (by simp only; omega)).trans (h.far b hb)⟩
theorem Chg.q {B i : Nat} {w0 w w' : World} (h : Chg B i w0 w) (hq : Qw w w') : Chg B i w0 w' := by
  obtain ⟨d, rfl⟩ := hq
  exact ⟨h.size, h.bel.trans ((Qw.refl w).drewN d |>.below _), h.far⟩
theorem bytes_set {l : List Nat} (h : Bytes l) (j : Nat) {x : Nat} (hx : x < 256) : Bytes (l.set j x) := fun y hy => by
  rcases List.mem_or_eq_of_mem_set hy with h1 | rfl
  · exact h y h1
  · exact hx
theorem row_set {w : World} {b : Nat} {ys : List Nat} {t : TypeId} (h : w.heap[b]? = some (.cells (u8s ys).toArray t (0, 0))) (j z : Nat) (u : Value) (hu : u = .int .u8 (z : Int)) :
    (w.setCell ⟨b, j, none⟩ u).heap[b]? = some (.cells (u8s (ys.set j z)).toArray t (0, 0)) := by
  subst hu
  simp only [World.setCell, Array.getElem?_modify, h, if_true, Option.map_some, Option.isSome_none, Bool.false_eq_true, if_false]
  congr 2
  apply Array.ext'
  simp [u8s, List.map_set]
theorem ShOwn.keepFrom {w w' : World} {base n : Nat} {v : Value} {l : List ShareV} (h : ShOwn w base v n l) (hk : ∀ b, base ≤ b → w'.heap[b]? = w.heap[b]?) : ShOwn w' base v n l := by
  have key : ∀ {t sz n : Nat} {v : Value} {xs : List Value}, w.ownsRow base t sz v n xs → w'.ownsRow base t sz v n xs := fun {t sz n v xs} h => by
    refine ⟨h.1, ?_⟩
    rcases h.2 with h1 | ⟨g, cap, cur, hv, hg, hh, rest⟩
    · exact .inl h1
    · exact .inr ⟨g, cap, cur, hv, hg, (hk g hg).trans hh, rest⟩
  exact ⟨h.1, key h.2.1, fun s hs => by obtain ⟨h1, h2, h3, h4, h5, h6⟩ := h.2.2 s hs; exact ⟨h1, h2, h3, h4, h5, fun h0 => key (h6 h0)⟩⟩
end Go.Proofs.YtecndceekgaglaaGreat
/- Plain mathematics of Explain: the coins that explain some shares. No program is in sight. -/
namespace Go.Proofs.YtecndceekgaglaaGreat
open Go.RowKit
set_option linter.unusedVariables false
def ptsX (l : List ShareV) (b j : Nat) : List (Nat × Nat) := (0, b) :: ptsJ l l.length j
def polyX (l : List ShareV) (b j : Nat) : List Nat := throughN (ptsX l b j)
def coinB (l : List ShareV) (b j q : Nat) : List Nat := (polyX l b j).drop 1 ++ List.replicate (q - l.length) 0
def coinsX (l : List ShareV) (sec : List Nat) (q : Nat) : Nat → List Nat
  | 0 => []
  | j + 1 => coinsX l sec q j ++ coinB l (sec.getD j 0) j q
theorem ptsX_b {l : List ShareV} (h : ShBytes l) {b : Nat} (hb : b < 256) (j : Nat) : PtB (ptsX l b j) := fun p hp => by
  rcases List.mem_cons.1 hp with rfl | hp
  · exact ⟨Nat.zero_lt_succ _, hb⟩
  · exact ptsJ_b h _ j p hp
theorem ptsX_d {len : Nat} {l : List ShareV} (g : ShGood len l) (b j : Nat) : ((ptsX l b j).map (·.1)).Nodup := by
  unfold ptsX
  rw [List.map_cons, List.nodup_cons]
  refine ⟨fun hm => ?_, ptsJ_d g _ j⟩
  obtain ⟨p, hp, he⟩ := List.mem_map.1 hm
  obtain ⟨s, hs, rfl⟩ := List.mem_map.1 hp
  have := g.x s (List.mem_of_mem_take hs)
  simp at he; omega
theorem ptsX_len (l : List ShareV) (b j : Nat) : (ptsX l b j).length = l.length + 1 := by unfold ptsX; rw [List.length_cons, ptsJ_len l _ j (Nat.le_refl _)]
theorem polyX_len {len : Nat} {l : List ShareV} (g : ShGood len l) (hb : ShBytes l) {b : Nat} (h : b < 256) (j : Nat) : (polyX l b j).length = l.length + 1 := by
  unfold polyX
  rw [(throughN_hits (ptsX_b hb h j) (ptsX_d g b j)).1, ptsX_len]
theorem polyX_bytes {len : Nat} {l : List ShareV} (g : ShGood len l) (hb : ShBytes l) {b : Nat} (h : b < 256) (j : Nat) : Bytes (polyX l b j) := (throughN_hits (ptsX_b hb h j) (ptsX_d g b j)).2.1
theorem coinB_len {len : Nat} {l : List ShareV} (g : ShGood len l) (hb : ShBytes l) {b q : Nat} (h : b < 256) (j : Nat) (hq : l.length ≤ q) : (coinB l b j q).length = q := by
  unfold coinB
  rw [List.length_append, List.length_drop, polyX_len g hb h, List.length_replicate]; omega
theorem coinB_bytes {len : Nat} {l : List ShareV} (g : ShGood len l) (hb : ShBytes l) {b q : Nat} (h : b < 256) (j : Nat) : Bytes (coinB l b j q) := Bytes.append ((polyX_bytes g hb h j).drop 1) (Bytes.zeros _)
theorem coinsX_len {len : Nat} {l : List ShareV} (g : ShGood len l) (hb : ShBytes l) {sec : List Nat} (hs : Bytes sec) {q : Nat} (hq : l.length ≤ q) : ∀ m, (coinsX l sec q m).length = m * q
  | 0 => by simp [coinsX]
  | m + 1 => by rw [coinsX, List.length_append, coinsX_len g hb hs hq m, coinB_len g hb (getD_byte hs m) m hq, Nat.add_mul, Nat.one_mul]
theorem coinsX_bytes {len : Nat} {l : List ShareV} (g : ShGood len l) (hb : ShBytes l) {sec : List Nat} (hs : Bytes sec) {q : Nat} : ∀ m, Bytes (coinsX l sec q m)
  | 0 => Bytes.nil
  | m + 1 => Bytes.append (coinsX_bytes g hb hs m) (coinB_bytes g hb (getD_byte hs m) m)
/-- The error of Explain. -/
def explE (l : List ShareV) (k : Int) (n : Nat) : Int := if 256 < n then 4 else if k < 1 ∨ 16 < k then 3 else if k ≤ (l.length : Int) then 5 else chkE n [] l
def explS (l : List ShareV) (k : Int) (sec : List Nat) : List Nat := if explE l k sec.length = 0 then coinsX l sec (k - 1).toNat sec.length else []
end Go.Proofs.YtecndceekgaglaaGreat
