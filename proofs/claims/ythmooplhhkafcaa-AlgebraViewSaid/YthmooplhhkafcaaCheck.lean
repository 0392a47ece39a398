/- The contract of check of the program. Conditions: as the statement says. -/
import Derived.Test.YthmooplhhkafcaaShareV
namespace Go.Proofs.Ythmooplhhkafcaa
open Go.RowKit
set_option linter.unusedVariables false
/-- The error of the first share that has one. -/
def chkE (len : Nat) : List Nat → List ShareV → Int
  | _, [] => 0
  | seen, s :: r => if s.X < 1 ∨ 16 < s.X then 2 else if s.X ∈ seen then 10 else if s.n ≠ len then 22 else if 256 < len then 4 else chkE len (s.X :: seen) r
/-- The places that were seen, as an array. -/
def seenC (seen : List Nat) : Array Value := ((List.range 17).map fun i => Value.bool (decide (i ∈ seen))).toArray
theorem seenC_get (seen : List Nat) (i : Nat) (h : i < 17) : (seenC seen)[i]? = some (.bool (decide (i ∈ seen))) := by simp [seenC, h]
theorem seenC_nil : seenC [] = Array.replicate 17 (.bool false) := by
  apply Array.ext'
  simp [seenC, List.map_const']
theorem seenC_put (seen : List Nat) (x : Nat) (h : x < 17) : (seenC seen).setIfInBounds x (.bool true) = seenC (x :: seen) := by
  apply Array.ext_getElem?
  intro i
  by_cases hi : i < 17
  · rw [seenC_get _ _ hi]
    by_cases hx : x = i
    · subst hx; rw [Array.getElem?_setIfInBounds_self_of_lt (by simpa [seenC] using hi)]; simp
    · rw [Array.getElem?_setIfInBounds_ne hx, seenC_get _ _ hi]
      have : ¬ i = x := fun e => hx e.symm
      simp [this]
  · rw [Array.getElem?_eq_none (by simp [seenC]; omega), Array.getElem?_eq_none (by simp [seenC]; omega)]
theorem chkE_cons (len : Nat) (seen : List Nat) (s : ShareV) (r : List ShareV) : chkE len seen (s :: r) = if s.X < 1 ∨ 16 < s.X then 2 else if s.X ∈ seen then 10 else if s.n ≠ len then 22 else if 256 < len then 4 else chkE len (s.X :: seen) r := rfl
theorem blk_set' {w : World} {b o : Nat} {cs : Array Value} {t : TypeId} (h : w.heap[b]? = some (.cells cs t (0, 0))) (u : Value) : (w.setCell ⟨b, o, none⟩ u).heap[b]? = some (.cells (cs.setIfInBounds o u) t (0, 0)) := by
  simp [World.setCell, Array.getElem?_modify, h]
set_option maxRecDepth 100000 in
set_option maxHeartbeats 1000000 in
theorem check_any (A : Option Addr) (n c len : Nat) (l : List ShareV) (w : World) (hn : n ≤ 1073741824) (hlen : len ≤ 1073741824) (h : ShR w w.heap.size A n l) :
    Calls Try.prog 58 #[.slice A n c, .int .i64 len] w fun e w' => e = .returned (.int .i64 (chkE len [] l)) ∧ Below w.heap.size w w' := by
  have H := Lib.hid h
  clear h
  go_enter Try.func58, Try.ntmps58
  go_wp2
  go_loopw [10] (fun v wr => ∃ (k : Nat) (seen : List Nat), k ≤ n ∧ v = .int .i64 k ∧ wr.heap[w.heap.size]? = some (.cells (seenC seen) 138 (0, 0)) ∧ Below w.heap.size w wr ∧ chkE len [] l = chkE len seen (l.drop k)) (fun v _ => n - (intOf v).toNat)
  case atStart => exact ⟨0, [], Nat.zero_le _, rfl, by rw [seenC_nil]; exact heap_alloc_new w _, (Below.refl _ _).alloc (Nat.le_refl _) _, rfl⟩
  case round =>
    obtain ⟨k, seen, hk, rfl, hblk, hbw, hE⟩ := hrel
    have hsz := hbw.size
    have HE := Lib.hid hE; clear hE
    by_cases hlt : k < n
    · have hlt' : (k : Int) < (n : Int) := by omega
      have hkl : k < l.length := by rw [H.out.1]; exact hlt
      obtain ⟨b, off, rfl, hb, hc⟩ := H.out.2.1.2 (by omega)
      have hokk := H.out.2.2 _ (List.getElem_mem hkl)
      have hX := hokk.1
      have hn1 := hokk.2.2.2.1
      clear hokk
      have c0 : wr.cell? ⟨b, off + k * 2, none⟩ = some (.int .u8 (l[k]).X) := (hbw.cell (p := ⟨b, off + k * 2, none⟩) hb).trans (hc _ _ (shCells_0 l k hkl))
      have c1 : wr.cell? ⟨b, off + k * 2 + 1, none⟩ = some (.slice (l[k]).A (l[k]).n (l[k]).c) := (hbw.cell (p := ⟨b, off + k * 2 + 1, none⟩) hb).trans (hc _ _ (shCells_1 l k hkl))
      have HS : Hid (chkE len [] l = chkE len seen (l[k] :: l.drop (k + 1))) := Lib.hid (by rw [HE.out, List.drop_eq_getElem_cons hkl])
      clear hc HE
      generalize l[k] = s at c0 c1 HS hX hn1
      obtain ⟨X, A1, n1, cp1, Y⟩ := s
      dsimp only at c0 c1 hX hn1
      rw [chkE_cons] at HS
      dsimp only at HS
      clear hkl
      have hblt : w.heap.size < wr.heap.size := (Array.getElem?_eq_some_iff.1 hblk).1
      have HBK := Lib.hid hblk
      by_cases g1 : X < 1 ∨ 16 < X
      · rw [if_pos g1] at HS
        clear hblk
        rcases g1 with g1 | g1
        · have g1' : (X : Int) < 1 := by omega
          go_wp2_with fail
          go_ret
          exact ⟨by rw [HS.out]; rfl, hbw.alloc hsz _⟩
        · have g1' : ¬ (X : Int) < 1 := by omega
          have g2' : (16 : Int) < (X : Int) := by omega
          go_wp2_with fail
          go_ret
          exact ⟨by rw [HS.out]; rfl, hbw.alloc hsz _⟩
      · rw [if_neg g1] at HS
        have g1' : ¬ (X : Int) < 1 := by omega
        have g2' : ¬ (16 : Int) < (X : Int) := by omega
        have hX17 : X < 17 := by omega
        have hX17' : (X : Int) < 17 := by omega
        have cs : wr.cell? ⟨w.heap.size, X, none⟩ = some (.bool (decide (X ∈ seen))) := by rw [cell_of_row _ _ _ _ _ _ hblk, seenC_get _ _ hX17]
        have fs : wr.frozen? ⟨w.heap.size, X, none⟩ = false := by simp [World.frozen?, hblk]
        clear hblk
        by_cases g3 : X ∈ seen
        · rw [if_pos g3] at HS
          rw [decide_eq_true g3] at cs
          have cs2 : (wr.alloc (.cells #[.int .u8 X, .slice A1 n1 cp1] 40)).cell? ⟨w.heap.size, X, none⟩ = some (.bool true) := (World.cell?_alloc_lt wr _ _ hblt).trans cs
          clear g1
          go_wp2_with fail
          go_ret
          exact ⟨by rw [HS.out]; rfl, hbw.alloc hsz _⟩
        · rw [if_neg g3] at HS
          rw [decide_eq_false g3] at cs
          have cs2 : (wr.alloc (.cells #[.int .u8 X, .slice A1 n1 cp1] 40)).cell? ⟨w.heap.size, X, none⟩ = some (.bool false) := (World.cell?_alloc_lt wr _ _ hblt).trans cs
          by_cases g4 : n1 = len
          · rw [if_neg (by omega)] at HS
            have g4' : ((n1 : Int) != (len : Int)) = false := by subst g4; simp
            by_cases g5 : 256 < len
            · rw [if_pos g5] at HS
              have g5' : (256 : Int) < (len : Int) := by omega
              clear g1 g3 g4
              go_wp2_with fail
              go_ret
              exact ⟨by rw [HS.out]; rfl, hbw.alloc hsz _⟩
            · rw [if_neg g5] at HS
              have g5' : ¬ (256 : Int) < (len : Int) := by omega
              have fs2 : (wr.alloc (.cells #[.int .u8 X, .slice A1 n1 cp1] 40)).frozen? ⟨w.heap.size, X, none⟩ = false := (World.frozen?_alloc_past _ _ _ hblt).trans fs
              clear g1 g3 g4
              go_wp2_with fail
              go_roundw
              case rel => exact ⟨k + 1, X :: seen, by omega, by go_num, by rw [← seenC_put _ _ hX17]; exact (Below.heap_alloc _ _ _ (by rw [size_setCell]; exact hblt)).trans (blk_set' HBK.out _), (hbw.setCell (p := ⟨w.heap.size, X, none⟩) (Nat.le_refl _) _).alloc (by rw [size_setCell]; exact hsz) _, HS.out⟩
              case measure => simp [intOf]; omega
          · rw [if_pos g4] at HS
            have g4' : ((n1 : Int) != (len : Int)) = true := by simp only [bne_iff_ne, ne_eq]; omega
            clear g1 g3 g4
            go_wp2_with fail
            go_ret
            exact ⟨by rw [HS.out]; rfl, hbw.alloc hsz _⟩
    · have hlt' : ¬ (k : Int) < (n : Int) := by omega
      have hz : chkE len [] l = 0 := by rw [HE.out, List.drop_of_length_le (by rw [H.out.1]; omega)]; rfl
      have HZ := Lib.hid hz
      clear hz hblk
      go_wp2_with fail
      go_ret
      exact ⟨by rw [HZ.out]; rfl, hbw⟩
end Go.Proofs.Ythmooplhhkafcaa
