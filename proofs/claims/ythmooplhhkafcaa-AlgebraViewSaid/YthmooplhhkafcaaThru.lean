/- The contracts of put and through of the program. Conditions: as each statement says. -/
import Derived.Test.YthmooplhhkafcaaZipB
import Derived.Test.YthmooplhhkafcaaOver
import Derived.BigRegion
namespace Go.Proofs.Ythmooplhhkafcaa
open Go.RowKit
set_option linter.unusedVariables false
/-- The points that lie in block P. -/
def PtsAt (w : World) (P : Nat) (ps : List (Nat × Nat)) : Prop :=
  ∃ cs : Array Value, w.heap[P]? = some (.cells cs 108 (0, 0)) ∧ cs.size = 35 ∧ cs[34]? = some (.int .i64 ps.length) ∧ ps.length ≤ 17 ∧
    ∀ i (h : i < ps.length), cs[i]? = some (.int .u8 (ps[i]).1) ∧ cs[17 + i]? = some (.int .u8 (ps[i]).2)
theorem PtsAt.keep {w w' : World} {P : Nat} {ps : List (Nat × Nat)} (h : PtsAt w P ps) (hk : w'.heap[P]? = w.heap[P]?) : PtsAt w' P ps := by
  obtain ⟨cs, h1, h2⟩ := h; exact ⟨cs, hk.trans h1, h2⟩
/-- No points. -/
abbrev zero35 : Array Value := #[.int .u8 0, .int .u8 0, .int .u8 0, .int .u8 0, .int .u8 0, .int .u8 0, .int .u8 0, .int .u8 0, .int .u8 0, .int .u8 0, .int .u8 0, .int .u8 0, .int .u8 0, .int .u8 0, .int .u8 0, .int .u8 0, .int .u8 0, .int .u8 0, .int .u8 0, .int .u8 0, .int .u8 0, .int .u8 0, .int .u8 0, .int .u8 0, .int .u8 0, .int .u8 0, .int .u8 0, .int .u8 0, .int .u8 0, .int .u8 0, .int .u8 0, .int .u8 0, .int .u8 0, .int .u8 0, .int .i64 0]
theorem PtsAt.new (w : World) : PtsAt (w.alloc (.cells zero35 108)) w.heap.size [] := ⟨zero35, heap_alloc_new w _, rfl, rfl, Nat.zero_le _, fun i h => absurd h (by simp)⟩
theorem blk_set {w : World} {b o : Nat} {cs : Array Value} {t : TypeId} (h : w.heap[b]? = some (.cells cs t (0, 0))) (u : Value) : (w.setCell ⟨b, o, none⟩ u).heap[b]? = some (.cells (cs.setIfInBounds o u) t (0, 0)) := by
  simp [World.setCell, Array.getElem?_modify, h]
set_option maxRecDepth 100000 in
set_option maxHeartbeats 1000000 in
theorem put_any (P x y : Nat) (ps : List (Nat × Nat)) (w : World) (hx : x < 256) (hy : y < 256) (h : PtsAt w P ps) (hn : ps.length < 17) :
    Calls Try.prog 59 #[.pointer (some ⟨P, 0, none⟩), .int .u8 x, .int .u8 y] w fun e w' => (∃ u, e = .returned u) ∧ PtsAt w' P (ps ++ [(x, y)]) ∧ w.grownBy w' (some P) ∧ w'.heap.size = w.heap.size := by
  obtain ⟨cs, hb, hsz, hc, _, hpt⟩ := h
  obtain ⟨n, hnl⟩ : ∃ n, n = ps.length := ⟨_, rfl⟩
  rw [← hnl] at hc hn
  have k34 : w.cell? ⟨P, 34, none⟩ = some (.int .i64 n) := by rw [cell_of_row _ _ _ _ _ _ hb]; exact hc
  have kf : ∀ o, w.frozen? ⟨P, o, none⟩ = false := fun o => by simp [World.frozen?, hb]
  obtain ⟨u1, k1⟩ : ∃ u, w.cell? ⟨P, n, none⟩ = some u := ⟨_, (cell_of_row _ _ _ _ _ _ hb).trans (Array.getElem?_eq_getElem (by omega))⟩
  obtain ⟨u2, k2⟩ : ∃ u, w.cell? ⟨P, 17 + n, none⟩ = some u := ⟨_, (cell_of_row _ _ _ _ _ _ hb).trans (Array.getElem?_eq_getElem (by omega))⟩
  have HB := Lib.hid hb; have HSZ := Lib.hid hsz; have HC := Lib.hid hc; have HPT := Lib.hid hpt; have HNL := Lib.hid hnl
  have hn' : (n : Int) < 17 := by omega
  clear hb hsz hc hpt hnl
  go_enter Try.func59, Try.ntmps59
  go_wp2_with fail
  go_region
  obtain ⟨w1, hw1⟩ : ∃ w1, w1 = ((w.setCell ⟨P, n, none⟩ (.int .u8 x)).setCell ⟨P, 17 + n, none⟩ (.int .u8 y)).drew := ⟨_, rfl⟩
  have B1 : w1.heap[P]? = some (.cells ((cs.setIfInBounds n (.int .u8 x)).setIfInBounds (17 + n) (.int .u8 y)) 108 (0, 0)) := by rw [hw1]; exact blk_set (blk_set HB.out _) _
  have G1 : w.grownBy w1 (some P) := by rw [hw1]; exact grown_drewN (grown_set (grown_set (World.grownBy.refl _ _) _ _) _ _) 1
  have Z1 : w1.heap.size = w.heap.size := by rw [hw1]; show ((w.setCell _ _).setCell _ _).heap.size = _; rw [size_setCell, size_setCell]
  have k34' : w1.cell? ⟨P, 34, none⟩ = some (.int .i64 n) := by rw [cell_of_row _ _ _ _ _ _ B1, Array.getElem?_setIfInBounds_ne (by omega), Array.getElem?_setIfInBounds_ne (by omega)]; exact HC.out
  have kf' : w1.frozen? ⟨P, 34, none⟩ = false := by simp [World.frozen?, B1]
  rw [← hw1]
  have HB1 := Lib.hid B1; have HZ1 := Lib.hid Z1
  clear hw1 kf k34 k1 k2 B1 Z1
  go_wp2_with fail
  go_end0
  refine ⟨⟨_, rfl⟩, ⟨_, blk_set HB1.out _, by simp [HSZ.out], ?_, by simp; have := HNL.out; omega, fun i hi => ?_⟩, grown_set G1 _ _, (size_setCell _ _ _).trans HZ1.out⟩
  · rw [Array.getElem?_setIfInBounds_self_of_lt (by simp [HSZ.out])]; simp [← HNL.out]
  · simp only [List.length_append, List.length_cons, List.length_nil] at hi
    have hsz := HSZ.out
    have hnl := HNL.out
    rcases Nat.lt_or_ge i ps.length with h | h
    · obtain ⟨h1, h2⟩ := HPT.out i h
      rw [List.getElem_append_left h]
      refine ⟨?_, ?_⟩
      · rw [Array.getElem?_setIfInBounds_ne (by omega), Array.getElem?_setIfInBounds_ne (by omega), Array.getElem?_setIfInBounds_ne (by omega)]; exact h1
      · rw [Array.getElem?_setIfInBounds_ne (by omega), Array.getElem?_setIfInBounds_ne (by omega), Array.getElem?_setIfInBounds_ne (by omega)]; exact h2
    · obtain rfl : i = n := by omega
      rw [List.getElem_append_right h]
      refine ⟨?_, ?_⟩
      · rw [Array.getElem?_setIfInBounds_ne (by omega), Array.getElem?_setIfInBounds_ne (by omega), Array.getElem?_setIfInBounds_self_of_lt (by omega)]; simp [hnl]
      · rw [Array.getElem?_setIfInBounds_ne (by omega), Array.getElem?_setIfInBounds_self_of_lt (by simp; omega)]; simp [hnl]
/-- The program's rounds, from the first point on. -/
def nOut (ps : List (Nat × Nat)) : Nat → List Nat × List Nat
  | 0 => (List.replicate ps.length 0, 1 :: List.replicate ps.length 0)
  | k + 1 => (stepO (nOut ps k).1 (nOut ps k).2 (ps.getD k (0, 0)).1 (ps.getD k (0, 0)).2, upN (nOut ps k).2 (ps.getD k (0, 0)).1)
theorem newton_nOut (ps : List (Nat × Nat)) : ∀ k, k ≤ ps.length → newton (ps.drop k) (nOut ps k).1 (nOut ps k).2 = throughN ps
  | 0, _ => rfl
  | k + 1, h => by
    rw [← newton_nOut ps k (by omega), List.drop_eq_getElem_cons (show k < ps.length by omega)]
    have hg : ps.getD k (0, 0) = ps[k] := by simp [List.getD, List.getElem?_eq_getElem (show k < ps.length by omega)]
    conv => rhs; rw [show ps[k] = ((ps[k]).1, (ps[k]).2) from rfl, newton]
    rw [nOut, hg]
theorem nOut_I (ps : List (Nat × Nat)) (hb : PtB ps) (hd : (ps.map (·.1)).Nodup) : ∀ k, k ≤ ps.length → NewtonI ps.length (ps.take k) (nOut ps k).1 (nOut ps k).2
  | 0, _ => by simpa [nOut] using NewtonI.start ps.length
  | k + 1, h => by
    have hk : k < ps.length := by omega
    have hg : ps.getD k (0, 0) = ps[k] := by simp [List.getD, List.getElem?_eq_getElem hk]
    have I := nOut_I ps hb hd k (by omega)
    have hkb := hb _ (List.getElem_mem hk)
    rw [take_snoc _ _ hk, nOut, hg]
    refine I.step (by simp; omega) (fun p hp => hb p (List.mem_of_mem_take hp)) hkb.1 hkb.2 (fun hm => ?_)
    have h2 := List.take_append_drop k ps
    rw [List.drop_eq_getElem_cons hk] at h2
    rw [← h2, List.map_append, List.map_cons] at hd
    exact (List.nodup_append.1 hd).2.2 _ hm _ (List.mem_cons_self ..) rfl
end Go.Proofs.Ythmooplhhkafcaa
