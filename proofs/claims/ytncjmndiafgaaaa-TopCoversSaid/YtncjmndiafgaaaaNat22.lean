/- The contracts of Rate, ones, and frac at small numbers. Conditions: as each statement says. -/
import Derived.Test.YtncjmndiafgaaaaNat21
namespace Go.Proofs.Ytncjmndiafgaaaa
open Go.RowKit
set_option linter.unusedVariables false
/-- How many bits of a number are true. -/
def onesN (n : Nat) : Nat := if h : n = 0 then 0 else n % 2 + onesN (n / 2)
theorem onesN_zero : onesN 0 = 0 := by rw [onesN]; rfl
theorem onesN_step (n : Nat) : onesN n = n % 2 + onesN (n / 2) := by
  by_cases h : n = 0
  · subst h; simp [onesN_zero]
  · rw [onesN, dif_neg h]
theorem onesN_le (n : Nat) : onesN n ≤ n := by
  induction n using Nat.strongRecOn with
  | ind n ih =>
    rw [onesN_step]
    by_cases h : n = 0
    · subst h; simp [onesN_zero]
    · have := ih (n / 2) (by omega); omega
def OnesP (n : Nat) (w : World) (e : Ending) (w' : World) : Prop := (∃ z : Int, z = onesN n ∧ e = .returned (.int .i64 z)) ∧ w = w'
set_option maxHeartbeats 1000000 in
theorem ones_any (n : Nat) (nI : Int) (w : World) (hnI : nI = n) (hn : n ≤ 1000000) : Calls Try.prog 6 #[.int .i64 nI] w (OnesP n w) := by
  have HN := Lib.hid hnI
  clear hnI
  go_enter Try.func6, Try.ntmps6
  go_wp2_with fail
  go_loop [0, 3] (fun nv cv => ∃ (m c : Nat) (mI cI : Int), mI ≤ m ∧ (m : Int) ≤ mI ∧ cI ≤ c ∧ (c : Int) ≤ cI ∧ nv = .int .i64 mI ∧ cv = .int .i64 cI ∧ c + onesN m = onesN n ∧ m ≤ n) (fun nv _ => (intOf nv).toNat)
  case atStart =>
    have h := HN.out
    exact ⟨n, 0, nI, 0, by omega, by omega, by omega, by omega, rfl, rfl, by omega, Nat.le_refl _⟩
  case round =>
    obtain ⟨m, c, mI, cI, h1, h2, h3, h4, rfl, rfl, hs, hm⟩ := hrel
    have hle := onesN_le n
    have HS := Lib.hid hs
    have c0 : 0 ≤ cI := by omega
    have c1 : cI ≤ 1000000 := by omega
    have c2 : mI ≤ 1000000 := by omega
    by_cases hp : 0 < mI
    · have c3 : 0 ≤ mI := by omega
      have HST := Lib.hid (onesN_step m)
      clear hs
      go_wp2_with fail
      go_round
      case rel => exact ⟨m / 2, c + m % 2, _, _, by omega, by omega, by omega, by omega, rfl, rfl, by have a := HS.out; have b := HST.out; omega, by omega⟩
      case measure => simp [intOf]; omega
    · have HZ : Hid (cI = onesN n) := Lib.hid (by
        have h0 : m = 0 := by omega
        subst h0
        rw [onesN_zero] at hs; omega)
      clear hs
      go_wp2_with fail
      go_ret
      exact ⟨⟨cI, HZ.out, rfl⟩, rfl⟩
/-- A block known whole. -/
def BlkN (w : World) (h : Nat) (cs : Array Value) (t : TypeId) : Prop := w.heap[h]? = some (.cells cs t (0, 0))
theorem BlkN.lt {w : World} {h : Nat} {cs : Array Value} {t : TypeId} (k : BlkN w h cs t) : h < w.heap.size := (Array.getElem?_eq_some_iff.1 k).1
theorem BlkN.past {w w' : World} {h B : Nat} {cs : Array Value} {t : TypeId} (k : BlkN w h cs t) (hb : Below B w w') (hB : h < B) : BlkN w' h cs t := (hb.block h hB).trans k
theorem BlkN.cell {w : World} {h : Nat} {cs : Array Value} {t : TypeId} (k : BlkN w h cs t) (i : Nat) : w.cell? ⟨h, i, none⟩ = cs[i]? := by rw [cell_of_row _ _ _ _ _ _ k]
theorem BlkN.froz {w : World} {h : Nat} {cs : Array Value} {t : TypeId} (k : BlkN w h cs t) (i : Nat) : w.frozen? ⟨h, i, none⟩ = false := by
  have : w.heap[h]? = some (.cells cs t (0, 0)) := k
  rw [World.frozen?, this]; rfl
theorem BlkN.new (w : World) (cs : Array Value) (t : TypeId) : BlkN (w.alloc (.cells cs t)) w.heap.size cs t := heap_alloc_new w _
theorem BlkN.set {w : World} {h : Nat} {cs : Array Value} {t : TypeId} (k : BlkN w h cs t) (i : Nat) (u : Value) : BlkN (w.setCell ⟨h, i, none⟩ u) h (cs.setIfInBounds i u) t := by
  have : w.heap[h]? = some (.cells cs t (0, 0)) := k
  show (w.setCell ⟨h, i, none⟩ u).heap[h]? = _
  simp only [World.setCell, Array.getElem?_modify, this, if_true, Option.map_some, Option.isSome_none, Bool.false_eq_true, if_false]
abbrev estC (TI sI seI LI RI : Int) : Value := .agg #[.int .i64 TI, .int .i64 sI, .int .i64 seI, .int .i64 LI, .int .i64 RI]
def RateP (T s se v u : Nat) (TI sI seI : Int) (w : World) (e : Ending) (w' : World) : Prop := ∃ (L : Nat) (LI : Int), LI = L ∧ e = .returned (.tuple #[estC TI sI seI LI (LI - seI), .int .i64 0]) ∧ se ≤ L ∧ L ≤ T ∧ (L = se ∨ possB T s se v u L = true) ∧ (L = T ∨ possB T s se v u (L + 1) = false) ∧ Below w.heap.size w w'
set_option maxRecDepth 100000 in
set_option maxHeartbeats 1000000 in
theorem rate_num (f : FV) (w : World) (T s se : Nat) (TI sI seI : Int) (hTI : TI = T) (hsI : sI = s) (hseI : seI = se) (hT : T ≤ 10) (hs : s ≤ T) (hse : se ≤ s) (hf : f.ok w w.heap.size) (hvu : f.v < f.u) (hu : f.u ≤ 1000000) :
    Calls Try.prog 7 #[.int .i64 TI, .int .i64 sI, .int .i64 seI, .agg #[.slice f.A f.n f.c, .slice f.B f.m f.d]] w (RateP T s se f.v f.u TI sI seI w) := by
  have j0 : 0 ≤ seI := by omega
  have j1 : seI ≤ 10 := by omega
  have HTI := Lib.hid hTI; have HSI := Lib.hid hsI; have HSE := Lib.hid hseI; have HF := Lib.hid hf
  clear hTI hsI hseI hf
  go_enter Try.func7, Try.ntmps7
  go_wp2_with fail
  have HK0 := Lib.hid (BlkN.new (w.alloc (.cells #[.slice f.A f.n f.c, .slice f.B f.m f.d] 29)) #[.int .i64 0, .int .i64 0, .int .i64 0, .int .i64 0, .int .i64 0] 32)
  have HB0 : Hid (Below w.heap.size w ((w.alloc (.cells #[.slice f.A f.n f.c, .slice f.B f.m f.d] 29)).alloc (.cells #[.int .i64 0, .int .i64 0, .int .i64 0, .int .i64 0, .int .i64 0] 32))) := Lib.hid (((Below.refl _ _).alloc (Nat.le_refl _) _).alloc (by simp) _)
  have HS : Hid ((w.alloc (.cells #[.slice f.A f.n f.c, .slice f.B f.m f.d] 29)).heap.size = w.heap.size + 1) := Lib.hid (by simp)
  rw [HS.out] at HK0
  refine (bound_num f _ T s se TI sI seI HTI.out HSI.out HSE.out hT hs hse (HF.out.past HB0.out HB0.out.size) hvu hu).mono ?_
  generalize (w.alloc (.cells #[.slice f.A f.n f.c, .slice f.B f.m f.d] 29)).alloc (.cells #[.int .i64 0, .int .i64 0, .int .i64 0, .int .i64 0, .int .i64 0] 32) = W at HK0 HB0 ⊢
  clear HS
  rintro e w1 ⟨L, LI, hLI, rfl, p1, p2, p3, p4, hb1⟩
  have hk1 := BlkN.past HK0.out hb1 HK0.out.lt
  have HB1 := Lib.hid (bnextN HB0.out hb1)
  have l0 : 0 ≤ LI := by omega
  have l1 : LI ≤ 10 := by omega
  have c0 : w1.cell? ⟨w.heap.size + 1, 0, none⟩ = some (.int .i64 0) := hk1.cell 0
  have c1 : w1.cell? ⟨w.heap.size + 1, 1, none⟩ = some (.int .i64 0) := hk1.cell 1
  have c2 : w1.cell? ⟨w.heap.size + 1, 2, none⟩ = some (.int .i64 0) := hk1.cell 2
  have c3 : w1.cell? ⟨w.heap.size + 1, 3, none⟩ = some (.int .i64 0) := hk1.cell 3
  have c4 : w1.cell? ⟨w.heap.size + 1, 4, none⟩ = some (.int .i64 0) := hk1.cell 4
  have f0 := hk1.froz 0
  have f1 := hk1.froz 1
  have f2 := hk1.froz 2
  have f3 := hk1.froz 3
  have f4 := hk1.froz 4
  have HP3 := Lib.hid p3; have HP4 := Lib.hid p4; have HLI := Lib.hid hLI
  have HK1 := Lib.hid hk1
  clear hk1 hb1 p3 p4 hLI HK0 HB0
  go_wp2_with fail
  have hk5 := ((((HK1.out.set 0 (.int .i64 TI)).set 1 (.int .i64 sI)).set 2 (.int .i64 seI)).set 3 (.int .i64 LI)).set 4 (.int .i64 (LI - seI))
  have hb5 : Below w.heap.size w (((((w1.setCell ⟨w.heap.size + 1, 0, none⟩ (.int .i64 TI)).setCell ⟨w.heap.size + 1, 1, none⟩ (.int .i64 sI)).setCell ⟨w.heap.size + 1, 2, none⟩ (.int .i64 seI)).setCell ⟨w.heap.size + 1, 3, none⟩ (.int .i64 LI)).setCell ⟨w.heap.size + 1, 4, none⟩ (.int .i64 (LI - seI))) :=
    ((((HB1.out.setCell (p := ⟨w.heap.size + 1, 0, none⟩) (Nat.le_succ _) _).setCell (p := ⟨w.heap.size + 1, 1, none⟩) (Nat.le_succ _) _).setCell (p := ⟨w.heap.size + 1, 2, none⟩) (Nat.le_succ _) _).setCell (p := ⟨w.heap.size + 1, 3, none⟩) (Nat.le_succ _) _).setCell (p := ⟨w.heap.size + 1, 4, none⟩) (Nat.le_succ _) _
  generalize ((((w1.setCell ⟨w.heap.size + 1, 0, none⟩ (.int .i64 TI)).setCell ⟨w.heap.size + 1, 1, none⟩ (.int .i64 sI)).setCell ⟨w.heap.size + 1, 2, none⟩ (.int .i64 seI)).setCell ⟨w.heap.size + 1, 3, none⟩ (.int .i64 LI)).setCell ⟨w.heap.size + 1, 4, none⟩ (.int .i64 (LI - seI)) = wf at hk5 hb5 ⊢
  have d0 : wf.cell? ⟨w.heap.size + 1, 0, none⟩ = some (.int .i64 TI) := hk5.cell 0
  have d1 : wf.cell? ⟨w.heap.size + 1, 1, none⟩ = some (.int .i64 sI) := hk5.cell 1
  have d2 : wf.cell? ⟨w.heap.size + 1, 2, none⟩ = some (.int .i64 seI) := hk5.cell 2
  have d3 : wf.cell? ⟨w.heap.size + 1, 3, none⟩ = some (.int .i64 LI) := hk5.cell 3
  have d4 : wf.cell? ⟨w.heap.size + 1, 4, none⟩ = some (.int .i64 (LI - seI)) := hk5.cell 4
  refine bodyPost_ret (v := .tuple #[estC TI sI seI LI (LI - seI), .int .i64 0]) (by simp [results, Try.results7, go_sem, d0, d1, d2, d3, d4]) rfl ?_
  exact ⟨L, LI, HLI.out, rfl, p1, p2, HP3.out, HP4.out, hb5⟩
#print axioms rate_num
end Go.Proofs.Ytncjmndiafgaaaa
