/- The contract of search of a cascade's machine. Conditions: as each statement says. -/
import Derived.Test.YtncjmndiafgaaaaRecMap
import Derived.Deep.LoopGhost
import Derived.Deep.DeepCutAuto
import Derived.Deep.CutBlock
namespace Go.Proofs.Ytncjmndiafgaaaa
open Go.RowKit
set_option linter.unusedVariables false
/-- The better one of two odd questions. -/
def bestStep (L : Lay) (S : Mst) (best : Option Qn) (q : Qn) : Option Qn :=
  if oddB L S.b q (toldAns S.told q) = false then best else
    match best with
    | none => some q
    | some b => if b.t - b.f ≤ q.t - q.f then best else some q
def blocksTo (L : Lay) (p : Nat) : List Qn := (List.range p).flatMap (cutL L.B L.n)
theorem blocksTo_succ (L : Lay) (p : Nat) : blocksTo L (p + 1) = blocksTo L p ++ cutL L.B L.n p := by simp [blocksTo, List.range_succ]
def bestOf (L : Lay) (S : Mst) (qs : List Qn) : Option Qn := qs.foldl (bestStep L S) none
def bestS (L : Lay) (S : Mst) : Option Qn := bestOf L S (blocksTo L (S.pass + 1))
theorem bestOf_snoc (L : Lay) (S : Mst) (qs : List Qn) (q : Qn) : bestOf L S (qs ++ [q]) = bestStep L S (bestOf L S qs) q := by simp [bestOf]
theorem best_stay {L : Lay} {S : Mst} {b : Qn} (h1 : b.t - b.f = 1) : ∀ (qs : List Qn), (∀ q ∈ qs, q.f < q.t) → qs.foldl (bestStep L S) (some b) = some b
  | [], _ => rfl
  | q :: qs, h => by
    have hq := h q (by simp)
    have e : bestStep L S (some b) q = some b := by
      unfold bestStep
      split
      · rfl
      · simp only; rw [if_pos (by omega)]
    rw [List.foldl_cons, e]
    exact best_stay h1 qs fun x hx => h x (by simp [hx])
theorem bestOf_stay {L : Lay} {S : Mst} {b : Qn} {qs rs : List Qn} (h : bestOf L S qs = some b) (h1 : b.t - b.f = 1) (hr : ∀ q ∈ rs, q.f < q.t) : bestOf L S (qs ++ rs) = some b := by
  unfold bestOf at *
  rw [List.foldl_append, h]
  exact best_stay h1 rs hr
/-- The box of the best question. -/
def boxC : Option Qn → Array Value
  | none => #[.int .i64 0, .int .i64 0, .int .i64 0]
  | some q => #[.int .i64 q.p, .int .i64 q.f, .int .i64 q.t]
def BoxAt (w : World) (H : Nat) (o : Option Qn) : Prop := w.heap[H]? = some (.cells (boxC o) 90 (0, 0))
theorem BoxAt.below {w w' : World} {H : Nat} {o : Option Qn} (h : BoxAt w H o) (hb : Below w.heap.size w w') : BoxAt w' H o := (hb.block _ (Array.getElem?_eq_some_iff.1 h).1).trans h
theorem BoxAt.lt {w : World} {H : Nat} {o : Option Qn} (h : BoxAt w H o) : H < w.heap.size := (Array.getElem?_eq_some_iff.1 h).1
theorem BoxAt.cell {w : World} {H : Nat} {o : Option Qn} (h : BoxAt w H o) (i : Nat) : w.cell? ⟨H, i, none⟩ = (boxC o)[i]? := cell_of_row _ _ _ _ _ _ h
theorem BoxAt.put {w : World} {H : Nat} {o : Option Qn} (h : BoxAt w H o) (q : Qn) : BoxAt (((w.setCell ⟨H, 0, none⟩ (.int .i64 q.p)).setCell ⟨H, 1, none⟩ (.int .i64 q.f)).setCell ⟨H, 2, none⟩ (.int .i64 q.t)) H (some q) := by
  have h1 := blk_setR (blk_setR (blk_setR h (o := 0) (.int .i64 q.p)) (o := 1) (.int .i64 q.f)) (o := 2) (.int .i64 q.t)
  unfold BoxAt
  rw [h1]
  cases o <;> rfl

/-- What stands behind the loops. -/
def ScanP (L : Lay) (S : Mst) (w : World) (v4 : Value) (wx : World) : Prop := v4 = .bool (bestS L S).isSome ∧ BoxAt wx w.heap.size (bestS L S) ∧ Below w.heap.size w wx
/-- What the step hands back. -/
def SearchP (L : Lay) (vt : Value) (S : Mst) (w : World) (e : Ending) (w' : World) : Prop :=
  MTurn L vt w w' ∧ match bestS L S with
    | none => e = .returned (askV L) ∧ MAt w' L vt { S with pass := S.pass + 1, block := 0 }
    | some q => if S.flips = L.n then e = .returned .nilFunc ∧ MAt w' L vt { S with failed := true } else e = .returned (halveV L) ∧ MAt w' L vt { S with odd := q, ans := toldAns S.told q, searching := true }
theorem bestStep_in {L : Lay} {S : Mst} {P : Qn → Prop} {o : Option Qn} {q : Qn} (ho : ∀ b, o = some b → P b) (hq : P q) : ∀ b, bestStep L S o q = some b → P b := by
  intro b hb
  unfold bestStep at hb
  split at hb
  · exact ho b hb
  · split at hb
    · obtain rfl := Option.some.inj hb; exact hq
    · rename_i c _
      split at hb
      · exact ho b hb
      · obtain rfl := Option.some.inj hb; exact hq
theorem bestOf_in {L : Lay} {S : Mst} {P : Qn → Prop} (qs : List Qn) (h : ∀ q ∈ qs, P q) : ∀ b, bestOf L S qs = some b → P b := by
  have key : ∀ (qs : List Qn) (o : Option Qn), (∀ b, o = some b → P b) → (∀ q ∈ qs, P q) → ∀ b, qs.foldl (bestStep L S) o = some b → P b := by
    intro qs
    induction qs with
    | nil => intro o ho _ b hb; exact ho b hb
    | cons q qs ih => intro o ho h b hb; exact ih _ (bestStep_in ho (h q (by simp))) (fun x hx => h x (by simp [hx])) b hb
  exact key qs none (fun b hb => by cases hb) h
theorem blocksTo_in {L : Lay} {p : Nat} {q : Qn} (hB : 1 ≤ L.B) (h : q ∈ blocksTo L p) : q.p < p ∧ q.f < q.t ∧ q.t ≤ L.n := by
  obtain ⟨i, hi, hq⟩ := List.mem_flatMap.1 h
  obtain ⟨j, hj⟩ := List.mem_iff_getElem?.1 hq
  obtain ⟨h1, h2, h3⟩ := cutL_in hB hj
  exact ⟨by rw [h1]; simpa using hi, h2, h3⟩
set_option maxRecDepth 100000 in
set_option maxHeartbeats 8000000 in
theorem search_any (L : Lay) (vt : Value) (S : Mst) (w : World) (hm : MAt w L vt S) (hp : S.pass < L.P) :
    Calls Try.prog 74 #[ptrV L] w (SearchP L vt S w) := by
  have hst := hm.st
  have hP6 := hst.hP
  have hB1 := hst.hB.1
  have hn5 := hst.hn
  have HM := Lib.hid hm
  obtain ⟨w1, hw1⟩ : ∃ w1, w1 = w.alloc (.cells #[.int .i64 0, .int .i64 0, .int .i64 0] 90) := ⟨_, rfl⟩
  have Bw1 : Below w.heap.size w w1 := by rw [hw1]; exact (Below.refl _ _).alloc (Nat.le_refl _) _
  have hbx1 : BoxAt w1 w.heap.size none := by unfold BoxAt; rw [hw1]; exact heap_alloc_new w _
  have hs1 : w1.heap.size = w.heap.size + 1 := by rw [hw1]; simp
  have hltp := hm.lt
  have HW := Lib.hid hw1
  clear hm hst hw1
  go_enter Try.func74, Try.ntmps74
  go_wp2_with fail
  go_step3
  go_wp2_with fail
  rw [← HW.out]
  clear HW
  go_step3
  have c11 : w1.cell? ⟨L.p, 11, none⟩ = some (.int .i64 S.pass) := (HM.out.below Bw1).cell 11
  have hpi : (S.pass : Int) ≤ 6 := by omega
  go_upto_block 0 with fail
  go_cut [4] from 4 to 62 (fun s4 wx => ScanP L S w s4 wx)
  case first =>
    go_wp2_with fail
    go_loopg [4, 13] (S.pass + 1) (fun g s4 s13 wx => ∃ k : Nat, k + g = S.pass + 1 ∧ s13 = .int .i64 k ∧ s4 = .bool (bestOf L S (blocksTo L k)).isSome ∧ BoxAt wx w.heap.size (bestOf L S (blocksTo L k)) ∧ Below w.heap.size w wx)
    case atStart => exact ⟨0, by omega, rfl, rfl, hbx1, Bw1⟩
    case round =>
      obtain ⟨k, hkg, rfl, rfl, hbx, hbw⟩ := hrel
      obtain ⟨wo, rfl⟩ : ∃ x : World, x = wr := ⟨_, rfl⟩
      have HBX := Lib.hid hbx
      have hso := hbw.size
      clear hbx
      cases gk with
      | zero =>
        have hk : ¬ (k : Int) < (S.pass : Int) + 1 := by omega
        obtain rfl : k = S.pass + 1 := by omega
        go_wp2_with fail
        go_meet
        exact ⟨rfl, HBX.out, hbw⟩
      | succ g =>
        have hk : (k : Int) < (S.pass : Int) + 1 := by omega
        have hmk := HM.out.below hbw
        have hst := hmk.st
        have c5 : wo.cell? ⟨L.p, 5, none⟩ = some (.slice (some ⟨L.gb, 0, none⟩) L.P L.cb) := hmk.cell 5
        have hql : k < L.bs.length := by rw [hst.bl]; omega
        obtain ⟨A, c, hA⟩ : ∃ A c, L.bs[k]? = some (A, c) := ⟨_, _, List.getElem?_eq_getElem hql⟩
        have cb : wo.cell? ⟨L.gb, k, none⟩ = some (.slice A (cutL L.B L.n k).length c) := by
          rw [hst.blk.cellAt k (by omega), List.getElem?_mapIdx, hA]; rfl
        obtain ⟨hnc, hro⟩ := hst.blkr k A c hA
        have HRO := Lib.hid (hst.blkr k A c hA).2
        have hkP : (k : Int) < (L.P : Int) := by omega
        have hk6 : (k : Int) ≤ 6 := by omega
        have hlen : (cutL L.B L.n k).length ≤ 512 := by rw [cutL, cutK_len]; exact Nat.le_trans (cutN_le (sizeP_pos hB1 _)) hn5
        have HIN : Hid (∀ (j : Nat) q, (cutL L.B L.n k)[j]? = some q → q.p = k ∧ q.f < q.t ∧ q.t ≤ L.n) := Lib.hid fun j q h => cutL_in hB1 h
        have HA := Lib.hid hA
        clear hro hst hmk hA hql
        go_wp2_with fail
        clear c5 cb
        go_loopg [4, 24] ((cutL L.B L.n k).length) (fun g2 s4 s24 wx => ∃ j : Nat, j + g2 = (cutL L.B L.n k).length ∧ s24 = .int .i64 j ∧ s4 = .bool (bestOf L S (blocksTo L k ++ (cutL L.B L.n k).take j)).isSome ∧ BoxAt wx w.heap.size (bestOf L S (blocksTo L k ++ (cutL L.B L.n k).take j)) ∧ Below w.heap.size w wx)
        case atStart => exact ⟨0, by omega, rfl, by simp, by simpa using HBX.out, hbw⟩
        case round =>
          obtain ⟨j, hjg, rfl, rfl, hbx2, hbw2⟩ := hrel
          obtain ⟨wa, rfl⟩ : ∃ x : World, x = wr := ⟨_, rfl⟩
          have HBX2 := Lib.hid hbx2
          have hsa := hbw2.size
          clear hbx2
          cases gk with
          | zero =>
            have hj : ¬ (j : Int) < ((cutL L.B L.n k).length : Int) := by omega
            have hjl : j = (cutL L.B L.n k).length := by omega
            have HJ : Hid (blocksTo L k ++ (cutL L.B L.n k).take j = blocksTo L (k + 1)) := Lib.hid (by rw [blocksTo_succ, hjl, List.take_length])
            rw [HJ.out] at HBX2
            go_wp2_with fail
            go_roundg g
            case measure => omega
            case rel => exact ⟨k + 1, by omega, by go_num, by first | rw [HJ.out] | rw [blocksTo_succ], HBX2.out, hbw2⟩
          | succ g2 =>
            have hjn : j < (cutL L.B L.n k).length := by omega
            have hj : (j : Int) < ((cutL L.B L.n k).length : Int) := by omega
            have hj5 : (j : Int) ≤ 512 := by omega
            have hma := HM.out.below hbw2
            have hrb := (hma.st.blkr k A c HA.out).2
            obtain ⟨ga, oa, rfl, hga, hca⟩ := (Rd.own hrb).2 (by omega)
            obtain ⟨q0, q1, q2⟩ := qCells_at (cutL L.B L.n k) j hjn
            have e0 : wa.cell? ⟨ga, oa + j * 3, none⟩ = some (.int .i64 ((cutL L.B L.n k)[j]).p) := hca _ _ q0
            have e1 : wa.cell? ⟨ga, oa + j * 3 + 1, none⟩ = some (.int .i64 ((cutL L.B L.n k)[j]).f) := hca _ _ q1
            have e2 : wa.cell? ⟨ga, oa + j * 3 + 2, none⟩ = some (.int .i64 ((cutL L.B L.n k)[j]).t) := hca _ _ q2
            have hqk : (cutL L.B L.n k)[j]? = some (cutL L.B L.n k)[j] := List.getElem?_eq_getElem hjn
            have HT : Hid (blocksTo L k ++ (cutL L.B L.n k).take (j + 1) = (blocksTo L k ++ (cutL L.B L.n k).take j) ++ [(cutL L.B L.n k)[j]]) := Lib.hid (by rw [take_snoc _ _ hjn, List.append_assoc])
            have hqi := HIN.out j _ hqk
            have HAFT : Hid (∀ q ∈ (cutL L.B L.n k).drop (j + 1) ++ ((List.range' (k + 1) (S.pass - k)).flatMap (cutL L.B L.n)), q.f < q.t) := Lib.hid (by
              intro q hq
              rcases List.mem_append.1 hq with h | h
              · obtain ⟨i, hi⟩ := List.mem_iff_getElem?.1 (List.mem_of_mem_drop h)
                exact (cutL_in hB1 hi).2.1
              · obtain ⟨i, _, h2⟩ := List.mem_flatMap.1 h
                obtain ⟨i2, hi2⟩ := List.mem_iff_getElem?.1 h2
                exact (cutL_in hB1 hi2).2.1)
            have HALL : Hid (blocksTo L (S.pass + 1) = (blocksTo L k ++ (cutL L.B L.n k).take (j + 1)) ++ ((cutL L.B L.n k).drop (j + 1) ++ ((List.range' (k + 1) (S.pass - k)).flatMap (cutL L.B L.n)))) := Lib.hid (by
              rw [← List.append_assoc, List.append_assoc (blocksTo L k), List.take_append_drop]
              have e : List.range (S.pass + 1) = List.range (k + 1) ++ List.range' (k + 1) (S.pass - k) := by
                rw [List.range_eq_range', List.range_eq_range', show S.pass + 1 = (k + 1) + (S.pass - k) by omega, ← List.range'_append_1, Nat.zero_add]
              rw [blocksTo, e, List.flatMap_append, ← blocksTo, blocksTo_succ])
            generalize (cutL L.B L.n k)[j] = q at hqk hqi e0 e1 e2 HT
            obtain ⟨qp, qf, qt⟩ := q
            dsimp only at e0 e1 e2 hqi
            obtain ⟨hqp, hq1, hq2⟩ := hqi
            have hqp' := hqp.symm
            clear hqp
            subst hqp'
            have hqo : (⟨k, qf, qt⟩ : Qn).ok := ⟨by simp only; omega, by simp only; omega, by simp only; omega⟩
            have hQI : QIn L ⟨k, qf, qt⟩ := ⟨by simp only; omega, by simp only; omega, by simp only; omega⟩
            have HQO := Lib.hid hqo; have HQI := Lib.hid hQI; have HMA := Lib.hid hma
            clear q0 q1 q2 hca hqk hqo hQI hrb hma
            go_wp2_with fail
            obtain ⟨wx, hwx⟩ : ∃ x, x = wa.alloc (.cells #[.int .i64 k, .int .i64 qf, .int .i64 qt] 90) := ⟨_, rfl⟩
            have hbx : Below wa.heap.size wa wx := by rw [hwx]; exact (Below.refl _ _).alloc (Nat.le_refl _) _
            have hqb : BoxAt wx wa.heap.size (some ⟨k, qf, qt⟩) := by unfold BoxAt; rw [hwx]; exact heap_alloc_new wa _
            have hsx : wx.heap.size = wa.heap.size + 1 := by rw [hwx]; simp
            have hlA : w.heap.size < wa.heap.size := HBX2.out.lt
            rw [← hwx]
            clear hwx e0 e1 e2
            have HMX := Lib.hid (HMA.out.below hbx); have HBB := Lib.hid (HBX2.out.below hbx); have HQB := Lib.hid hqb
            have hbwx := hbw2.trans (hbx.mono (by omega))
            have hlH : w.heap.size < wx.heap.size := HBB.out.lt
            obtain ⟨a, ha⟩ : ∃ a, a = toldAns S.told ⟨k, qf, qt⟩ := ⟨_, rfl⟩
            have HLK : Hid (∀ w' : World, Below wx.heap.size wx w' → (Instr.lookup 88 (.map (some L.km)) (.agg #[.int .i64 k, .int .i64 qf, .int .i64 qt]) false).run Try.prog w' = .ok (.bool a) w') := Lib.hid fun w' hb' => by
              rw [ha]; exact (HMX.out.below hb').known.look HQO.out
            have HA2 := Lib.hid ha
            clear hqb ha hbx HMA HBX2
            obtain ⟨best, hbest⟩ : ∃ o, o = bestOf L S (blocksTo L k ++ (cutL L.B L.n k).take j) := ⟨_, rfl⟩
            rw [← hbest] at HBB ⊢
            have HNEW : Hid (bestOf L S (blocksTo L k ++ (cutL L.B L.n k).take (j + 1)) = bestStep L S best ⟨k, qf, qt⟩) := Lib.hid (by rw [HT.out, bestOf_snoc, hbest])
            have HBIN : Hid (∀ b, best = some b → b.f < b.t ∧ b.t ≤ L.n) := Lib.hid (by
              rw [hbest]
              refine bestOf_in _ fun q hq => ?_
              rcases List.mem_append.1 hq with h | h
              · exact (blocksTo_in hB1 h).2
              · obtain ⟨i, hi⟩ := List.mem_iff_getElem?.1 (List.mem_of_mem_take h)
                exact (cutL_in hB1 hi).2)
            clear hbest HT
            cases hod : oddB L S.b ⟨k, qf, qt⟩ a
            · have HOD := Lib.hid hod
              clear hod
              have HST : Hid (bestStep L S best ⟨k, qf, qt⟩ = best) := Lib.hid (by unfold bestStep; rw [← HA2.out, HOD.out, if_pos rfl])
              refine wp_region_held_drew (S := fun w' => Below wx.heap.size wx w') (by kernel_rfl) ?_ (fun hHeld => ?_)
              · (try dsimp only); first | exact Below.refl _ _ | exact (Qw.refl wx).drew.below _ | exact hHeld.trans (hb4.mono hHeld.size)
              refine wpAnyH_take (i := 0) (oi := ⟨some 28, _, _, _, _, _⟩) (v := ?_) rfl (by kernel_rfl) (by kernel_rfl) (by kernel_rfl) (fun _ _ _ h => h) (Or.inl ⟨by rfl, ?_⟩) (by assumption) ?_
              rotate_left
              · (intro w hSw; (try dsimp only at hSw); go_simp; try with_reducible rfl)
              try simp only [Act.put, List.setIfInBounds_toArray, List.set_cons_zero, List.set_cons_succ]
              refine wpAnyH_take (i := 1) (oi := ⟨some 29, _, _, _, _, _⟩) (v := .agg #[.int .i64 k, .int .i64 qf, .int .i64 qt]) rfl (by kernel_rfl) (by kernel_rfl) (by kernel_rfl) (fun _ _ _ h => h) (Or.inl ⟨by rfl, ?_⟩) (by assumption) ?_
              · (intro w hSw; (try dsimp only at hSw); have h0 := (HQB.out.below hSw).cell 0; have h1 := (HQB.out.below hSw).cell 1; have h2 := (HQB.out.below hSw).cell 2; simp only [boxC] at h0 h1 h2; simp at h0 h1 h2; go_simp)
              try simp only [Act.put, List.setIfInBounds_toArray, List.set_cons_zero, List.set_cons_succ]
              refine wpAnyH_take (i := 2) (oi := ⟨some 30, _, _, _, _, _⟩) (v := ?_) rfl (by kernel_rfl) (by kernel_rfl) (by kernel_rfl) (fun _ _ _ h => h) (Or.inl ⟨by rfl, ?_⟩) (by assumption) ?_
              rotate_left
              · (intro w hSw; (try dsimp only at hSw); go_simp; try with_reducible rfl)
              try simp only [Act.put, List.setIfInBounds_toArray, List.set_cons_zero, List.set_cons_succ]
              refine wpAnyH_take (i := 3) (oi := ⟨some 31, _, _, _, _, _⟩) (v := ?_) rfl (by kernel_rfl) (by kernel_rfl) (by kernel_rfl) (fun _ _ _ h => h) (Or.inl ⟨by rfl, ?_⟩) (by assumption) ?_
              rotate_left
              · (intro w hSw; (try dsimp only at hSw); go_simp; try with_reducible rfl)
              try simp only [Act.put, List.setIfInBounds_toArray, List.set_cons_zero, List.set_cons_succ]
              refine wpAnyH_take (i := 4) (oi := ⟨some 32, _, _, _, _, _⟩) (v := ?_) rfl (by kernel_rfl) (by kernel_rfl) (by kernel_rfl) (fun _ _ _ h => h) (Or.inl ⟨by rfl, ?_⟩) (by assumption) ?_
              rotate_left
              · (intro w hSw; (try dsimp only at hSw); go_simp; try with_reducible rfl)
              try simp only [Act.put, List.setIfInBounds_toArray, List.set_cons_zero, List.set_cons_succ]
              refine wpAnyH_take (i := 5) (oi := ⟨some 33, _, _, _, _, _⟩) (v := .map (some L.km)) rfl (by kernel_rfl) (by kernel_rfl) (by kernel_rfl) (fun _ _ _ h => h) (Or.inl ⟨by rfl, ?_⟩) (by assumption) ?_
              · (intro w hSw; (try dsimp only at hSw); have h0 := (HMX.out.below hSw).cell 7; simp at h0; go_simp)
              try simp only [Act.put, List.setIfInBounds_toArray, List.set_cons_zero, List.set_cons_succ]
              refine wpAnyH_take (i := 6) (oi := ⟨some 34, _, _, _, _, _⟩) (v := .agg #[.int .i64 k, .int .i64 qf, .int .i64 qt]) rfl (by kernel_rfl) (by kernel_rfl) (by kernel_rfl) (fun _ _ _ h => h) (Or.inl ⟨by rfl, ?_⟩) (by assumption) ?_
              · (intro w hSw; (try dsimp only at hSw); have h0 := (HQB.out.below hSw).cell 0; have h1 := (HQB.out.below hSw).cell 1; have h2 := (HQB.out.below hSw).cell 2; simp only [boxC] at h0 h1 h2; simp at h0 h1 h2; go_simp)
              try simp only [Act.put, List.setIfInBounds_toArray, List.set_cons_zero, List.set_cons_succ]
              refine wpAnyH_take (i := 7) (oi := ⟨some 35, _, _, _, _, _⟩) (v := .bool a) rfl (by kernel_rfl) (by kernel_rfl) (by kernel_rfl) (fun _ _ _ h => h) (Or.inl ⟨by rfl, ?_⟩) (by assumption) ?_
              · (intro w hSw; (try dsimp only at hSw); have h0 := HLK.out _ hSw; go_simp)
              try simp only [Act.put, List.setIfInBounds_toArray, List.set_cons_zero, List.set_cons_succ]
              refine wpAnyH_ready (rs := [8]) (by kernel_rfl) (by simp) ?_
              refine AllReadyH.cons (o := ⟨some 36, _, _, _, _, _⟩) rfl (fun K hK => ?_) AllReadyH.nil
              go_simp
              refine (isOdd_any L vt S ⟨k, qf, qt⟩ a _ (HMX.out.below hHeld) HQI.out).mono ?_
              rintro e w4 ⟨rfl, hb4⟩
              rw [HOD.out]
              go_wp2_with fail
              refine hK.out _ _ ?_ (fun hHeld => ?_)
              · (try dsimp only); first | exact Below.refl _ _ | exact (Qw.refl wx).drew.below _ | exact hHeld.trans (hb4.mono hHeld.size)
              clear hK K
              try simp only [Act.put, List.setIfInBounds_toArray, List.set_cons_zero, List.set_cons_succ]
              refine wpAnyH_take (i := 9) (oi := ⟨some 37, _, _, _, _, _⟩) (v := ?_) rfl (by kernel_rfl) (by kernel_rfl) (by kernel_rfl) (fun _ _ _ h => h) (Or.inl ⟨by rfl, ?_⟩) (by assumption) ?_
              rotate_left
              · (intro w hSw; (try dsimp only at hSw); go_simp; try with_reducible rfl)
              try simp only [Act.put, List.setIfInBounds_toArray, List.set_cons_zero, List.set_cons_succ]
              refine wpAnyH_take (i := 10) (oi := ⟨some 38, _, _, _, _, _⟩) (v := ?_) rfl (by kernel_rfl) (by kernel_rfl) (by kernel_rfl) (fun _ _ _ h => h) (Or.inl ⟨by rfl, ?_⟩) (by assumption) ?_
              rotate_left
              · (intro w hSw; (try dsimp only at hSw); go_simp; try with_reducible rfl)
              try simp only [Act.put, List.setIfInBounds_toArray, List.set_cons_zero, List.set_cons_succ]
              refine wpAnyH_take (i := 11) (oi := ⟨some 39, _, _, _, _, _⟩) (v := undef) rfl (by kernel_rfl) (by kernel_rfl) (by kernel_rfl) (fun _ _ _ h => h) (Or.inr ⟨by rfl, rfl⟩) (by assumption) ?_
              try simp only [Act.put, List.setIfInBounds_toArray, List.set_cons_zero, List.set_cons_succ]
              refine wpAnyH_take (i := 12) (oi := ⟨some 40, _, _, _, _, _⟩) (v := undef) rfl (by kernel_rfl) (by kernel_rfl) (by kernel_rfl) (fun _ _ _ h => h) (Or.inr ⟨by rfl, rfl⟩) (by assumption) ?_
              try simp only [Act.put, List.setIfInBounds_toArray, List.set_cons_zero, List.set_cons_succ]
              refine wpAnyH_take (i := 13) (oi := ⟨some 41, _, _, _, _, _⟩) (v := undef) rfl (by kernel_rfl) (by kernel_rfl) (by kernel_rfl) (fun _ _ _ h => h) (Or.inr ⟨by rfl, rfl⟩) (by assumption) ?_
              try simp only [Act.put, List.setIfInBounds_toArray, List.set_cons_zero, List.set_cons_succ]
              refine wpAnyH_take (i := 14) (oi := ⟨some 42, _, _, _, _, _⟩) (v := undef) rfl (by kernel_rfl) (by kernel_rfl) (by kernel_rfl) (fun _ _ _ h => h) (Or.inr ⟨by rfl, rfl⟩) (by assumption) ?_
              try simp only [Act.put, List.setIfInBounds_toArray, List.set_cons_zero, List.set_cons_succ]
              refine wpAnyH_take (i := 15) (oi := ⟨some 43, _, _, _, _, _⟩) (v := undef) rfl (by kernel_rfl) (by kernel_rfl) (by kernel_rfl) (fun _ _ _ h => h) (Or.inr ⟨by rfl, rfl⟩) (by assumption) ?_
              try simp only [Act.put, List.setIfInBounds_toArray, List.set_cons_zero, List.set_cons_succ]
              refine wpAnyH_take (i := 16) (oi := ⟨some 44, _, _, _, _, _⟩) (v := undef) rfl (by kernel_rfl) (by kernel_rfl) (by kernel_rfl) (fun _ _ _ h => h) (Or.inr ⟨by rfl, rfl⟩) (by assumption) ?_
              try simp only [Act.put, List.setIfInBounds_toArray, List.set_cons_zero, List.set_cons_succ]
              refine wpAnyH_take (i := 17) (oi := ⟨some 45, _, _, _, _, _⟩) (v := undef) rfl (by kernel_rfl) (by kernel_rfl) (by kernel_rfl) (fun _ _ _ h => h) (Or.inr ⟨by rfl, rfl⟩) (by assumption) ?_
              try simp only [Act.put, List.setIfInBounds_toArray, List.set_cons_zero, List.set_cons_succ]
              refine wpAnyH_take (i := 18) (oi := ⟨some 46, _, _, _, _, _⟩) (v := undef) rfl (by kernel_rfl) (by kernel_rfl) (by kernel_rfl) (fun _ _ _ h => h) (Or.inr ⟨by rfl, rfl⟩) (by assumption) ?_
              try simp only [Act.put, List.setIfInBounds_toArray, List.set_cons_zero, List.set_cons_succ]
              refine wpAnyH_take (i := 19) (oi := ⟨some 47, _, _, _, _, _⟩) (v := undef) rfl (by kernel_rfl) (by kernel_rfl) (by kernel_rfl) (fun _ _ _ h => h) (Or.inr ⟨by rfl, rfl⟩) (by assumption) ?_
              try simp only [Act.put, List.setIfInBounds_toArray, List.set_cons_zero, List.set_cons_succ]
              refine wpAnyH_take (i := 20) (oi := ⟨some 48, _, _, _, _, _⟩) (v := undef) rfl (by kernel_rfl) (by kernel_rfl) (by kernel_rfl) (fun _ _ _ h => h) (Or.inr ⟨by rfl, rfl⟩) (by assumption) ?_
              try simp only [Act.put, List.setIfInBounds_toArray, List.set_cons_zero, List.set_cons_succ]
              refine wpAnyH_take (i := 21) (oi := ⟨some 49, _, _, _, _, _⟩) (v := undef) rfl (by kernel_rfl) (by kernel_rfl) (by kernel_rfl) (fun _ _ _ h => h) (Or.inr ⟨by rfl, rfl⟩) (by assumption) ?_
              try simp only [Act.put, List.setIfInBounds_toArray, List.set_cons_zero, List.set_cons_succ]
              refine wpAnyH_take (i := 22) (oi := ⟨some 50, _, _, _, _, _⟩) (v := undef) rfl (by kernel_rfl) (by kernel_rfl) (by kernel_rfl) (fun _ _ _ h => h) (Or.inr ⟨by rfl, rfl⟩) (by assumption) ?_
              try simp only [Act.put, List.setIfInBounds_toArray, List.set_cons_zero, List.set_cons_succ]
              refine wpAnyH_take (i := 23) (oi := ⟨some 51, _, _, _, _, _⟩) (v := undef) rfl (by kernel_rfl) (by kernel_rfl) (by kernel_rfl) (fun _ _ _ h => h) (Or.inr ⟨by rfl, rfl⟩) (by assumption) ?_
              try simp only [Act.put, List.setIfInBounds_toArray, List.set_cons_zero, List.set_cons_succ]
              refine wpAnyH_take (i := 24) (oi := ⟨some 52, _, _, _, _, _⟩) (v := undef) rfl (by kernel_rfl) (by kernel_rfl) (by kernel_rfl) (fun _ _ _ h => h) (Or.inr ⟨by rfl, rfl⟩) (by assumption) ?_
              try simp only [Act.put, List.setIfInBounds_toArray, List.set_cons_zero, List.set_cons_succ]
              refine wpAnyH_take (i := 25) (oi := ⟨some 53, _, _, _, _, _⟩) (v := ?_) rfl (by kernel_rfl) (by kernel_rfl) (by kernel_rfl) (fun _ _ _ h => h) (Or.inl ⟨by rfl, ?_⟩) (by assumption) ?_
              rotate_left
              · (intro w hSw; (try dsimp only at hSw); go_simp; try with_reducible rfl)
              try simp only [Act.put, List.setIfInBounds_toArray, List.set_cons_zero, List.set_cons_succ]
              refine wpAnyH_done (by kernel_rfl) ?_ _
              have hbL : Below w.heap.size w w4 := hbwx.trans (hHeld.mono (by omega))
              have HBL := Lib.hid (HBB.out.below hHeld); have HQL := Lib.hid (HQB.out.below hHeld)
              go_wp2_with fail
              go_roundg g2
              case measure => omega
              case rel => exact ⟨j + 1, by omega, by go_num, by first | (rw [HNEW.out, HST.out]; done) | (rw [HNEW.out, HST.out]; rfl), by rw [HNEW.out, HST.out]; exact HBL.out, hbL⟩
            · have HOD := Lib.hid hod
              clear hod
              have hw1 : IntKind.i64.wrap ((qt : Int) - (qf : Int)) = (qt : Int) - (qf : Int) := IntWalk.i64_in _ ⟨by omega, by omega⟩
              cases best with
              | none =>
                have HST : Hid (bestStep L S none ⟨k, qf, qt⟩ = some ⟨k, qf, qt⟩) := Lib.hid (by unfold bestStep; rw [← HA2.out, HOD.out, if_neg (by simp)])
                refine wp_region_held_drew (S := fun w' => Below wx.heap.size wx w') (by kernel_rfl) ?_ (fun hHeld => ?_)
                · (try dsimp only); first | exact Below.refl _ _ | exact (Qw.refl wx).drew.below _ | exact hHeld.trans (hb4.mono hHeld.size)
                refine wpAnyH_take (i := 0) (oi := ⟨some 28, _, _, _, _, _⟩) (v := ?_) rfl (by kernel_rfl) (by kernel_rfl) (by kernel_rfl) (fun _ _ _ h => h) (Or.inl ⟨by rfl, ?_⟩) (by assumption) ?_
                rotate_left
                · (intro w hSw; (try dsimp only at hSw); go_simp; try with_reducible rfl)
                try simp only [Act.put, List.setIfInBounds_toArray, List.set_cons_zero, List.set_cons_succ]
                refine wpAnyH_take (i := 1) (oi := ⟨some 29, _, _, _, _, _⟩) (v := .agg #[.int .i64 k, .int .i64 qf, .int .i64 qt]) rfl (by kernel_rfl) (by kernel_rfl) (by kernel_rfl) (fun _ _ _ h => h) (Or.inl ⟨by rfl, ?_⟩) (by assumption) ?_
                · (intro w hSw; (try dsimp only at hSw); have h0 := (HQB.out.below hSw).cell 0; have h1 := (HQB.out.below hSw).cell 1; have h2 := (HQB.out.below hSw).cell 2; simp only [boxC] at h0 h1 h2; simp at h0 h1 h2; go_simp)
                try simp only [Act.put, List.setIfInBounds_toArray, List.set_cons_zero, List.set_cons_succ]
                refine wpAnyH_take (i := 2) (oi := ⟨some 30, _, _, _, _, _⟩) (v := ?_) rfl (by kernel_rfl) (by kernel_rfl) (by kernel_rfl) (fun _ _ _ h => h) (Or.inl ⟨by rfl, ?_⟩) (by assumption) ?_
                rotate_left
                · (intro w hSw; (try dsimp only at hSw); go_simp; try with_reducible rfl)
                try simp only [Act.put, List.setIfInBounds_toArray, List.set_cons_zero, List.set_cons_succ]
                refine wpAnyH_take (i := 3) (oi := ⟨some 31, _, _, _, _, _⟩) (v := ?_) rfl (by kernel_rfl) (by kernel_rfl) (by kernel_rfl) (fun _ _ _ h => h) (Or.inl ⟨by rfl, ?_⟩) (by assumption) ?_
                rotate_left
                · (intro w hSw; (try dsimp only at hSw); go_simp; try with_reducible rfl)
                try simp only [Act.put, List.setIfInBounds_toArray, List.set_cons_zero, List.set_cons_succ]
                refine wpAnyH_take (i := 4) (oi := ⟨some 32, _, _, _, _, _⟩) (v := ?_) rfl (by kernel_rfl) (by kernel_rfl) (by kernel_rfl) (fun _ _ _ h => h) (Or.inl ⟨by rfl, ?_⟩) (by assumption) ?_
                rotate_left
                · (intro w hSw; (try dsimp only at hSw); go_simp; try with_reducible rfl)
                try simp only [Act.put, List.setIfInBounds_toArray, List.set_cons_zero, List.set_cons_succ]
                refine wpAnyH_take (i := 5) (oi := ⟨some 33, _, _, _, _, _⟩) (v := .map (some L.km)) rfl (by kernel_rfl) (by kernel_rfl) (by kernel_rfl) (fun _ _ _ h => h) (Or.inl ⟨by rfl, ?_⟩) (by assumption) ?_
                · (intro w hSw; (try dsimp only at hSw); have h0 := (HMX.out.below hSw).cell 7; simp at h0; go_simp)
                try simp only [Act.put, List.setIfInBounds_toArray, List.set_cons_zero, List.set_cons_succ]
                refine wpAnyH_take (i := 6) (oi := ⟨some 34, _, _, _, _, _⟩) (v := .agg #[.int .i64 k, .int .i64 qf, .int .i64 qt]) rfl (by kernel_rfl) (by kernel_rfl) (by kernel_rfl) (fun _ _ _ h => h) (Or.inl ⟨by rfl, ?_⟩) (by assumption) ?_
                · (intro w hSw; (try dsimp only at hSw); have h0 := (HQB.out.below hSw).cell 0; have h1 := (HQB.out.below hSw).cell 1; have h2 := (HQB.out.below hSw).cell 2; simp only [boxC] at h0 h1 h2; simp at h0 h1 h2; go_simp)
                try simp only [Act.put, List.setIfInBounds_toArray, List.set_cons_zero, List.set_cons_succ]
                refine wpAnyH_take (i := 7) (oi := ⟨some 35, _, _, _, _, _⟩) (v := .bool a) rfl (by kernel_rfl) (by kernel_rfl) (by kernel_rfl) (fun _ _ _ h => h) (Or.inl ⟨by rfl, ?_⟩) (by assumption) ?_
                · (intro w hSw; (try dsimp only at hSw); have h0 := HLK.out _ hSw; go_simp)
                try simp only [Act.put, List.setIfInBounds_toArray, List.set_cons_zero, List.set_cons_succ]
                refine wpAnyH_ready (rs := [8]) (by kernel_rfl) (by simp) ?_
                refine AllReadyH.cons (o := ⟨some 36, _, _, _, _, _⟩) rfl (fun K hK => ?_) AllReadyH.nil
                go_simp
                refine (isOdd_any L vt S ⟨k, qf, qt⟩ a _ (HMX.out.below hHeld) HQI.out).mono ?_
                rintro e w4 ⟨rfl, hb4⟩
                rw [HOD.out]
                go_wp2_with fail
                refine hK.out _ _ ?_ (fun hHeld => ?_)
                · (try dsimp only); first | exact Below.refl _ _ | exact (Qw.refl wx).drew.below _ | exact hHeld.trans (hb4.mono hHeld.size)
                clear hK K
                try simp only [Act.put, List.setIfInBounds_toArray, List.set_cons_zero, List.set_cons_succ]
                refine wpAnyH_take (i := 9) (oi := ⟨some 37, _, _, _, _, _⟩) (v := ?_) rfl (by kernel_rfl) (by kernel_rfl) (by kernel_rfl) (fun _ _ _ h => h) (Or.inl ⟨by rfl, ?_⟩) (by assumption) ?_
                rotate_left
                · (intro w hSw; (try dsimp only at hSw); go_simp; try with_reducible rfl)
                try simp only [Act.put, List.setIfInBounds_toArray, List.set_cons_zero, List.set_cons_succ]
                refine wpAnyH_take (i := 10) (oi := ⟨some 38, _, _, _, _, _⟩) (v := ?_) rfl (by kernel_rfl) (by kernel_rfl) (by kernel_rfl) (fun _ _ _ h => h) (Or.inl ⟨by rfl, ?_⟩) (by assumption) ?_
                rotate_left
                · (intro w hSw; (try dsimp only at hSw); go_simp; try with_reducible rfl)
                try simp only [Act.put, List.setIfInBounds_toArray, List.set_cons_zero, List.set_cons_succ]
                refine wpAnyH_take (i := 11) (oi := ⟨some 39, _, _, _, _, _⟩) (v := ?_) rfl (by kernel_rfl) (by kernel_rfl) (by kernel_rfl) (fun _ _ _ h => h) (Or.inl ⟨by rfl, ?_⟩) (by assumption) ?_
                rotate_left
                · (intro w hSw; (try dsimp only at hSw); go_simp; try with_reducible rfl)
                try simp only [Act.put, List.setIfInBounds_toArray, List.set_cons_zero, List.set_cons_succ]
                refine wpAnyH_take (i := 12) (oi := ⟨some 40, _, _, _, _, _⟩) (v := ?_) rfl (by kernel_rfl) (by kernel_rfl) (by kernel_rfl) (fun _ _ _ h => h) (Or.inl ⟨by rfl, ?_⟩) (by assumption) ?_
                rotate_left
                · (intro w hSw; (try dsimp only at hSw); go_simp; try with_reducible rfl)
                try simp only [Act.put, List.setIfInBounds_toArray, List.set_cons_zero, List.set_cons_succ]
                refine wpAnyH_take (i := 13) (oi := ⟨some 41, _, _, _, _, _⟩) (v := undef) rfl (by kernel_rfl) (by kernel_rfl) (by kernel_rfl) (fun _ _ _ h => h) (Or.inr ⟨by rfl, rfl⟩) (by assumption) ?_
                try simp only [Act.put, List.setIfInBounds_toArray, List.set_cons_zero, List.set_cons_succ]
                refine wpAnyH_take (i := 14) (oi := ⟨some 42, _, _, _, _, _⟩) (v := undef) rfl (by kernel_rfl) (by kernel_rfl) (by kernel_rfl) (fun _ _ _ h => h) (Or.inr ⟨by rfl, rfl⟩) (by assumption) ?_
                try simp only [Act.put, List.setIfInBounds_toArray, List.set_cons_zero, List.set_cons_succ]
                refine wpAnyH_take (i := 15) (oi := ⟨some 43, _, _, _, _, _⟩) (v := undef) rfl (by kernel_rfl) (by kernel_rfl) (by kernel_rfl) (fun _ _ _ h => h) (Or.inr ⟨by rfl, rfl⟩) (by assumption) ?_
                try simp only [Act.put, List.setIfInBounds_toArray, List.set_cons_zero, List.set_cons_succ]
                refine wpAnyH_take (i := 16) (oi := ⟨some 44, _, _, _, _, _⟩) (v := undef) rfl (by kernel_rfl) (by kernel_rfl) (by kernel_rfl) (fun _ _ _ h => h) (Or.inr ⟨by rfl, rfl⟩) (by assumption) ?_
                try simp only [Act.put, List.setIfInBounds_toArray, List.set_cons_zero, List.set_cons_succ]
                refine wpAnyH_take (i := 17) (oi := ⟨some 45, _, _, _, _, _⟩) (v := undef) rfl (by kernel_rfl) (by kernel_rfl) (by kernel_rfl) (fun _ _ _ h => h) (Or.inr ⟨by rfl, rfl⟩) (by assumption) ?_
                try simp only [Act.put, List.setIfInBounds_toArray, List.set_cons_zero, List.set_cons_succ]
                refine wpAnyH_take (i := 18) (oi := ⟨some 46, _, _, _, _, _⟩) (v := undef) rfl (by kernel_rfl) (by kernel_rfl) (by kernel_rfl) (fun _ _ _ h => h) (Or.inr ⟨by rfl, rfl⟩) (by assumption) ?_
                try simp only [Act.put, List.setIfInBounds_toArray, List.set_cons_zero, List.set_cons_succ]
                refine wpAnyH_take (i := 19) (oi := ⟨some 47, _, _, _, _, _⟩) (v := undef) rfl (by kernel_rfl) (by kernel_rfl) (by kernel_rfl) (fun _ _ _ h => h) (Or.inr ⟨by rfl, rfl⟩) (by assumption) ?_
                try simp only [Act.put, List.setIfInBounds_toArray, List.set_cons_zero, List.set_cons_succ]
                refine wpAnyH_take (i := 20) (oi := ⟨some 48, _, _, _, _, _⟩) (v := undef) rfl (by kernel_rfl) (by kernel_rfl) (by kernel_rfl) (fun _ _ _ h => h) (Or.inr ⟨by rfl, rfl⟩) (by assumption) ?_
                try simp only [Act.put, List.setIfInBounds_toArray, List.set_cons_zero, List.set_cons_succ]
                refine wpAnyH_take (i := 21) (oi := ⟨some 49, _, _, _, _, _⟩) (v := undef) rfl (by kernel_rfl) (by kernel_rfl) (by kernel_rfl) (fun _ _ _ h => h) (Or.inr ⟨by rfl, rfl⟩) (by assumption) ?_
                try simp only [Act.put, List.setIfInBounds_toArray, List.set_cons_zero, List.set_cons_succ]
                refine wpAnyH_take (i := 22) (oi := ⟨some 50, _, _, _, _, _⟩) (v := undef) rfl (by kernel_rfl) (by kernel_rfl) (by kernel_rfl) (fun _ _ _ h => h) (Or.inr ⟨by rfl, rfl⟩) (by assumption) ?_
                try simp only [Act.put, List.setIfInBounds_toArray, List.set_cons_zero, List.set_cons_succ]
                refine wpAnyH_take (i := 23) (oi := ⟨some 51, _, _, _, _, _⟩) (v := undef) rfl (by kernel_rfl) (by kernel_rfl) (by kernel_rfl) (fun _ _ _ h => h) (Or.inr ⟨by rfl, rfl⟩) (by assumption) ?_
                try simp only [Act.put, List.setIfInBounds_toArray, List.set_cons_zero, List.set_cons_succ]
                refine wpAnyH_take (i := 24) (oi := ⟨some 52, _, _, _, _, _⟩) (v := ?_) rfl (by kernel_rfl) (by kernel_rfl) (by kernel_rfl) (fun _ _ _ h => h) (Or.inl ⟨by rfl, ?_⟩) (by assumption) ?_
                rotate_left
                · (intro w hSw; (try dsimp only at hSw); go_simp; try with_reducible rfl)
                try simp only [Act.put, List.setIfInBounds_toArray, List.set_cons_zero, List.set_cons_succ]
                refine wpAnyH_take (i := 25) (oi := ⟨some 53, _, _, _, _, _⟩) (v := ?_) rfl (by kernel_rfl) (by kernel_rfl) (by kernel_rfl) (fun _ _ _ h => h) (Or.inl ⟨by rfl, ?_⟩) (by assumption) ?_
                rotate_left
                · (intro w hSw; (try dsimp only at hSw); go_simp; try with_reducible rfl)
                try simp only [Act.put, List.setIfInBounds_toArray, List.set_cons_zero, List.set_cons_succ]
                refine wpAnyH_done (by kernel_rfl) ?_ _
                have hbL : Below w.heap.size w w4 := hbwx.trans (hHeld.mono (by omega))
                have HBL := Lib.hid (HBB.out.below hHeld); have HQL := Lib.hid (HQB.out.below hHeld)
                have x0 := HQL.out.cell 0; have x1 := HQL.out.cell 1; have x2 := HQL.out.cell 2
                simp only [boxC] at x0 x1 x2; simp at x0 x1 x2
                obtain ⟨y0, hy0⟩ : ∃ y, w4.cell? ⟨w.heap.size, 0, none⟩ = some y := ⟨_, (HBL.out.cell 0).trans rfl⟩
                obtain ⟨y1, hy1⟩ : ∃ y, w4.cell? ⟨w.heap.size, 1, none⟩ = some y := ⟨_, (HBL.out.cell 1).trans rfl⟩
                obtain ⟨y2, hy2⟩ : ∃ y, w4.cell? ⟨w.heap.size, 2, none⟩ = some y := ⟨_, (HBL.out.cell 2).trans rfl⟩
                have fzb : ∀ o, w4.frozen? ⟨w.heap.size, o, none⟩ = false := fun o => by have := HBL.out; unfold BoxAt at this; simp [World.frozen?, this]
                have hHne : w.heap.size ≠ wa.heap.size := by omega
                have hHne2 : wa.heap.size ≠ w.heap.size := fun e => hHne e.symm
                have hput := HBL.out.put ⟨k, qf, qt⟩
                have hbP := ((hbL.setCell (p := ⟨w.heap.size, 0, none⟩) (Nat.le_refl _) (.int .i64 k)).setCell (p := ⟨w.heap.size, 1, none⟩) (Nat.le_refl _) (.int .i64 qf)).setCell (p := ⟨w.heap.size, 2, none⟩) (Nat.le_refl _) (.int .i64 qt)
                have HPUT := Lib.hid hput
                clear hput
                by_cases hone : qt = qf + 1
                · have hone' : (qt : Int) - (qf : Int) = 1 := by omega
                  have HBS : Hid (bestS L S = some ⟨k, qf, qt⟩) := Lib.hid (by unfold bestS; rw [HALL.out]; exact bestOf_stay (by rw [HNEW.out, HST.out]) (by simp only; omega) HAFT.out)
                  clear hone
                  go_wp2_with fail
                  go_meet
                  exact ⟨by rw [HBS.out]; rfl, by rw [HBS.out]; exact HPUT.out, hbP⟩
                · have hone' : ¬ (qt : Int) - (qf : Int) = 1 := by omega
                  clear hone
                  go_wp2_with fail
                  go_roundg g2
                  case measure => omega
                  case rel => exact ⟨j + 1, by omega, by go_num, by first | (rw [HNEW.out, HST.out]; done) | (rw [HNEW.out, HST.out]; rfl), by rw [HNEW.out, HST.out]; exact HPUT.out, hbP⟩
              | some b =>
                obtain ⟨bp, bf, bt⟩ := b
                have hbi := HBIN.out _ rfl
                dsimp only at hbi
                have hw2 : IntKind.i64.wrap ((bt : Int) - (bf : Int)) = (bt : Int) - (bf : Int) := IntWalk.i64_in _ ⟨by omega, by omega⟩
                by_cases hsz : bt - bf ≤ qt - qf
                · have hsz' : (bt : Int) - (bf : Int) ≤ (qt : Int) - (qf : Int) := by omega
                  have HST : Hid (bestStep L S (some ⟨bp, bf, bt⟩) ⟨k, qf, qt⟩ = some ⟨bp, bf, bt⟩) := Lib.hid (by unfold bestStep; rw [← HA2.out, HOD.out, if_neg (by simp)]; simp only; rw [if_pos hsz])
                  clear hsz
                  refine wp_region_held_drew (S := fun w' => Below wx.heap.size wx w') (by kernel_rfl) ?_ (fun hHeld => ?_)
                  · (try dsimp only); first | exact Below.refl _ _ | exact (Qw.refl wx).drew.below _ | exact hHeld.trans (hb4.mono hHeld.size)
                  refine wpAnyH_take (i := 0) (oi := ⟨some 28, _, _, _, _, _⟩) (v := ?_) rfl (by kernel_rfl) (by kernel_rfl) (by kernel_rfl) (fun _ _ _ h => h) (Or.inl ⟨by rfl, ?_⟩) (by assumption) ?_
                  rotate_left
                  · (intro w hSw; (try dsimp only at hSw); go_simp; try with_reducible rfl)
                  try simp only [Act.put, List.setIfInBounds_toArray, List.set_cons_zero, List.set_cons_succ]
                  refine wpAnyH_take (i := 1) (oi := ⟨some 29, _, _, _, _, _⟩) (v := .agg #[.int .i64 k, .int .i64 qf, .int .i64 qt]) rfl (by kernel_rfl) (by kernel_rfl) (by kernel_rfl) (fun _ _ _ h => h) (Or.inl ⟨by rfl, ?_⟩) (by assumption) ?_
                  · (intro w hSw; (try dsimp only at hSw); have h0 := (HQB.out.below hSw).cell 0; have h1 := (HQB.out.below hSw).cell 1; have h2 := (HQB.out.below hSw).cell 2; simp only [boxC] at h0 h1 h2; simp at h0 h1 h2; go_simp)
                  try simp only [Act.put, List.setIfInBounds_toArray, List.set_cons_zero, List.set_cons_succ]
                  refine wpAnyH_take (i := 2) (oi := ⟨some 30, _, _, _, _, _⟩) (v := ?_) rfl (by kernel_rfl) (by kernel_rfl) (by kernel_rfl) (fun _ _ _ h => h) (Or.inl ⟨by rfl, ?_⟩) (by assumption) ?_
                  rotate_left
                  · (intro w hSw; (try dsimp only at hSw); go_simp; try with_reducible rfl)
                  try simp only [Act.put, List.setIfInBounds_toArray, List.set_cons_zero, List.set_cons_succ]
                  refine wpAnyH_take (i := 3) (oi := ⟨some 31, _, _, _, _, _⟩) (v := ?_) rfl (by kernel_rfl) (by kernel_rfl) (by kernel_rfl) (fun _ _ _ h => h) (Or.inl ⟨by rfl, ?_⟩) (by assumption) ?_
                  rotate_left
                  · (intro w hSw; (try dsimp only at hSw); go_simp; try with_reducible rfl)
                  try simp only [Act.put, List.setIfInBounds_toArray, List.set_cons_zero, List.set_cons_succ]
                  refine wpAnyH_take (i := 4) (oi := ⟨some 32, _, _, _, _, _⟩) (v := ?_) rfl (by kernel_rfl) (by kernel_rfl) (by kernel_rfl) (fun _ _ _ h => h) (Or.inl ⟨by rfl, ?_⟩) (by assumption) ?_
                  rotate_left
                  · (intro w hSw; (try dsimp only at hSw); go_simp; try with_reducible rfl)
                  try simp only [Act.put, List.setIfInBounds_toArray, List.set_cons_zero, List.set_cons_succ]
                  refine wpAnyH_take (i := 5) (oi := ⟨some 33, _, _, _, _, _⟩) (v := .map (some L.km)) rfl (by kernel_rfl) (by kernel_rfl) (by kernel_rfl) (fun _ _ _ h => h) (Or.inl ⟨by rfl, ?_⟩) (by assumption) ?_
                  · (intro w hSw; (try dsimp only at hSw); have h0 := (HMX.out.below hSw).cell 7; simp at h0; go_simp)
                  try simp only [Act.put, List.setIfInBounds_toArray, List.set_cons_zero, List.set_cons_succ]
                  refine wpAnyH_take (i := 6) (oi := ⟨some 34, _, _, _, _, _⟩) (v := .agg #[.int .i64 k, .int .i64 qf, .int .i64 qt]) rfl (by kernel_rfl) (by kernel_rfl) (by kernel_rfl) (fun _ _ _ h => h) (Or.inl ⟨by rfl, ?_⟩) (by assumption) ?_
                  · (intro w hSw; (try dsimp only at hSw); have h0 := (HQB.out.below hSw).cell 0; have h1 := (HQB.out.below hSw).cell 1; have h2 := (HQB.out.below hSw).cell 2; simp only [boxC] at h0 h1 h2; simp at h0 h1 h2; go_simp)
                  try simp only [Act.put, List.setIfInBounds_toArray, List.set_cons_zero, List.set_cons_succ]
                  refine wpAnyH_take (i := 7) (oi := ⟨some 35, _, _, _, _, _⟩) (v := .bool a) rfl (by kernel_rfl) (by kernel_rfl) (by kernel_rfl) (fun _ _ _ h => h) (Or.inl ⟨by rfl, ?_⟩) (by assumption) ?_
                  · (intro w hSw; (try dsimp only at hSw); have h0 := HLK.out _ hSw; go_simp)
                  try simp only [Act.put, List.setIfInBounds_toArray, List.set_cons_zero, List.set_cons_succ]
                  refine wpAnyH_ready (rs := [8]) (by kernel_rfl) (by simp) ?_
                  refine AllReadyH.cons (o := ⟨some 36, _, _, _, _, _⟩) rfl (fun K hK => ?_) AllReadyH.nil
                  go_simp
                  refine (isOdd_any L vt S ⟨k, qf, qt⟩ a _ (HMX.out.below hHeld) HQI.out).mono ?_
                  rintro e w4 ⟨rfl, hb4⟩
                  rw [HOD.out]
                  go_wp2_with fail
                  refine hK.out _ _ ?_ (fun hHeld => ?_)
                  · (try dsimp only); first | exact Below.refl _ _ | exact (Qw.refl wx).drew.below _ | exact hHeld.trans (hb4.mono hHeld.size)
                  clear hK K
                  try simp only [Act.put, List.setIfInBounds_toArray, List.set_cons_zero, List.set_cons_succ]
                  refine wpAnyH_take (i := 9) (oi := ⟨some 37, _, _, _, _, _⟩) (v := ?_) rfl (by kernel_rfl) (by kernel_rfl) (by kernel_rfl) (fun _ _ _ h => h) (Or.inl ⟨by rfl, ?_⟩) (by assumption) ?_
                  rotate_left
                  · (intro w hSw; (try dsimp only at hSw); go_simp; try with_reducible rfl)
                  try simp only [Act.put, List.setIfInBounds_toArray, List.set_cons_zero, List.set_cons_succ]
                  refine wpAnyH_take (i := 10) (oi := ⟨some 38, _, _, _, _, _⟩) (v := ?_) rfl (by kernel_rfl) (by kernel_rfl) (by kernel_rfl) (fun _ _ _ h => h) (Or.inl ⟨by rfl, ?_⟩) (by assumption) ?_
                  rotate_left
                  · (intro w hSw; (try dsimp only at hSw); go_simp; try with_reducible rfl)
                  try simp only [Act.put, List.setIfInBounds_toArray, List.set_cons_zero, List.set_cons_succ]
                  refine wpAnyH_take (i := 11) (oi := ⟨some 39, _, _, _, _, _⟩) (v := ?_) rfl (by kernel_rfl) (by kernel_rfl) (by kernel_rfl) (fun _ _ _ h => h) (Or.inl ⟨by rfl, ?_⟩) (by assumption) ?_
                  rotate_left
                  · (intro w hSw; (try dsimp only at hSw); go_simp; try with_reducible rfl)
                  try simp only [Act.put, List.setIfInBounds_toArray, List.set_cons_zero, List.set_cons_succ]
                  refine wpAnyH_take (i := 12) (oi := ⟨some 40, _, _, _, _, _⟩) (v := ?_) rfl (by kernel_rfl) (by kernel_rfl) (by kernel_rfl) (fun _ _ _ h => h) (Or.inl ⟨by rfl, ?_⟩) (by assumption) ?_
                  rotate_left
                  · (intro w hSw; (try dsimp only at hSw); go_simp; try with_reducible rfl)
                  try simp only [Act.put, List.setIfInBounds_toArray, List.set_cons_zero, List.set_cons_succ]
                  refine wpAnyH_take (i := 13) (oi := ⟨some 41, _, _, _, _, _⟩) (v := ?_) rfl (by kernel_rfl) (by kernel_rfl) (by kernel_rfl) (fun _ _ _ h => h) (Or.inl ⟨by rfl, ?_⟩) (by assumption) ?_
                  rotate_left
                  · (intro w hSw; (try dsimp only at hSw); go_simp; try with_reducible rfl)
                  try simp only [Act.put, List.setIfInBounds_toArray, List.set_cons_zero, List.set_cons_succ]
                  refine wpAnyH_take (i := 14) (oi := ⟨some 42, _, _, _, _, _⟩) (v := .int .i64 qt) rfl (by kernel_rfl) (by kernel_rfl) (by kernel_rfl) (fun _ _ _ h => h) (Or.inl ⟨by rfl, ?_⟩) (by assumption) ?_
                  · (intro w hSw; (try dsimp only at hSw); have h0 := (HQB.out.below hSw).cell 0; have h1 := (HQB.out.below hSw).cell 1; have h2 := (HQB.out.below hSw).cell 2; simp only [boxC] at h0 h1 h2; simp at h0 h1 h2; go_simp)
                  try simp only [Act.put, List.setIfInBounds_toArray, List.set_cons_zero, List.set_cons_succ]
                  refine wpAnyH_take (i := 15) (oi := ⟨some 43, _, _, _, _, _⟩) (v := ?_) rfl (by kernel_rfl) (by kernel_rfl) (by kernel_rfl) (fun _ _ _ h => h) (Or.inl ⟨by rfl, ?_⟩) (by assumption) ?_
                  rotate_left
                  · (intro w hSw; (try dsimp only at hSw); go_simp; try with_reducible rfl)
                  try simp only [Act.put, List.setIfInBounds_toArray, List.set_cons_zero, List.set_cons_succ]
                  refine wpAnyH_take (i := 16) (oi := ⟨some 44, _, _, _, _, _⟩) (v := .int .i64 qf) rfl (by kernel_rfl) (by kernel_rfl) (by kernel_rfl) (fun _ _ _ h => h) (Or.inl ⟨by rfl, ?_⟩) (by assumption) ?_
                  · (intro w hSw; (try dsimp only at hSw); have h0 := (HQB.out.below hSw).cell 0; have h1 := (HQB.out.below hSw).cell 1; have h2 := (HQB.out.below hSw).cell 2; simp only [boxC] at h0 h1 h2; simp at h0 h1 h2; go_simp)
                  try simp only [Act.put, List.setIfInBounds_toArray, List.set_cons_zero, List.set_cons_succ]
                  refine wpAnyH_take (i := 17) (oi := ⟨some 45, _, _, _, _, _⟩) (v := ?_) rfl (by kernel_rfl) (by kernel_rfl) (by kernel_rfl) (fun _ _ _ h => h) (Or.inl ⟨by rfl, ?_⟩) (by assumption) ?_
                  rotate_left
                  · (intro w hSw; (try dsimp only at hSw); go_simp; try with_reducible rfl)
                  try simp only [Act.put, List.setIfInBounds_toArray, List.set_cons_zero, List.set_cons_succ]
                  refine wpAnyH_take (i := 18) (oi := ⟨some 46, _, _, _, _, _⟩) (v := ?_) rfl (by kernel_rfl) (by kernel_rfl) (by kernel_rfl) (fun _ _ _ h => h) (Or.inl ⟨by rfl, ?_⟩) (by assumption) ?_
                  rotate_left
                  · (intro w hSw; (try dsimp only at hSw); go_simp; try with_reducible rfl)
                  try simp only [Act.put, List.setIfInBounds_toArray, List.set_cons_zero, List.set_cons_succ]
                  refine wpAnyH_take (i := 19) (oi := ⟨some 47, _, _, _, _, _⟩) (v := .int .i64 bt) rfl (by kernel_rfl) (by kernel_rfl) (by kernel_rfl) (fun _ _ _ h => h) (Or.inl ⟨by rfl, ?_⟩) (by assumption) ?_
                  · (intro w hSw; (try dsimp only at hSw); have h0 := (HBB.out.below hSw).cell 2; simp only [boxC] at h0; simp at h0; go_simp)
                  try simp only [Act.put, List.setIfInBounds_toArray, List.set_cons_zero, List.set_cons_succ]
                  refine wpAnyH_take (i := 20) (oi := ⟨some 48, _, _, _, _, _⟩) (v := ?_) rfl (by kernel_rfl) (by kernel_rfl) (by kernel_rfl) (fun _ _ _ h => h) (Or.inl ⟨by rfl, ?_⟩) (by assumption) ?_
                  rotate_left
                  · (intro w hSw; (try dsimp only at hSw); go_simp; try with_reducible rfl)
                  try simp only [Act.put, List.setIfInBounds_toArray, List.set_cons_zero, List.set_cons_succ]
                  refine wpAnyH_take (i := 21) (oi := ⟨some 49, _, _, _, _, _⟩) (v := .int .i64 bf) rfl (by kernel_rfl) (by kernel_rfl) (by kernel_rfl) (fun _ _ _ h => h) (Or.inl ⟨by rfl, ?_⟩) (by assumption) ?_
                  · (intro w hSw; (try dsimp only at hSw); have h0 := (HBB.out.below hSw).cell 1; simp only [boxC] at h0; simp at h0; go_simp)
                  try simp only [Act.put, List.setIfInBounds_toArray, List.set_cons_zero, List.set_cons_succ]
                  refine wpAnyH_take (i := 22) (oi := ⟨some 50, _, _, _, _, _⟩) (v := ?_) rfl (by kernel_rfl) (by kernel_rfl) (by kernel_rfl) (fun _ _ _ h => h) (Or.inl ⟨by rfl, ?_⟩) (by assumption) ?_
                  rotate_left
                  · (intro w hSw; (try dsimp only at hSw); go_simp; try with_reducible rfl)
                  try simp only [Act.put, List.setIfInBounds_toArray, List.set_cons_zero, List.set_cons_succ]
                  refine wpAnyH_take (i := 23) (oi := ⟨some 51, _, _, _, _, _⟩) (v := ?_) rfl (by kernel_rfl) (by kernel_rfl) (by kernel_rfl) (fun _ _ _ h => h) (Or.inl ⟨by rfl, ?_⟩) (by assumption) ?_
                  rotate_left
                  · (intro w hSw; (try dsimp only at hSw); go_simp; try with_reducible rfl)
                  try simp only [Act.put, List.setIfInBounds_toArray, List.set_cons_zero, List.set_cons_succ]
                  refine wpAnyH_take (i := 24) (oi := ⟨some 52, _, _, _, _, _⟩) (v := ?_) rfl (by kernel_rfl) (by kernel_rfl) (by kernel_rfl) (fun _ _ _ h => h) (Or.inl ⟨by rfl, ?_⟩) (by assumption) ?_
                  rotate_left
                  · (intro w hSw; (try dsimp only at hSw); go_simp; try with_reducible rfl)
                  try simp only [Act.put, List.setIfInBounds_toArray, List.set_cons_zero, List.set_cons_succ]
                  refine wpAnyH_take (i := 25) (oi := ⟨some 53, _, _, _, _, _⟩) (v := ?_) rfl (by kernel_rfl) (by kernel_rfl) (by kernel_rfl) (fun _ _ _ h => h) (Or.inl ⟨by rfl, ?_⟩) (by assumption) ?_
                  rotate_left
                  · (intro w hSw; (try dsimp only at hSw); go_simp; try with_reducible rfl)
                  try simp only [Act.put, List.setIfInBounds_toArray, List.set_cons_zero, List.set_cons_succ]
                  refine wpAnyH_done (by kernel_rfl) ?_ _
                  have hbL : Below w.heap.size w w4 := hbwx.trans (hHeld.mono (by omega))
                  have HBL := Lib.hid (HBB.out.below hHeld); have HQL := Lib.hid (HQB.out.below hHeld)
                  go_wp2_with fail
                  go_roundg g2
                  case measure => omega
                  case rel => exact ⟨j + 1, by omega, by go_num, by first | (rw [HNEW.out, HST.out]; done) | (rw [HNEW.out, HST.out]; rfl), by rw [HNEW.out, HST.out]; exact HBL.out, hbL⟩
                · have hsz' : ¬ (bt : Int) - (bf : Int) ≤ (qt : Int) - (qf : Int) := by omega
                  have HST : Hid (bestStep L S (some ⟨bp, bf, bt⟩) ⟨k, qf, qt⟩ = some ⟨k, qf, qt⟩) := Lib.hid (by unfold bestStep; rw [← HA2.out, HOD.out, if_neg (by simp)]; simp only; rw [if_neg hsz])
                  clear hsz
                  refine wp_region_held_drew (S := fun w' => Below wx.heap.size wx w') (by kernel_rfl) ?_ (fun hHeld => ?_)
                  · (try dsimp only); first | exact Below.refl _ _ | exact (Qw.refl wx).drew.below _ | exact hHeld.trans (hb4.mono hHeld.size)
                  refine wpAnyH_take (i := 0) (oi := ⟨some 28, _, _, _, _, _⟩) (v := ?_) rfl (by kernel_rfl) (by kernel_rfl) (by kernel_rfl) (fun _ _ _ h => h) (Or.inl ⟨by rfl, ?_⟩) (by assumption) ?_
                  rotate_left
                  · (intro w hSw; (try dsimp only at hSw); go_simp; try with_reducible rfl)
                  try simp only [Act.put, List.setIfInBounds_toArray, List.set_cons_zero, List.set_cons_succ]
                  refine wpAnyH_take (i := 1) (oi := ⟨some 29, _, _, _, _, _⟩) (v := .agg #[.int .i64 k, .int .i64 qf, .int .i64 qt]) rfl (by kernel_rfl) (by kernel_rfl) (by kernel_rfl) (fun _ _ _ h => h) (Or.inl ⟨by rfl, ?_⟩) (by assumption) ?_
                  · (intro w hSw; (try dsimp only at hSw); have h0 := (HQB.out.below hSw).cell 0; have h1 := (HQB.out.below hSw).cell 1; have h2 := (HQB.out.below hSw).cell 2; simp only [boxC] at h0 h1 h2; simp at h0 h1 h2; go_simp)
                  try simp only [Act.put, List.setIfInBounds_toArray, List.set_cons_zero, List.set_cons_succ]
                  refine wpAnyH_take (i := 2) (oi := ⟨some 30, _, _, _, _, _⟩) (v := ?_) rfl (by kernel_rfl) (by kernel_rfl) (by kernel_rfl) (fun _ _ _ h => h) (Or.inl ⟨by rfl, ?_⟩) (by assumption) ?_
                  rotate_left
                  · (intro w hSw; (try dsimp only at hSw); go_simp; try with_reducible rfl)
                  try simp only [Act.put, List.setIfInBounds_toArray, List.set_cons_zero, List.set_cons_succ]
                  refine wpAnyH_take (i := 3) (oi := ⟨some 31, _, _, _, _, _⟩) (v := ?_) rfl (by kernel_rfl) (by kernel_rfl) (by kernel_rfl) (fun _ _ _ h => h) (Or.inl ⟨by rfl, ?_⟩) (by assumption) ?_
                  rotate_left
                  · (intro w hSw; (try dsimp only at hSw); go_simp; try with_reducible rfl)
                  try simp only [Act.put, List.setIfInBounds_toArray, List.set_cons_zero, List.set_cons_succ]
                  refine wpAnyH_take (i := 4) (oi := ⟨some 32, _, _, _, _, _⟩) (v := ?_) rfl (by kernel_rfl) (by kernel_rfl) (by kernel_rfl) (fun _ _ _ h => h) (Or.inl ⟨by rfl, ?_⟩) (by assumption) ?_
                  rotate_left
                  · (intro w hSw; (try dsimp only at hSw); go_simp; try with_reducible rfl)
                  try simp only [Act.put, List.setIfInBounds_toArray, List.set_cons_zero, List.set_cons_succ]
                  refine wpAnyH_take (i := 5) (oi := ⟨some 33, _, _, _, _, _⟩) (v := .map (some L.km)) rfl (by kernel_rfl) (by kernel_rfl) (by kernel_rfl) (fun _ _ _ h => h) (Or.inl ⟨by rfl, ?_⟩) (by assumption) ?_
                  · (intro w hSw; (try dsimp only at hSw); have h0 := (HMX.out.below hSw).cell 7; simp at h0; go_simp)
                  try simp only [Act.put, List.setIfInBounds_toArray, List.set_cons_zero, List.set_cons_succ]
                  refine wpAnyH_take (i := 6) (oi := ⟨some 34, _, _, _, _, _⟩) (v := .agg #[.int .i64 k, .int .i64 qf, .int .i64 qt]) rfl (by kernel_rfl) (by kernel_rfl) (by kernel_rfl) (fun _ _ _ h => h) (Or.inl ⟨by rfl, ?_⟩) (by assumption) ?_
                  · (intro w hSw; (try dsimp only at hSw); have h0 := (HQB.out.below hSw).cell 0; have h1 := (HQB.out.below hSw).cell 1; have h2 := (HQB.out.below hSw).cell 2; simp only [boxC] at h0 h1 h2; simp at h0 h1 h2; go_simp)
                  try simp only [Act.put, List.setIfInBounds_toArray, List.set_cons_zero, List.set_cons_succ]
                  refine wpAnyH_take (i := 7) (oi := ⟨some 35, _, _, _, _, _⟩) (v := .bool a) rfl (by kernel_rfl) (by kernel_rfl) (by kernel_rfl) (fun _ _ _ h => h) (Or.inl ⟨by rfl, ?_⟩) (by assumption) ?_
                  · (intro w hSw; (try dsimp only at hSw); have h0 := HLK.out _ hSw; go_simp)
                  try simp only [Act.put, List.setIfInBounds_toArray, List.set_cons_zero, List.set_cons_succ]
                  refine wpAnyH_ready (rs := [8]) (by kernel_rfl) (by simp) ?_
                  refine AllReadyH.cons (o := ⟨some 36, _, _, _, _, _⟩) rfl (fun K hK => ?_) AllReadyH.nil
                  go_simp
                  refine (isOdd_any L vt S ⟨k, qf, qt⟩ a _ (HMX.out.below hHeld) HQI.out).mono ?_
                  rintro e w4 ⟨rfl, hb4⟩
                  rw [HOD.out]
                  go_wp2_with fail
                  refine hK.out _ _ ?_ (fun hHeld => ?_)
                  · (try dsimp only); first | exact Below.refl _ _ | exact (Qw.refl wx).drew.below _ | exact hHeld.trans (hb4.mono hHeld.size)
                  clear hK K
                  try simp only [Act.put, List.setIfInBounds_toArray, List.set_cons_zero, List.set_cons_succ]
                  refine wpAnyH_take (i := 9) (oi := ⟨some 37, _, _, _, _, _⟩) (v := ?_) rfl (by kernel_rfl) (by kernel_rfl) (by kernel_rfl) (fun _ _ _ h => h) (Or.inl ⟨by rfl, ?_⟩) (by assumption) ?_
                  rotate_left
                  · (intro w hSw; (try dsimp only at hSw); go_simp; try with_reducible rfl)
                  try simp only [Act.put, List.setIfInBounds_toArray, List.set_cons_zero, List.set_cons_succ]
                  refine wpAnyH_take (i := 10) (oi := ⟨some 38, _, _, _, _, _⟩) (v := ?_) rfl (by kernel_rfl) (by kernel_rfl) (by kernel_rfl) (fun _ _ _ h => h) (Or.inl ⟨by rfl, ?_⟩) (by assumption) ?_
                  rotate_left
                  · (intro w hSw; (try dsimp only at hSw); go_simp; try with_reducible rfl)
                  try simp only [Act.put, List.setIfInBounds_toArray, List.set_cons_zero, List.set_cons_succ]
                  refine wpAnyH_take (i := 11) (oi := ⟨some 39, _, _, _, _, _⟩) (v := ?_) rfl (by kernel_rfl) (by kernel_rfl) (by kernel_rfl) (fun _ _ _ h => h) (Or.inl ⟨by rfl, ?_⟩) (by assumption) ?_
                  rotate_left
                  · (intro w hSw; (try dsimp only at hSw); go_simp; try with_reducible rfl)
                  try simp only [Act.put, List.setIfInBounds_toArray, List.set_cons_zero, List.set_cons_succ]
                  refine wpAnyH_take (i := 12) (oi := ⟨some 40, _, _, _, _, _⟩) (v := ?_) rfl (by kernel_rfl) (by kernel_rfl) (by kernel_rfl) (fun _ _ _ h => h) (Or.inl ⟨by rfl, ?_⟩) (by assumption) ?_
                  rotate_left
                  · (intro w hSw; (try dsimp only at hSw); go_simp; try with_reducible rfl)
                  try simp only [Act.put, List.setIfInBounds_toArray, List.set_cons_zero, List.set_cons_succ]
                  refine wpAnyH_take (i := 13) (oi := ⟨some 41, _, _, _, _, _⟩) (v := ?_) rfl (by kernel_rfl) (by kernel_rfl) (by kernel_rfl) (fun _ _ _ h => h) (Or.inl ⟨by rfl, ?_⟩) (by assumption) ?_
                  rotate_left
                  · (intro w hSw; (try dsimp only at hSw); go_simp; try with_reducible rfl)
                  try simp only [Act.put, List.setIfInBounds_toArray, List.set_cons_zero, List.set_cons_succ]
                  refine wpAnyH_take (i := 14) (oi := ⟨some 42, _, _, _, _, _⟩) (v := .int .i64 qt) rfl (by kernel_rfl) (by kernel_rfl) (by kernel_rfl) (fun _ _ _ h => h) (Or.inl ⟨by rfl, ?_⟩) (by assumption) ?_
                  · (intro w hSw; (try dsimp only at hSw); have h0 := (HQB.out.below hSw).cell 0; have h1 := (HQB.out.below hSw).cell 1; have h2 := (HQB.out.below hSw).cell 2; simp only [boxC] at h0 h1 h2; simp at h0 h1 h2; go_simp)
                  try simp only [Act.put, List.setIfInBounds_toArray, List.set_cons_zero, List.set_cons_succ]
                  refine wpAnyH_take (i := 15) (oi := ⟨some 43, _, _, _, _, _⟩) (v := ?_) rfl (by kernel_rfl) (by kernel_rfl) (by kernel_rfl) (fun _ _ _ h => h) (Or.inl ⟨by rfl, ?_⟩) (by assumption) ?_
                  rotate_left
                  · (intro w hSw; (try dsimp only at hSw); go_simp; try with_reducible rfl)
                  try simp only [Act.put, List.setIfInBounds_toArray, List.set_cons_zero, List.set_cons_succ]
                  refine wpAnyH_take (i := 16) (oi := ⟨some 44, _, _, _, _, _⟩) (v := .int .i64 qf) rfl (by kernel_rfl) (by kernel_rfl) (by kernel_rfl) (fun _ _ _ h => h) (Or.inl ⟨by rfl, ?_⟩) (by assumption) ?_
                  · (intro w hSw; (try dsimp only at hSw); have h0 := (HQB.out.below hSw).cell 0; have h1 := (HQB.out.below hSw).cell 1; have h2 := (HQB.out.below hSw).cell 2; simp only [boxC] at h0 h1 h2; simp at h0 h1 h2; go_simp)
                  try simp only [Act.put, List.setIfInBounds_toArray, List.set_cons_zero, List.set_cons_succ]
                  refine wpAnyH_take (i := 17) (oi := ⟨some 45, _, _, _, _, _⟩) (v := ?_) rfl (by kernel_rfl) (by kernel_rfl) (by kernel_rfl) (fun _ _ _ h => h) (Or.inl ⟨by rfl, ?_⟩) (by assumption) ?_
                  rotate_left
                  · (intro w hSw; (try dsimp only at hSw); go_simp; try with_reducible rfl)
                  try simp only [Act.put, List.setIfInBounds_toArray, List.set_cons_zero, List.set_cons_succ]
                  refine wpAnyH_take (i := 18) (oi := ⟨some 46, _, _, _, _, _⟩) (v := ?_) rfl (by kernel_rfl) (by kernel_rfl) (by kernel_rfl) (fun _ _ _ h => h) (Or.inl ⟨by rfl, ?_⟩) (by assumption) ?_
                  rotate_left
                  · (intro w hSw; (try dsimp only at hSw); go_simp; try with_reducible rfl)
                  try simp only [Act.put, List.setIfInBounds_toArray, List.set_cons_zero, List.set_cons_succ]
                  refine wpAnyH_take (i := 19) (oi := ⟨some 47, _, _, _, _, _⟩) (v := .int .i64 bt) rfl (by kernel_rfl) (by kernel_rfl) (by kernel_rfl) (fun _ _ _ h => h) (Or.inl ⟨by rfl, ?_⟩) (by assumption) ?_
                  · (intro w hSw; (try dsimp only at hSw); have h0 := (HBB.out.below hSw).cell 2; simp only [boxC] at h0; simp at h0; go_simp)
                  try simp only [Act.put, List.setIfInBounds_toArray, List.set_cons_zero, List.set_cons_succ]
                  refine wpAnyH_take (i := 20) (oi := ⟨some 48, _, _, _, _, _⟩) (v := ?_) rfl (by kernel_rfl) (by kernel_rfl) (by kernel_rfl) (fun _ _ _ h => h) (Or.inl ⟨by rfl, ?_⟩) (by assumption) ?_
                  rotate_left
                  · (intro w hSw; (try dsimp only at hSw); go_simp; try with_reducible rfl)
                  try simp only [Act.put, List.setIfInBounds_toArray, List.set_cons_zero, List.set_cons_succ]
                  refine wpAnyH_take (i := 21) (oi := ⟨some 49, _, _, _, _, _⟩) (v := .int .i64 bf) rfl (by kernel_rfl) (by kernel_rfl) (by kernel_rfl) (fun _ _ _ h => h) (Or.inl ⟨by rfl, ?_⟩) (by assumption) ?_
                  · (intro w hSw; (try dsimp only at hSw); have h0 := (HBB.out.below hSw).cell 1; simp only [boxC] at h0; simp at h0; go_simp)
                  try simp only [Act.put, List.setIfInBounds_toArray, List.set_cons_zero, List.set_cons_succ]
                  refine wpAnyH_take (i := 22) (oi := ⟨some 50, _, _, _, _, _⟩) (v := ?_) rfl (by kernel_rfl) (by kernel_rfl) (by kernel_rfl) (fun _ _ _ h => h) (Or.inl ⟨by rfl, ?_⟩) (by assumption) ?_
                  rotate_left
                  · (intro w hSw; (try dsimp only at hSw); go_simp; try with_reducible rfl)
                  try simp only [Act.put, List.setIfInBounds_toArray, List.set_cons_zero, List.set_cons_succ]
                  refine wpAnyH_take (i := 23) (oi := ⟨some 51, _, _, _, _, _⟩) (v := ?_) rfl (by kernel_rfl) (by kernel_rfl) (by kernel_rfl) (fun _ _ _ h => h) (Or.inl ⟨by rfl, ?_⟩) (by assumption) ?_
                  rotate_left
                  · (intro w hSw; (try dsimp only at hSw); go_simp; try with_reducible rfl)
                  try simp only [Act.put, List.setIfInBounds_toArray, List.set_cons_zero, List.set_cons_succ]
                  refine wpAnyH_take (i := 24) (oi := ⟨some 52, _, _, _, _, _⟩) (v := ?_) rfl (by kernel_rfl) (by kernel_rfl) (by kernel_rfl) (fun _ _ _ h => h) (Or.inl ⟨by rfl, ?_⟩) (by assumption) ?_
                  rotate_left
                  · (intro w hSw; (try dsimp only at hSw); go_simp; try with_reducible rfl)
                  try simp only [Act.put, List.setIfInBounds_toArray, List.set_cons_zero, List.set_cons_succ]
                  refine wpAnyH_take (i := 25) (oi := ⟨some 53, _, _, _, _, _⟩) (v := ?_) rfl (by kernel_rfl) (by kernel_rfl) (by kernel_rfl) (fun _ _ _ h => h) (Or.inl ⟨by rfl, ?_⟩) (by assumption) ?_
                  rotate_left
                  · (intro w hSw; (try dsimp only at hSw); go_simp; try with_reducible rfl)
                  try simp only [Act.put, List.setIfInBounds_toArray, List.set_cons_zero, List.set_cons_succ]
                  refine wpAnyH_done (by kernel_rfl) ?_ _
                  have hbL : Below w.heap.size w w4 := hbwx.trans (hHeld.mono (by omega))
                  have HBL := Lib.hid (HBB.out.below hHeld); have HQL := Lib.hid (HQB.out.below hHeld)
                  have x0 := HQL.out.cell 0; have x1 := HQL.out.cell 1; have x2 := HQL.out.cell 2
                  simp only [boxC] at x0 x1 x2; simp at x0 x1 x2
                  obtain ⟨y0, hy0⟩ : ∃ y, w4.cell? ⟨w.heap.size, 0, none⟩ = some y := ⟨_, (HBL.out.cell 0).trans rfl⟩
                  obtain ⟨y1, hy1⟩ : ∃ y, w4.cell? ⟨w.heap.size, 1, none⟩ = some y := ⟨_, (HBL.out.cell 1).trans rfl⟩
                  obtain ⟨y2, hy2⟩ : ∃ y, w4.cell? ⟨w.heap.size, 2, none⟩ = some y := ⟨_, (HBL.out.cell 2).trans rfl⟩
                  have fzb : ∀ o, w4.frozen? ⟨w.heap.size, o, none⟩ = false := fun o => by have := HBL.out; unfold BoxAt at this; simp [World.frozen?, this]
                  have hHne : w.heap.size ≠ wa.heap.size := by omega
                  have hHne2 : wa.heap.size ≠ w.heap.size := fun e => hHne e.symm
                  have hput := HBL.out.put ⟨k, qf, qt⟩
                  have hbP := ((hbL.setCell (p := ⟨w.heap.size, 0, none⟩) (Nat.le_refl _) (.int .i64 k)).setCell (p := ⟨w.heap.size, 1, none⟩) (Nat.le_refl _) (.int .i64 qf)).setCell (p := ⟨w.heap.size, 2, none⟩) (Nat.le_refl _) (.int .i64 qt)
                  have HPUT := Lib.hid hput
                  clear hput
                  by_cases hone : qt = qf + 1
                  · have hone' : (qt : Int) - (qf : Int) = 1 := by omega
                    have HBS : Hid (bestS L S = some ⟨k, qf, qt⟩) := Lib.hid (by unfold bestS; rw [HALL.out]; exact bestOf_stay (by rw [HNEW.out, HST.out]) (by simp only; omega) HAFT.out)
                    clear hone
                    go_wp2_with fail
                    go_meet
                    exact ⟨by rw [HBS.out]; rfl, by rw [HBS.out]; exact HPUT.out, hbP⟩
                  · have hone' : ¬ (qt : Int) - (qf : Int) = 1 := by omega
                    clear hone
                    go_wp2_with fail
                    go_roundg g2
                    case measure => omega
                    case rel => exact ⟨j + 1, by omega, by go_num, by first | (rw [HNEW.out, HST.out]; done) | (rw [HNEW.out, HST.out]; rfl), by rw [HNEW.out, HST.out]; exact HPUT.out, hbP⟩
  case rest =>
    obtain ⟨w2, hw2⟩ : ∃ x, x = wc := ⟨_, rfl⟩
    subst hw2
    obtain ⟨rfl, hbx, hbw⟩ := hcut
    have hm2 := HM.out.below hbw
    have hT2 : MTurn L vt w w2 := .below0 hbw
    have c7 : w2.cell? ⟨L.p, 7, none⟩ = some (.map (some L.km)) := hm2.cell 7
    have c9 : w2.cell? ⟨L.p, 9, none⟩ = some (.int .i64 S.flips) := hm2.cell 9
    have c6 : w2.cell? ⟨L.p, 6, none⟩ = some (.slice L.Ab L.n L.cbt) := hm2.cell 6
    have c10 : w2.cell? ⟨L.p, 10, none⟩ = some (.bool S.failed) := hm2.cell 10
    have c11 : w2.cell? ⟨L.p, 11, none⟩ = some (.int .i64 S.pass) := hm2.cell 11
    have c12 : w2.cell? ⟨L.p, 12, none⟩ = some (.int .i64 S.block) := hm2.cell 12
    have c13 : w2.cell? ⟨L.p, 13, none⟩ = some (.bool S.searching) := hm2.cell 13
    have c14 : w2.cell? ⟨L.p, 14, none⟩ = some (.int .i64 S.odd.p) := hm2.cell 14
    have c15 : w2.cell? ⟨L.p, 15, none⟩ = some (.int .i64 S.odd.f) := hm2.cell 15
    have c16 : w2.cell? ⟨L.p, 16, none⟩ = some (.int .i64 S.odd.t) := hm2.cell 16
    have c17 : w2.cell? ⟨L.p, 17, none⟩ = some (.bool S.ans) := hm2.cell 17
    have fz : ∀ o, w2.frozen? ⟨L.p, o, none⟩ = false := fun o => hm2.frozen o
    have HM2 := Lib.hid hm2
    have hpi : (S.pass : Int) ≤ 6 := by omega
    have HBI : Hid (∀ b, bestS L S = some b → b.p < S.pass + 1 ∧ b.f < b.t ∧ b.t ≤ L.n) := Lib.hid fun b hb => bestOf_in _ (fun q hq => blocksTo_in hB1 hq) b hb
    clear hm2
    cases hbs : bestS L S with
    | none =>
      rw [hbs] at hbx
      have HBS := Lib.hid hbs
      clear hbx HBI hbs
      go_wp2_with fail
      (try rw [Exit.noGoto_ret])
      go_ret
      unfold SearchP
      rw [HBS.out]
      exact ⟨(hT2.andSet _ _).andSet _ _, rfl, (HM2.out.set 11 (.int .i64 ((S.pass : Int) + 1)) { S with pass := S.pass + 1 } rfl rfl rfl).set 12 (.int .i64 0) _ rfl rfl rfl⟩
    | some q =>
      rw [hbs] at hbx
      obtain ⟨hi1, hi2, hi3⟩ := HBI.out q hbs
      have b0 := hbx.cell 0; have b1 := hbx.cell 1; have b2 := hbx.cell 2
      simp only [boxC] at b0 b1 b2
      have hqo : q.ok := ⟨by omega, by omega, by omega⟩
      have HQO := Lib.hid hqo
      have HBS := Lib.hid hbs
      have hne : w.heap.size ≠ L.p := by omega
      clear hbx HBI hbs hqo
      obtain ⟨qp, qf, qt⟩ := q
      simp at b0 b1 b2
      by_cases hfl : S.flips = L.n
      · have hfl' : ((S.flips : Int) == (L.n : Int)) = true := by rw [beq_iff_eq]; omega
        have HFL := Lib.hid hfl
        clear hfl
        go_wp2_with fail
        go_quiet (fail)
        go_wp2_with fail
        (try rw [Exit.noGoto_ret])
        go_ret
        unfold SearchP
        rw [HBS.out]
        dsimp only
        rw [if_pos HFL.out]
        exact ⟨(hT2.andQ ⟨_, rfl⟩).andSet _ _, rfl, (HM2.out.q ⟨_, rfl⟩).set 10 (.bool true) _ rfl rfl rfl⟩
      · have hfl' : ((S.flips : Int) == (L.n : Int)) = false := by rw [beq_eq_false_iff_ne]; omega
        have HFL := Lib.hid hfl
        clear hfl
        go_wp2_with fail
        go_quiet (fail)
        go_wp2_with fail
        have hm3 := HM2.out.q (⟨nq, rfl⟩ : Qw w2 (w2.drewN nq))
        have hT3 := hT2.andQ (⟨nq, rfl⟩ : Qw w2 (w2.drewN nq))
        have hlk : ∀ k, (Instr.lookup 88 (.map (some L.km)) (.agg #[.int .i64 qp, .int .i64 qf, .int .i64 qt]) false).run Try.prog ((w2.drewN nq).drewN k) = .ok (.bool (toldAns S.told ⟨qp, qf, qt⟩)) ((w2.drewN nq).drewN k) := fun k => (hm3.known.drewN k).look HQO.out
        have hd : ∀ a, (w2.drewN nq).cell? a = w2.cell? a := fun a => rfl
        have hf3 : ∀ a, (w2.drewN nq).frozen? a = w2.frozen? a := fun a => rfl
        have HM3 := Lib.hid hm3
        clear HM2 hm3 hT2
        generalize w2.drewN nq = w3 at hlk hd hf3 HM3 hT3 ⊢
        simp only [← hd] at b0 b1 b2 c7 c14 c15 c16 c17 c13
        simp only [← hf3] at fz
        clear hd hf3 c6 c9 c10 c11 c12
        have hlk0 : (Instr.lookup 88 (.map (some L.km)) (.agg #[.int .i64 qp, .int .i64 qf, .int .i64 qt]) false).run Try.prog w3.drew = .ok (.bool (toldAns S.told ⟨qp, qf, qt⟩)) w3.drew := hlk 1
        obtain ⟨a, ha⟩ : ∃ a, a = toldAns S.told ⟨qp, qf, qt⟩ := ⟨_, rfl⟩
        rw [← ha] at hlk0
        have HA := Lib.hid ha
        clear hlk ha
        go_region
        go_wp2_with fail
        (try rw [Exit.noGoto_ret])
        go_ret
        unfold SearchP
        rw [HBS.out]
        dsimp only
        rw [if_neg HFL.out, ← HA.out]
        have m1 := HM3.out.set 14 (.int .i64 qp) { S with odd := ⟨qp, S.odd.f, S.odd.t⟩ } rfl rfl rfl
        have m2 := m1.set 15 (.int .i64 qf) { S with odd := ⟨qp, qf, S.odd.t⟩ } rfl rfl rfl
        have m3 := m2.set 16 (.int .i64 qt) { S with odd := ⟨qp, qf, qt⟩ } rfl rfl rfl
        have m4 := m3.set 17 (.bool a) { S with odd := ⟨qp, qf, qt⟩, ans := a } rfl rfl rfl
        have m5 := m4.set 13 (.bool true) { S with odd := ⟨qp, qf, qt⟩, ans := a, searching := true } rfl rfl rfl
        exact ⟨(((((hT3.andSet _ _).andSet _ _).andSet _ _).andSet _ _).andSet _ _).andQ ⟨1, rfl⟩, rfl, m5.q ⟨1, rfl⟩⟩
end Go.Proofs.Ytncjmndiafgaaaa
/- The course of a cascade's machine, as a function; the contract of advance. Conditions: as each statement says. -/
namespace Go.Proofs.Ytncjmndiafgaaaa
open Go.RowKit
set_option linter.unusedVariables false
/-- One step of the course: 0: none, 1: ask, 2: search, 3: halve. -/
def stepS (L : Lay) (c : Nat) (S : Mst) : Nat × Mst :=
  if c = 1 then
    if S.pass = L.P then (0, S) else
      match (cutL L.B L.n S.pass)[askJ S.told (cutL L.B L.n S.pass) S.block]? with
      | some q => (0, { S with block := askJ S.told (cutL L.B L.n S.pass) S.block, next := q, opn := true })
      | none => (2, { S with block := askJ S.told (cutL L.B L.n S.pass) S.block })
  else if c = 2 then
    match bestS L S with
    | none => (1, { S with pass := S.pass + 1, block := 0 })
    | some q => if S.flips = L.n then (0, { S with failed := true }) else (3, { S with odd := q, ans := toldAns S.told q, searching := true })
  else if c = 3 then
    if S.odd.t = S.odd.f + 1 then (2, halve1 L S) else
      if toldHas S.told (firstH S.odd) = true then (3, halve2 L S) else (0, { S with next := firstH S.odd, opn := true })
  else (0, S)
def stepV (L : Lay) (c : Nat) : Value := if c = 1 then askV L else if c = 2 then searchV L else if c = 3 then halveV L else .nilFunc
/-- What holds of the machine at each step. -/
structure WFc (L : Lay) (c : Nat) (S : Mst) : Prop where
  c3 : c ≤ 3
  pass : S.pass ≤ L.P
  pas2 : 2 ≤ c → S.pass < L.P
  block : S.block ≤ 1000
  flips : S.flips ≤ L.n
  fl3 : c = 3 → S.flips < L.n
  odd : c = 3 → QIn L S.odd ∧ S.odd.f < S.odd.t
/-- How much of the course can still come without an answer. -/
def muS (L : Lay) (c : Nat) (S : Mst) : Nat :=
  ((L.P - S.pass) * (L.n + 1) + (L.n - S.flips)) * 1000 + (if c = 1 then 999 else if c = 2 then 998 else if c = 3 then S.odd.t - S.odd.f else 0)
theorem askJ_le (told : List (Qn × Bool)) (l : List Qn) (j : Nat) (h : j ≤ 1000) (hl : l.length ≤ 1000) : askJ told l j ≤ 1000 := by
  unfold askJ
  have := (List.takeWhile_sublist (fun q => toldHas told q) (l := l.drop j)).length_le
  rw [List.length_drop] at this
  omega
theorem cutL_len {B n p : Nat} (hB : 1 ≤ B) : (cutL B n p).length ≤ n := by rw [cutL, cutK_len]; exact cutN_le (sizeP_pos hB _)
theorem stepS_wf {L : Lay} {c : Nat} {S : Mst} (hB : 1 ≤ L.B) (hn : L.n ≤ 512) (h : WFc L c S) : WFc L (stepS L c S).1 (stepS L c S).2 := by
  obtain ⟨h1, h2, h3, h4, h5, h6, h7⟩ := h
  have hl : (cutL L.B L.n S.pass).length ≤ 1000 := Nat.le_trans (cutL_len hB) (by omega)
  have hj := askJ_le S.told (cutL L.B L.n S.pass) S.block h4 hl
  unfold stepS
  split
  · split
    · exact ⟨by simp only; omega, h2, (fun h => by simp at h), h4, h5, (fun h => by cases h), (fun h => by cases h)⟩
    · rename_i hne
      split
      · exact ⟨by simp only; omega, h2, (fun h => by simp at h), hj, h5, (fun h => by cases h), (fun h => by cases h)⟩
      · exact ⟨by simp only; omega, h2, (fun _ => by simp only; omega), hj, h5, (fun h => by cases h), (fun h => by cases h)⟩
  · split
    · rename_i hc
      have hp := h3 (by omega)
      split
      · exact ⟨by simp only; omega, hp, (fun h => by simp at h), by simp only; omega, h5, (fun h => by cases h), (fun h => by cases h)⟩
      · rename_i q hq
        have hqi := bestOf_in _ (fun q hq => blocksTo_in hB hq) q hq
        split
        · exact ⟨by simp only; omega, h2, (fun h => by simp at h), h4, h5, (fun h => by cases h), (fun h => by cases h)⟩
        · rename_i hfl
          exact ⟨by simp only; omega, h2, (fun _ => hp), h4, h5, (fun _ => by simp only; omega), (fun _ => ⟨⟨by simp only; omega, by simp only; omega, by simp only; omega⟩, by simp only; omega⟩)⟩
    · split
      · rename_i hc
        obtain ⟨⟨q1, q2, q3⟩, q4⟩ := h7 hc
        have hf := h6 hc
        split
        · exact ⟨by simp only; omega, h2, (fun _ => h3 (by omega)), h4, by simp only [halve1]; omega, (fun h => by cases h), (fun h => by cases h)⟩
        · rename_i hne
          split
          · refine ⟨by simp only; omega, ?_, (fun _ => ?_), ?_, ?_, (fun _ => ?_), (fun _ => ?_)⟩
            · unfold halve2; split <;> exact h2
            · unfold halve2; split <;> exact h3 (by omega)
            · unfold halve2; split <;> exact h4
            · unfold halve2; split <;> exact h5
            · unfold halve2; split <;> exact hf
            · unfold halve2; split
              · exact ⟨⟨by simp only [firstH]; omega, by simp only [firstH]; omega, by simp only [firstH]; omega⟩, by simp only [firstH]; omega⟩
              · exact ⟨⟨by simp only; omega, by simp only; omega, by simp only; omega⟩, by simp only; omega⟩
          · exact ⟨by simp only; omega, h2, (fun h => by simp at h), h4, h5, (fun h => by cases h), (fun h => by cases h)⟩
      · exact ⟨by simp only; omega, h2, (fun h => by simp at h), h4, h5, (fun h => by cases h), (fun h => by cases h)⟩
theorem mu_pass {a n f g : Nat} (h : 1 ≤ a) (hf : f ≤ n) : ((a - 1) * (n + 1) + f) * 1000 + 999 < (a * (n + 1) + f) * 1000 + g := by
  obtain ⟨b, rfl⟩ : ∃ b, a = b + 1 := ⟨a - 1, by omega⟩
  rw [Nat.add_sub_cancel, Nat.add_mul b 1 (n + 1), Nat.one_mul]
  generalize b * (n + 1) = x
  omega
theorem stepS_mu {L : Lay} {c : Nat} {S : Mst} (hB : 1 ≤ L.B) (hn : L.n ≤ 512) (h : WFc L c S) (hc : c ≠ 0) : muS L (stepS L c S).1 (stepS L c S).2 < muS L c S := by
  obtain ⟨h1, h2, h3, h4, h5, h6, h7⟩ := h
  unfold stepS
  split
  · rename_i hc1
    subst hc1
    split
    · unfold muS; simp
    · split
      · unfold muS; simp
      · unfold muS; simp
  · rename_i hc1
    split
    · rename_i hc2
      have hp := h3 (by omega)
      subst hc2
      split
      · unfold muS
        simp only [if_true]
        have := mu_pass (a := L.P - S.pass) (n := L.n) (f := L.n - S.flips) (g := 998) (by omega) (by omega)
        rw [show L.P - (S.pass + 1) = L.P - S.pass - 1 by omega]
        simpa using this
      · rename_i q hq
        have hqi := bestOf_in _ (fun q hq => blocksTo_in hB hq) q hq
        split
        · unfold muS; simp
        · unfold muS; simp; omega
    · rename_i hc2
      have hc3 : c = 3 := by omega
      obtain ⟨⟨q1, q2, q3⟩, q4⟩ := h7 hc3
      have hf := h6 hc3
      rw [if_pos hc3]
      subst hc3
      split
      · unfold muS halve1
        simp only [if_true]
        generalize (L.P - S.pass) * (L.n + 1) = x
        simp
        omega
      · rename_i hne
        split
        · unfold muS halve2
          split
          · simp only [firstH]; simp; omega
          · simp; omega
        · unfold muS; simp; omega
/-- The course up to where it waits. -/
def runS (L : Lay) : Nat → Nat → Mst → Mst
  | 0, _, S => S
  | f + 1, c, S => if c = 0 then S else runS L f (stepS L c S).1 (stepS L c S).2
def advC (S : Mst) : Nat := if S.searching then 3 else 1
def advS0 (S : Mst) : Mst := { S with next := ⟨0, 0, 0⟩, opn := false }
def advS (L : Lay) (S : Mst) : Mst := runS L (muS L (advC S) (advS0 S) + 1) (advC S) (advS0 S)
/-- What holds of a machine that waits. -/
structure WFm (L : Lay) (S : Mst) : Prop where
  pass : S.pass ≤ L.P
  block : S.block ≤ 1000
  flips : S.flips ≤ L.n
  sr : S.searching = true → S.pass < L.P ∧ S.flips < L.n ∧ QIn L S.odd ∧ S.odd.f < S.odd.t
theorem WFm.start {L : Lay} {S : Mst} (h : WFm L S) : WFc L (advC S) (advS0 S) := by
  unfold advC
  split
  · rename_i hs
    obtain ⟨h1, h2, h3, h4⟩ := h.sr hs
    exact ⟨by omega, h.pass, fun _ => h1, h.block, h.flips, fun _ => h2, fun _ => ⟨h3, h4⟩⟩
  · exact ⟨by omega, h.pass, (fun h => by omega), h.block, h.flips, (fun h => by cases h), (fun h => by cases h)⟩
theorem stepV_nil (L : Lay) : stepV L 0 = .nilFunc := rfl
theorem stepV_ask (L : Lay) : stepV L 1 = askV L := rfl
theorem stepV_search (L : Lay) : stepV L 2 = searchV L := rfl
theorem stepV_halve (L : Lay) : stepV L 3 = halveV L := rfl
theorem step_ask (L : Lay) (vt : Value) (S : Mst) (w : World) (hm : MAt w L vt S) (h : WFc L 1 S) :
    Calls Try.prog 68 #[ptrV L] w fun e w' => e = .returned (stepV L (stepS L 1 S).1) ∧ MAt w' L vt (stepS L 1 S).2 ∧ MTurn L vt w w' := by
  by_cases hp : S.pass = L.P
  · have e : stepS L 1 S = (0, S) := by unfold stepS; rw [if_pos rfl, if_pos hp]
    rw [e]
    exact (ask_end L vt S w hm hp).mono fun e w' ⟨he, hq⟩ => ⟨he, hm.q hq, .q hq⟩
  · refine (ask_go L vt S w hm (by have := h.pass; omega) h.block).mono fun e w' hP => ?_
    obtain ⟨hT, hP⟩ := hP
    rcases hP with ⟨q, hq, he, hm'⟩ | ⟨hq, he, hm'⟩
    · have e : stepS L 1 S = (0, { S with block := askJ S.told (cutL L.B L.n S.pass) S.block, next := q, opn := true }) := by unfold stepS; rw [if_pos rfl, if_neg hp, hq]
      rw [e]; exact ⟨he, hm', hT⟩
    · have e : stepS L 1 S = (2, { S with block := askJ S.told (cutL L.B L.n S.pass) S.block }) := by unfold stepS; rw [if_pos rfl, if_neg hp, hq]
      rw [e]; exact ⟨he, hm', hT⟩
theorem step_search (L : Lay) (vt : Value) (S : Mst) (w : World) (hm : MAt w L vt S) (h : WFc L 2 S) :
    Calls Try.prog 74 #[ptrV L] w fun e w' => e = .returned (stepV L (stepS L 2 S).1) ∧ MAt w' L vt (stepS L 2 S).2 ∧ MTurn L vt w w' := by
  refine (search_any L vt S w hm (h.pas2 (Nat.le_refl _))).mono fun e w' hP => ?_
  obtain ⟨hT, hP⟩ := hP
  cases hb : bestS L S with
  | none =>
    rw [hb] at hP
    have e : stepS L 2 S = (1, { S with pass := S.pass + 1, block := 0 }) := by unfold stepS; rw [if_neg (by decide), if_pos rfl, hb]
    rw [e]; exact ⟨hP.1, hP.2, hT⟩
  | some q =>
    rw [hb] at hP
    dsimp only at hP
    by_cases hf : S.flips = L.n
    · rw [if_pos hf] at hP
      have e : stepS L 2 S = (0, { S with failed := true }) := by unfold stepS; rw [if_neg (by decide), if_pos rfl, hb]; simp only; rw [if_pos hf]
      rw [e]; exact ⟨hP.1, hP.2, hT⟩
    · rw [if_neg hf] at hP
      have e : stepS L 2 S = (3, { S with odd := q, ans := toldAns S.told q, searching := true }) := by unfold stepS; rw [if_neg (by decide), if_pos rfl, hb]; simp only; rw [if_neg hf]
      rw [e]; exact ⟨hP.1, hP.2, hT⟩
theorem step_halve (L : Lay) (vt : Value) (S : Mst) (w : World) (hm : MAt w L vt S) (h : WFc L 3 S) :
    Calls Try.prog 69 #[ptrV L] w fun e w' => e = .returned (stepV L (stepS L 3 S).1) ∧ MAt w' L vt (stepS L 3 S).2 ∧ MTurn L vt w w' := by
  obtain ⟨hq, hlt⟩ := h.odd rfl
  have hn := hm.st.hn
  by_cases h1 : S.odd.t = S.odd.f + 1
  · have e : stepS L 3 S = (2, halve1 L S) := by unfold stepS; rw [if_neg (by decide), if_neg (by decide), if_pos rfl, if_pos h1]
    rw [e]; exact halve_one L vt S w hm hq h1 (by have := h.flips; omega)
  · by_cases hk : toldHas S.told (firstH S.odd) = true
    · have e : stepS L 3 S = (3, halve2 L S) := by unfold stepS; rw [if_neg (by decide), if_neg (by decide), if_pos rfl, if_neg h1, if_pos hk]
      rw [e]; exact halve_go L vt S w hm hq (by omega) hk
    · have e : stepS L 3 S = (0, { S with next := firstH S.odd, opn := true }) := by unfold stepS; rw [if_neg (by decide), if_neg (by decide), if_pos rfl, if_neg h1, if_neg hk]
      rw [e]; exact halve_ask L vt S w hm hq (by omega) (by simpa using hk)
theorem neq_func (L : Lay) (f : Fn) (w : World) : (binOp BinOp.neq 121 (.func f #[ptrV L] #[]) .nilFunc).run Try.prog w = .ok (.bool true) w := by kernel_rfl
theorem neq_nil (w : World) : (binOp BinOp.neq 121 .nilFunc .nilFunc).run Try.prog w = .ok (.bool false) w := by kernel_rfl
set_option maxRecDepth 100000 in
set_option maxHeartbeats 2000000 in
theorem advance_any (L : Lay) (vt : Value) (S : Mst) (w : World) (hm : MAt w L vt S) (h : WFm L S) :
    Calls Try.prog 59 #[ptrV L] w fun e w' => e = .returned (.tuple #[]) ∧ MAt w' L vt (advS L S) ∧ MTurn L vt w w' := by
  have hst := hm.st
  have hB := hst.hB.1
  have hn := hst.hn
  have c13 : w.cell? ⟨L.p, 13, none⟩ = some (.bool S.searching) := hm.cell 13
  have c18 : w.cell? ⟨L.p, 18, none⟩ = some (.int .i64 S.next.p) := hm.cell 18
  have c19 : w.cell? ⟨L.p, 19, none⟩ = some (.int .i64 S.next.f) := hm.cell 19
  have c20 : w.cell? ⟨L.p, 20, none⟩ = some (.int .i64 S.next.t) := hm.cell 20
  have c21 : w.cell? ⟨L.p, 21, none⟩ = some (.bool S.opn) := hm.cell 21
  have fz : ∀ o, w.frozen? ⟨L.p, o, none⟩ = false := fun o => hm.frozen o
  have m1 := hm.set 18 (.int .i64 0) { S with next := ⟨0, S.next.f, S.next.t⟩ } rfl rfl rfl
  have m2 := m1.set 19 (.int .i64 0) { S with next := ⟨0, 0, S.next.t⟩ } rfl rfl rfl
  have m3 := m2.set 20 (.int .i64 0) { S with next := ⟨0, 0, 0⟩ } rfl rfl rfl
  have m4 := m3.set 21 (.bool false) (advS0 S) rfl rfl rfl
  have T4 : MTurn L vt w ((((w.setCell ⟨L.p, 18, none⟩ (.int .i64 0)).setCell ⟨L.p, 19, none⟩ (.int .i64 0)).setCell ⟨L.p, 20, none⟩ (.int .i64 0)).setCell ⟨L.p, 21, none⟩ (.bool false)) := ((((MTurn.refl L vt w).andSet _ _).andSet _ _).andSet _ _).andSet _ _
  have HM4 := Lib.hid m4
  have HT := Lib.hid T4
  have W0 := h.start
  have HADV : Hid (advS L S = runS L (muS L (advC S) (advS0 S) + 1) (advC S) (advS0 S)) := Lib.hid rfl
  have hsr : S.searching = true ∨ S.searching = false := by cases S.searching <;> simp
  have HW0 := Lib.hid W0
  clear m1 m2 m3 m4 T4 hst W0
  rcases hsr with hsr | hsr
  · rw [hsr] at c13
    have hc : advC S = 3 := by unfold advC; rw [if_pos hsr]
    rw [hc] at HADV HW0
    clear hsr hc
    go_enter Try.func59, Try.ntmps59
    go_wp2_with fail
    clear c13 c18 c19 c20 c21 fz
    go_loopg [2] (muS L 3 (advS0 S) + 1) (fun g v wr => ∃ (c : Nat) (X : Mst), v = stepV L c ∧ WFc L c X ∧ muS L c X < g ∧ runS L g c X = advS L S ∧ MAt wr L vt X ∧ MTurn L vt w wr)
    case atStart => exact ⟨3, advS0 S, rfl, HW0.out, Nat.lt_succ_self _, HADV.out.symm, HM4.out, HT.out⟩
    case round =>
      obtain ⟨c, X, rfl, hwf, hmu, hrun, hmx, hTx⟩ := hrel
      obtain ⟨wa, rfl⟩ : ∃ x : World, x = wr := ⟨_, rfl⟩
      have HWF := Lib.hid hwf; have HMX := Lib.hid hmx
      obtain ⟨g, rfl⟩ : ∃ g, gk = g + 1 := ⟨gk - 1, by omega⟩
      have hc3 := hwf.c3
      have HR := Lib.hid hrun
      have HMU : Hid (c ≠ 0 → muS L (stepS L c X).1 (stepS L c X).2 < g) := Lib.hid fun h0 => by have := stepS_mu hB hn hwf h0; omega
      have HW2 := Lib.hid (stepS_wf hB hn hwf)
      clear hwf hmx hrun hmu
      have h4 : c = 0 ∨ c = 1 ∨ c = 2 ∨ c = 3 := by omega
      have hnf := neq_func L
      have hnn := neq_nil
      rcases h4 with rfl | rfl | rfl | rfl
      · rw [stepV_nil]
        go_wp2_with fail
        go_end0
        have hr := HR.out
        rw [show runS L (g + 1) 0 X = X from rfl] at hr
        rw [← hr]
        exact ⟨rfl, HMX.out, hTx⟩
      · rw [stepV_ask]
        go_wp2_with fail
        refine (step_ask L vt X _ HMX.out HWF.out).mono ?_
        rintro e w2 ⟨rfl, hm2, hT2⟩
        have HM2 := Lib.hid hm2
        have hT3 := hTx.trans hT2 (.inl rfl)
        clear hm2 hT2
        go_wp2_with fail
        go_roundg g
        case measure => omega
        case rel => exact ⟨_, _, rfl, HW2.out, HMU.out (by decide), HR.out, HM2.out, hT3⟩
      · rw [stepV_search]
        go_wp2_with fail
        refine (step_search L vt X _ HMX.out HWF.out).mono ?_
        rintro e w2 ⟨rfl, hm2, hT2⟩
        have HM2 := Lib.hid hm2
        have hT3 := hTx.trans hT2 (.inl rfl)
        clear hm2 hT2
        go_wp2_with fail
        go_roundg g
        case measure => omega
        case rel => exact ⟨_, _, rfl, HW2.out, HMU.out (by decide), HR.out, HM2.out, hT3⟩
      · rw [stepV_halve]
        go_wp2_with fail
        refine (step_halve L vt X _ HMX.out HWF.out).mono ?_
        rintro e w2 ⟨rfl, hm2, hT2⟩
        have HM2 := Lib.hid hm2
        have hT3 := hTx.trans hT2 (.inl rfl)
        clear hm2 hT2
        go_wp2_with fail
        go_roundg g
        case measure => omega
        case rel => exact ⟨_, _, rfl, HW2.out, HMU.out (by decide), HR.out, HM2.out, hT3⟩
  · rw [hsr] at c13
    have hc : advC S = 1 := by unfold advC; rw [if_neg (by rw [hsr]; simp)]
    rw [hc] at HADV HW0
    clear hsr hc
    go_enter Try.func59, Try.ntmps59
    go_wp2_with fail
    clear c13 c18 c19 c20 c21 fz
    go_loopg [2] (muS L 1 (advS0 S) + 1) (fun g v wr => ∃ (c : Nat) (X : Mst), v = stepV L c ∧ WFc L c X ∧ muS L c X < g ∧ runS L g c X = advS L S ∧ MAt wr L vt X ∧ MTurn L vt w wr)
    case atStart => exact ⟨1, advS0 S, rfl, HW0.out, Nat.lt_succ_self _, HADV.out.symm, HM4.out, HT.out⟩
    case round =>
      obtain ⟨c, X, rfl, hwf, hmu, hrun, hmx, hTx⟩ := hrel
      obtain ⟨wa, rfl⟩ : ∃ x : World, x = wr := ⟨_, rfl⟩
      have HWF := Lib.hid hwf; have HMX := Lib.hid hmx
      obtain ⟨g, rfl⟩ : ∃ g, gk = g + 1 := ⟨gk - 1, by omega⟩
      have hc3 := hwf.c3
      have HR := Lib.hid hrun
      have HMU : Hid (c ≠ 0 → muS L (stepS L c X).1 (stepS L c X).2 < g) := Lib.hid fun h0 => by have := stepS_mu hB hn hwf h0; omega
      have HW2 := Lib.hid (stepS_wf hB hn hwf)
      clear hwf hmx hrun hmu
      have h4 : c = 0 ∨ c = 1 ∨ c = 2 ∨ c = 3 := by omega
      have hnf := neq_func L
      have hnn := neq_nil
      rcases h4 with rfl | rfl | rfl | rfl
      · rw [stepV_nil]
        go_wp2_with fail
        go_end0
        have hr := HR.out
        rw [show runS L (g + 1) 0 X = X from rfl] at hr
        rw [← hr]
        exact ⟨rfl, HMX.out, hTx⟩
      · rw [stepV_ask]
        go_wp2_with fail
        refine (step_ask L vt X _ HMX.out HWF.out).mono ?_
        rintro e w2 ⟨rfl, hm2, hT2⟩
        have HM2 := Lib.hid hm2
        have hT3 := hTx.trans hT2 (.inl rfl)
        clear hm2 hT2
        go_wp2_with fail
        go_roundg g
        case measure => omega
        case rel => exact ⟨_, _, rfl, HW2.out, HMU.out (by decide), HR.out, HM2.out, hT3⟩
      · rw [stepV_search]
        go_wp2_with fail
        refine (step_search L vt X _ HMX.out HWF.out).mono ?_
        rintro e w2 ⟨rfl, hm2, hT2⟩
        have HM2 := Lib.hid hm2
        have hT3 := hTx.trans hT2 (.inl rfl)
        clear hm2 hT2
        go_wp2_with fail
        go_roundg g
        case measure => omega
        case rel => exact ⟨_, _, rfl, HW2.out, HMU.out (by decide), HR.out, HM2.out, hT3⟩
      · rw [stepV_halve]
        go_wp2_with fail
        refine (step_halve L vt X _ HMX.out HWF.out).mono ?_
        rintro e w2 ⟨rfl, hm2, hT2⟩
        have HM2 := Lib.hid hm2
        have hT3 := hTx.trans hT2 (.inl rfl)
        clear hm2 hT2
        go_wp2_with fail
        go_roundg g
        case measure => omega
        case rel => exact ⟨_, _, rfl, HW2.out, HMU.out (by decide), HR.out, HM2.out, hT3⟩
end Go.Proofs.Ytncjmndiafgaaaa
/- The contract of Tell of a cascade's machine. Conditions: as each statement says. -/
namespace Go.Proofs.Ytncjmndiafgaaaa
open Go.RowKit
set_option linter.unusedVariables false
theorem info_answer : (Try.prog.info? 112).map (fun i => (i.zero, i.size, i.bytes)) = some (some (.agg #[.int .i64 0, .int .i64 0, .int .i64 0, .bool false]), 4, 32) := by kernel_rfl
theorem elB_answer : ElemB Try.prog 63 112 4 32 := ElemB.of Try.underlying63 info_answer rfl (by decide)
section
variable {P : Program} {t e : TypeId} {size bytes : Nat}
theorem step_pushL {ops : Array Oper} {o : Oper} {a : Act} {K : Act → World → Prop} {Q : Exit → Act → World → Prop} {E : Prop} {wa : World} {us : Array Value} {tu : TypeId} (T : ElemB P t e size bytes) (s x : Operand) (hgd : o.guard = none)
    (ho : o.op = .call { callee := .builtin .append, args := #[s, x], argTypes := #[t, t] }) (B : Nat) (n : Nat) (xs : List Value) {v : Value} (hs : a.eval s = v) (hown : wa.ownsRow B e size v n xs)
    (hx : a.eval x = .slice (some ⟨wa.heap.size, 0, none⟩) 1 1) (hus : us.size = size) (h1 : ∀ u ∈ us.toList, u.oneCell' = true) (hn : n ≤ 1099511627776) (hb : bytes ≤ 64) (hB : B ≤ wa.heap.size)
    (h : ∀ v' w', w'.ownsRow B e size v' (n + 1) (xs ++ us.toList) → Below B wa w' → wa.grownBy w' v.ownBlock → Lies v v' (wa.heap.size + 1) → K (a.put o.dst v') w') :
    if Region.wanted o (yielded ops a.tmps) = true then Oper.wp P o a (wa.alloc (.cells us tu)) K Q else E := by
  rw [if_pos (by simp [Region.wanted, hgd])]
  exact wp_pushL T s x ho B n xs hs hown hx hus h1 hn hb hB h
end
theorem MTurn.grow {L : Lay} {vt : Value} {w w' : World} (hg : w.grownBy w' vt.ownBlock) : MTurn L vt w w' := ⟨hg.os, hg.tape, hg.output, hg.size, fun k hk _ _ _ h => hg.block k hk (fun e => h e.symm)⟩
theorem valid_m (L : Lay) (vt : Value) (S : Mst) (w : World) (hm : MAt w L vt S) :
    Calls Try.prog 60 #[ptrV L] w fun e w' => e = .returned (.bool true) ∧ w = w' := by
  have c0 : w.cell? ⟨L.p, 0, none⟩ = some (.bool true) := hm.cell 0
  clear hm
  go_enter Try.func60, Try.ntmps60
  go_wp2_with fail
  go_ret
  exact ⟨rfl, rfl⟩
/-- What stands once an answer lies in the map, but not yet in the list. -/
theorem MAt.mapped {w w1 : World} {L : Lay} {vt : Value} {S : Mst} (h : MAt w L vt S) (hg : w.grownBy w1 (some L.km)) :
    w1.heap[L.p]? = some (.cells (mCells L S vt) 92 (0, 0)) ∧ w1.ownsRow L.base 112 4 vt S.told.length (aCells S.told) ∧ w1.ownsRow L.base 4 1 (.slice L.Ab L.n L.cbt) L.n (S.b.map Value.bool) ∧ MSt w1 L ∧ MTurn L vt w w1 := by
  obtain ⟨n', D, _, ⟨es, clock, hk, _⟩, _⟩ := h.known
  have hne : ∀ {k : Nat} {cs : Array Value} {t : TypeId}, w.heap[k]? = some (.cells cs t (0, 0)) → k ≠ L.km := fun hc e => by
    rw [e] at hc
    have := hc.symm.trans hk
    injection this with this
    cases this
  have own : ∀ {t sz n v xs}, w.ownsRow L.base t sz v n xs → w1.ownsRow L.base t sz v n xs := fun {t sz n v xs} ho => by
    refine ho.kept hg ?_
    rcases ho.2 with ⟨hl, _⟩ | ⟨g', cap', cur', hv, _, hg', _⟩
    · rw [hl]; exact .inl rfl
    · rw [hv]; refine .inr ?_
      intro e
      simp only [Value.ownBlock, Option.some.injEq] at e
      exact hne hg' e
  have hT : MTurn L vt w w1 := ⟨hg.os, hg.tape, hg.output, hg.size, fun k hk' _ h2 _ _ => hg.block k hk' (fun e => h2 (Option.some.inj e))⟩
  exact ⟨(hg.block _ h.lt (fun e => hne h.cells (Option.some.inj e))).trans h.cells, own h.told, own h.bits, MSt.turn h hT, hT⟩
theorem type_ne {w : World} {B t sz n g : Nat} {v : Value} {xs : List Value} {cs : Array Value} {t' : TypeId} (h : w.ownsRow B t sz v n xs) (hv : v.ownBlock = some g) (hg : w.heap[g]? = some (.cells cs t' (0, 0))) (ht : t ≠ t') : False := by
  rcases h.2 with ⟨hl, _⟩ | ⟨g', cap', cur', hv', _, hg', _⟩
  · rw [hl] at hv; cases hv
  · rw [hv'] at hv
    simp only [Value.ownBlock, Option.some.injEq] at hv
    subst hv
    have := hg'.symm.trans hg
    injection this with this
    injection this with _ e _
    exact ht e
theorem type_ne2 {w : World} {B t sz n B' t' sz' n' g : Nat} {v v' : Value} {xs xs' : List Value} (h : w.ownsRow B t sz v n xs) (hv : v.ownBlock = some g) (h' : w.ownsRow B' t' sz' v' n' xs') (hv' : v'.ownBlock = some g) (ht : t ≠ t') : False := by
  rcases h'.2 with ⟨hl, _⟩ | ⟨g', cap', cur', e', _, hg', _⟩
  · rw [hl] at hv'; cases hv'
  · rw [e'] at hv'
    simp only [Value.ownBlock, Option.some.injEq] at hv'
    subst hv'
    exact type_ne h hv hg' ht
theorem map_ne_row {w : World} {g : Nat} {cs : Array Value} {t : TypeId} {l : List (Qn × Bool)} (hg : w.heap[g]? = some (.cells cs t (0, 0))) (hk : KnAt w g l) : False := by
  obtain ⟨n', D, _, ⟨es, clock, hk, _⟩, _⟩ := hk
  have := hg.symm.trans hk
  injection this with this
  cases this
theorem map_ne {w : World} {B t sz n g : Nat} {v : Value} {xs : List Value} {l : List (Qn × Bool)} (h : w.ownsRow B t sz v n xs) (hv : v.ownBlock = some g) (hk : KnAt w g l) : False := by
  rcases h.2 with ⟨hl, _⟩ | ⟨g', cap', cur', hv', _, hg', _⟩
  · rw [hl] at hv; cases hv
  · rw [hv'] at hv
    simp only [Value.ownBlock, Option.some.injEq] at hv
    subst hv
    exact map_ne_row hg' hk
/-- What Tell leaves. -/
def TellP (L : Lay) (vt : Value) (S : Mst) (a : Bool) (w : World) (e : Ending) (w' : World) : Prop :=
  e = .returned (.int .i64 0) ∧ ∃ vt', MAt w' L vt' (advS L { S with told := S.told ++ [(S.next, a)] }) ∧ MTurn L vt w w' ∧ (vt'.ownBlock = vt.ownBlock ∨ ∀ g, vt'.ownBlock = some g → w.heap.size ≤ g)
set_option maxRecDepth 100000 in
set_option maxHeartbeats 4000000 in
theorem Tell_any (L : Lay) (vt : Value) (S : Mst) (a : Bool) (w : World) (hm : MAt w L vt S) (h : WFm L S) (ho : S.opn = true) (hq : S.next.ok) (hnew : toldHas S.told S.next = false) (hlen : S.told.length < 1000000) :
    Calls Try.prog 41 #[ptrV L, .bool a] w (TellP L vt S a w) := by
  have HM := Lib.hid hm; have HWF := Lib.hid h; have HQ := Lib.hid hq; have HNEW := Lib.hid hnew; have HO := Lib.hid ho
  have c21 : w.cell? ⟨L.p, 21, none⟩ = some (.bool true) := by rw [hm.cell 21, ← ho]; rfl
  have c7 : w.cell? ⟨L.p, 7, none⟩ = some (.map (some L.km)) := hm.cell 7
  have c18 : w.cell? ⟨L.p, 18, none⟩ = some (.int .i64 S.next.p) := hm.cell 18
  have c19 : w.cell? ⟨L.p, 19, none⟩ = some (.int .i64 S.next.f) := hm.cell 19
  have c20 : w.cell? ⟨L.p, 20, none⟩ = some (.int .i64 S.next.t) := hm.cell 20
  clear hm h hq hnew ho
  go_enter Try.func41, Try.ntmps41
  go_wp2_with fail
  refine (valid_m L vt S _ HM.out).mono ?_
  rintro e w' ⟨rfl, rfl⟩
  go_wp2_with fail
  refine wp_region_quiet_tail 9 (by kernel_rfl) (by kernel_rfl) ?_
  simp only [List.take_succ_cons, List.take_zero, List.drop_succ_cons, List.drop_zero]
  repeat (quiet_step (fail))
  refine wpQuiet_nil ?_
  intro _ hw'
  obtain ⟨nr, hw''⟩ := hw'
  subst hw''
  have hm0 := HM.out.q (⟨nr, rfl⟩ : Qw w (w.drewN nr))
  have hT0 : MTurn L vt w (w.drewN nr) := .q ⟨nr, rfl⟩
  have hs0 : (w.drewN nr).heap.size = w.heap.size := rfl
  obtain ⟨w1, hrun, hk1, hg1⟩ := hm0.known.store HQ.out HNEW.out a (by omega)
  obtain ⟨hp1, ht1, hb1, hst1, hT1⟩ := hm0.mapped hg1
  have hT2 := hT0.trans hT1 (.inl rfl)
  have hsz1 := hg1.size
  clear c21 c7 c18 c19 c20 hT2
  generalize w.drewN nr = w0 at hrun hm0 hg1 hs0 hsz1 hT0 hT1 ⊢
  go_wp2_with fail
  have HM0 := Lib.hid hm0; have HT0 := Lib.hid hT0; have HT1' := Lib.hid hT1
  clear hrun hm0 hT0 hT1
  obtain ⟨At, ct, hvt, hct⟩ := own_form ht1
  have HVT := Lib.hid hvt
  have d8 : w1.cell? ⟨L.p, 8, none⟩ = some (.slice At S.told.length ct) := by rw [cell_of_row _ _ _ _ _ _ hp1, ← hvt]; rfl
  have d18 : w1.cell? ⟨L.p, 18, none⟩ = some (.int .i64 S.next.p) := by rw [cell_of_row _ _ _ _ _ _ hp1]; rfl
  have d19 : w1.cell? ⟨L.p, 19, none⟩ = some (.int .i64 S.next.f) := by rw [cell_of_row _ _ _ _ _ _ hp1]; rfl
  have d20 : w1.cell? ⟨L.p, 20, none⟩ = some (.int .i64 S.next.t) := by rw [cell_of_row _ _ _ _ _ _ hp1]; rfl
  have hlt1 : L.p < w1.heap.size := (Array.getElem?_eq_some_iff.1 hp1).1
  have hlb : L.base ≤ w1.heap.size := Nat.le_trans HM.out.pb (Nat.le_of_lt hlt1)
  rw [hvt] at ht1
  have HP1 := Lib.hid hp1; have HT1 := Lib.hid ht1; have HB1 := Lib.hid hb1; have HST1 := Lib.hid hst1; have HK1 := Lib.hid hk1
  clear hp1 ht1 hb1 hst1 hk1 hvt hg1
  refine wp_region_held_drew (S := fun w' => True) (by kernel_rfl) ?_ (fun hHeld => ?_)
  · (try dsimp only); all_goals trivial
  refine wpAnyH_take (i := 0) (oi := ⟨some 22, _, _, _, _, _⟩) (v := ?_) rfl (by kernel_rfl) (by kernel_rfl) (by kernel_rfl) (fun _ _ _ h => h) (Or.inl ⟨by rfl, ?_⟩) (by assumption) ?_
  rotate_left
  · (intro w hSw; (try dsimp only at hSw); go_simp; try with_reducible rfl)
  try simp only [Act.put, List.setIfInBounds_toArray, List.set_cons_zero, List.set_cons_succ]
  refine wpAnyH_take (i := 1) (oi := ⟨some 23, _, _, _, _, _⟩) (v := ?_) rfl (by kernel_rfl) (by kernel_rfl) (by kernel_rfl) (fun _ _ _ h => h) (Or.inl ⟨by rfl, ?_⟩) (by assumption) ?_
  rotate_left
  · (intro w hSw; (try dsimp only at hSw); go_simp; try with_reducible rfl)
  try simp only [Act.put, List.setIfInBounds_toArray, List.set_cons_zero, List.set_cons_succ]
  refine wpAnyH_take (i := 2) (oi := ⟨some 24, _, _, _, _, _⟩) (v := ?_) rfl (by kernel_rfl) (by kernel_rfl) (by kernel_rfl) (fun _ _ _ h => h) (Or.inl ⟨by rfl, ?_⟩) (by assumption) ?_
  rotate_left
  · (intro w hSw; (try dsimp only at hSw); go_simp; try with_reducible rfl)
  try simp only [Act.put, List.setIfInBounds_toArray, List.set_cons_zero, List.set_cons_succ]
  refine wpAnyH_take (i := 3) (oi := ⟨some 25, _, _, _, _, _⟩) (v := ?_) rfl (by kernel_rfl) (by kernel_rfl) (by kernel_rfl) (fun _ _ _ h => h) (Or.inl ⟨by rfl, ?_⟩) (by assumption) ?_
  rotate_left
  · (intro w hSw; (try dsimp only at hSw); go_simp; try with_reducible rfl)
  try simp only [Act.put, List.setIfInBounds_toArray, List.set_cons_zero, List.set_cons_succ]
  refine wpAnyH_take (i := 5) (oi := ⟨some 27, _, _, _, _, _⟩) (v := ?_) rfl (by kernel_rfl) (by kernel_rfl) (by kernel_rfl) (fun _ _ _ h => h) (Or.inl ⟨by rfl, ?_⟩) (by assumption) ?_
  rotate_left
  · (intro w hSw; (try dsimp only at hSw); go_simp; try with_reducible rfl)
  try simp only [Act.put, List.setIfInBounds_toArray, List.set_cons_zero, List.set_cons_succ]
  refine wpAnyH_take (i := 6) (oi := ⟨some 28, _, _, _, _, _⟩) (v := ?_) rfl (by kernel_rfl) (by kernel_rfl) (by kernel_rfl) (fun _ _ _ h => h) (Or.inl ⟨by rfl, ?_⟩) (by assumption) ?_
  rotate_left
  · (intro w hSw; (try dsimp only at hSw); go_simp; try with_reducible rfl)
  try simp only [Act.put, List.setIfInBounds_toArray, List.set_cons_zero, List.set_cons_succ]
  refine wpAnyH_take (i := 7) (oi := ⟨some 29, _, _, _, _, _⟩) (v := ?_) rfl (by kernel_rfl) (by kernel_rfl) (by kernel_rfl) (fun _ _ _ h => h) (Or.inl ⟨by rfl, ?_⟩) (by assumption) ?_
  rotate_left
  · (intro w hSw; (try dsimp only at hSw); go_simp; try with_reducible rfl)
  try simp only [Act.put, List.setIfInBounds_toArray, List.set_cons_zero, List.set_cons_succ]
  refine wpAnyH_take (i := 9) (oi := ⟨some 31, _, _, _, _, _⟩) (v := ?_) rfl (by kernel_rfl) (by kernel_rfl) (by kernel_rfl) (fun _ _ _ h => h) (Or.inl ⟨by rfl, ?_⟩) (by assumption) ?_
  rotate_left
  · (intro w hSw; (try dsimp only at hSw); go_simp; try with_reducible rfl)
  try simp only [Act.put, List.setIfInBounds_toArray, List.set_cons_zero, List.set_cons_succ]
  refine wpAnyH_ready (rs := [4, 8]) (by kernel_rfl) (by simp) ?_
  refine AllReadyH.cons (o := ⟨some 26, _, _, _, _, _⟩) rfl (fun K hK => ?_) ?_
  · skip
    go_simp
    refine hK.out _ _ ?_ (fun hHeld => ?_)
    · (try dsimp only); all_goals trivial
    clear hK K
    try simp only [Act.put, List.setIfInBounds_toArray, List.set_cons_zero, List.set_cons_succ]
    refine wpAnyH_ready (rs := [8]) (by kernel_rfl) (by simp) ?_
    refine AllReadyH.cons (o := ⟨some 30, _, _, _, _, _⟩) rfl (fun K hK => ?_) AllReadyH.nil
    go_simp
    refine hK.out _ _ ?_ (fun hHeld => ?_)
    · (try dsimp only); all_goals trivial
    clear hK K
    try simp only [Act.put, List.setIfInBounds_toArray, List.set_cons_zero, List.set_cons_succ]
    refine wpAnyH_take (i := 10) (oi := ⟨some 32, _, _, _, _, _⟩) (v := ?_) rfl (by kernel_rfl) (by kernel_rfl) (by kernel_rfl) (fun _ _ _ h => h) (Or.inl ⟨by rfl, ?_⟩) (by assumption) ?_
    rotate_left
    · (intro w hSw; (try dsimp only at hSw); go_simp; try with_reducible rfl)
    try simp only [Act.put, List.setIfInBounds_toArray, List.set_cons_zero, List.set_cons_succ]
    refine wpAnyH_ready (rs := [11]) (by kernel_rfl) (by simp) ?_
    refine AllReadyH.cons (o := ⟨some 33, _, _, _, _, _⟩) rfl (fun K hK => ?_) AllReadyH.nil
    go_simp
    refine hK.out _ _ ?_ (fun hHeld => ?_)
    · (try dsimp only); all_goals trivial
    clear hK K
    try simp only [Act.put, List.setIfInBounds_toArray, List.set_cons_zero, List.set_cons_succ]
    refine wpAnyH_ready (rs := [12]) (by kernel_rfl) (by simp) ?_
    refine AllReadyH.cons (o := ⟨some 34, _, _, _, _, _⟩) rfl (fun K hK => ?_) AllReadyH.nil
    refine step_pushL elB_answer (.tmp 26) (.tmp 33) (by rfl) (by rfl) L.base S.told.length _ (by rfl) HT1.out.drew (by rfl) (by rfl) (by intro u hu; simp at hu; rcases hu with rfl | rfl | rfl | rfl <;> rfl) (by omega) (by decide) hlb ?_
    intro v8 w8 hown8 hb8 hg8 hL8
    obtain ⟨A8, c8, rfl, hc8⟩ := own_form hown8
    have hpt : (Value.slice At S.told.length ct).ownBlock ≠ some L.p := fun e => type_ne HT1.out e HP1.out (by decide)
    have hp8 := (hg8.block L.p hlt1 (fun e => hpt e.symm)).trans HP1.out
    have e8 : w8.cell? ⟨L.p, 8, none⟩ = some (.slice At S.told.length ct) := by rw [cell_of_row _ _ _ _ _ _ hp8, ← HVT.out]; rfl
    have f8 : w8.frozen? ⟨L.p, 8, none⟩ = false := by simp [World.frozen?, hp8]
    have HP8 := Lib.hid hp8; have HO8 := Lib.hid hown8; have HG8 := Lib.hid hg8; have HL8 := Lib.hid hL8
    clear hp8 hown8 hg8 hL8 hb8
    refine hK.out _ _ ?_ (fun hHeld => ?_)
    · (try dsimp only); all_goals trivial
    clear hK K
    try simp only [Act.put, List.setIfInBounds_toArray, List.set_cons_zero, List.set_cons_succ]
    refine wpAnyH_take (i := 13) (oi := ⟨some 35, _, _, _, _, _⟩) (v := ?_) rfl (by kernel_rfl) (by kernel_rfl) (by kernel_rfl) (fun _ _ _ h => h) (Or.inl ⟨by rfl, ?_⟩) (by assumption) ?_
    rotate_left
    · (intro w hSw; (try dsimp only at hSw); go_simp; try with_reducible rfl)
    try simp only [Act.put, List.setIfInBounds_toArray, List.set_cons_zero, List.set_cons_succ]
    refine wpAnyH_take (i := 14) (oi := ⟨some 36, _, _, _, _, _⟩) (v := ?_) rfl (by kernel_rfl) (by kernel_rfl) (by kernel_rfl) (fun _ _ _ h => h) (Or.inl ⟨by rfl, ?_⟩) (by assumption) ?_
    rotate_left
    · (intro w hSw; (try dsimp only at hSw); go_simp; try with_reducible rfl)
    try simp only [Act.put, List.setIfInBounds_toArray, List.set_cons_zero, List.set_cons_succ]
    refine wpAnyH_ready (rs := [15]) (by kernel_rfl) (by simp) ?_
    refine AllReadyH.cons (o := ⟨none, _, _, _, _, _⟩) rfl (fun K hK => ?_) AllReadyH.nil
    go_simp
    refine hK.out _ _ ?_ (fun hHeld => ?_)
    · (try dsimp only); all_goals trivial
    clear hK K
    try simp only [Act.put, List.setIfInBounds_toArray, List.set_cons_zero, List.set_cons_succ]
    refine wpAnyH_done (by kernel_rfl) ?_ _
    go_wp2_with fail
    have hbt : ∀ g, (Value.slice L.Ab L.n L.cbt).ownBlock = some g → (Value.slice At S.told.length ct).ownBlock ≠ some g := fun g e1 e2 => type_ne2 HB1.out e1 HT1.out e2 (by decide)
    have hbp : (Value.slice L.Ab L.n L.cbt).ownBlock ≠ some L.p := fun e => type_ne HB1.out e HP1.out (by decide)
    have hkt : (Value.slice At S.told.length ct).ownBlock ≠ some L.km := fun e => map_ne HT1.out e HK1.out
    have hkp : L.km ≠ L.p := fun e => map_ne_row (by rw [e]; exact HP1.out) HK1.out
    have hpo : (Value.slice A8 (S.told.length + 1) c8).ownBlock ≠ some L.p := fun e => type_ne HO8.out e HP8.out (by decide)
    have T18 : MTurn L vt w1 w8 := (MTurn.q (⟨1, rfl⟩ : Qw w1 w1.drew)).trans (MTurn.grow (by rw [HVT.out]; exact HG8.out)) (.inl rfl)
    have T09 := ((HT1'.out).trans T18 (.inl rfl)).andSet 8 (.slice A8 (S.told.length + 1) c8)
    have hm9 : MAt (w8.setCell ⟨L.p, 8, none⟩ (.slice A8 (S.told.length + 1) c8)) L (.slice A8 (S.told.length + 1) c8) { S with told := S.told ++ [(S.next, a)] } := {
      cells := by
        have := blk_setR HP8.out (o := 8) (.slice A8 (S.told.length + 1) c8)
        rw [this]; rfl
      told := by
        have h1 := ownsRow_setCell_other HO8.out (a := ⟨L.p, 8, none⟩) hpo (.slice A8 (S.told.length + 1) c8)
        show World.ownsRow _ _ _ _ _ (S.told ++ [(S.next, a)]).length (aCells (S.told ++ [(S.next, a)]))
        rw [List.length_append, aCells_snoc]
        exact h1
      bits := ownsRow_setCell_other (HB1.out.drew.kept HG8.out (by
        cases hob : (Value.slice L.Ab L.n L.cbt).ownBlock with
        | none => exact .inl rfl
        | some g => exact .inr (fun e => hbt g hob e.symm))) hbp _
      known := (HK1.out.keep ((HG8.out.block L.km HK1.out.lt (fun e => hkt e.symm)))).keep (Below.heap_setCell _ _ _ _ hkp)
      kmb := HM.out.kmb
      pb := HM.out.pb
      st := MSt.turn HM0.out T09 }
    have hwf : WFm L { S with told := S.told ++ [(S.next, a)] } := ⟨HWF.out.pass, HWF.out.block, HWF.out.flips, HWF.out.sr⟩
    refine (advance_any L _ _ _ hm9 hwf).mono ?_
    rintro e w10 ⟨rfl, hm10, hT10⟩
    have HM10 := Lib.hid hm10; have HT10 := Lib.hid hT10
    clear hm10 hT10 e8 f8 hm9
    go_wp2_with fail
    go_ret
    have hv8 : (Value.slice A8 (S.told.length + 1) c8).ownBlock = vt.ownBlock ∨ ∀ g, (Value.slice A8 (S.told.length + 1) c8).ownBlock = some g → w.heap.size ≤ g := by
      rw [HVT.out]
      rcases HL8.out with h | h
      · exact .inl h
      · refine .inr fun g e => ?_
        rw [h] at e
        have e2 := Option.some.inj e
        have : w1.drew.heap.size = w1.heap.size := rfl
        omega
    exact ⟨rfl, _, HM10.out, ((HT0.out.trans T09 (.inl rfl)).trans HT10.out hv8), hv8⟩
  refine AllReadyH.cons (o := ⟨some 30, _, _, _, _, _⟩) rfl (fun K hK => ?_) AllReadyH.nil
  go_simp
  refine hK.out _ _ ?_ (fun hHeld => ?_)
  · (try dsimp only); all_goals trivial
  clear hK K
  try simp only [Act.put, List.setIfInBounds_toArray, List.set_cons_zero, List.set_cons_succ]
  refine wpAnyH_take (i := 10) (oi := ⟨some 32, _, _, _, _, _⟩) (v := ?_) rfl (by kernel_rfl) (by kernel_rfl) (by kernel_rfl) (fun _ _ _ h => h) (Or.inl ⟨by rfl, ?_⟩) (by assumption) ?_
  rotate_left
  · (intro w hSw; (try dsimp only at hSw); go_simp; try with_reducible rfl)
  try simp only [Act.put, List.setIfInBounds_toArray, List.set_cons_zero, List.set_cons_succ]
  refine wpAnyH_ready (rs := [4, 11]) (by kernel_rfl) (by simp) ?_
  refine AllReadyH.cons (o := ⟨some 26, _, _, _, _, _⟩) rfl (fun K hK => ?_) ?_
  · skip
    go_simp
    refine hK.out _ _ ?_ (fun hHeld => ?_)
    · (try dsimp only); all_goals trivial
    clear hK K
    try simp only [Act.put, List.setIfInBounds_toArray, List.set_cons_zero, List.set_cons_succ]
    refine wpAnyH_ready (rs := [11]) (by kernel_rfl) (by simp) ?_
    refine AllReadyH.cons (o := ⟨some 33, _, _, _, _, _⟩) rfl (fun K hK => ?_) AllReadyH.nil
    go_simp
    refine hK.out _ _ ?_ (fun hHeld => ?_)
    · (try dsimp only); all_goals trivial
    clear hK K
    try simp only [Act.put, List.setIfInBounds_toArray, List.set_cons_zero, List.set_cons_succ]
    refine wpAnyH_ready (rs := [12]) (by kernel_rfl) (by simp) ?_
    refine AllReadyH.cons (o := ⟨some 34, _, _, _, _, _⟩) rfl (fun K hK => ?_) AllReadyH.nil
    refine step_pushL elB_answer (.tmp 26) (.tmp 33) (by rfl) (by rfl) L.base S.told.length _ (by rfl) HT1.out.drew (by rfl) (by rfl) (by intro u hu; simp at hu; rcases hu with rfl | rfl | rfl | rfl <;> rfl) (by omega) (by decide) hlb ?_
    intro v8 w8 hown8 hb8 hg8 hL8
    obtain ⟨A8, c8, rfl, hc8⟩ := own_form hown8
    have hpt : (Value.slice At S.told.length ct).ownBlock ≠ some L.p := fun e => type_ne HT1.out e HP1.out (by decide)
    have hp8 := (hg8.block L.p hlt1 (fun e => hpt e.symm)).trans HP1.out
    have e8 : w8.cell? ⟨L.p, 8, none⟩ = some (.slice At S.told.length ct) := by rw [cell_of_row _ _ _ _ _ _ hp8, ← HVT.out]; rfl
    have f8 : w8.frozen? ⟨L.p, 8, none⟩ = false := by simp [World.frozen?, hp8]
    have HP8 := Lib.hid hp8; have HO8 := Lib.hid hown8; have HG8 := Lib.hid hg8; have HL8 := Lib.hid hL8
    clear hp8 hown8 hg8 hL8 hb8
    refine hK.out _ _ ?_ (fun hHeld => ?_)
    · (try dsimp only); all_goals trivial
    clear hK K
    try simp only [Act.put, List.setIfInBounds_toArray, List.set_cons_zero, List.set_cons_succ]
    refine wpAnyH_take (i := 13) (oi := ⟨some 35, _, _, _, _, _⟩) (v := ?_) rfl (by kernel_rfl) (by kernel_rfl) (by kernel_rfl) (fun _ _ _ h => h) (Or.inl ⟨by rfl, ?_⟩) (by assumption) ?_
    rotate_left
    · (intro w hSw; (try dsimp only at hSw); go_simp; try with_reducible rfl)
    try simp only [Act.put, List.setIfInBounds_toArray, List.set_cons_zero, List.set_cons_succ]
    refine wpAnyH_take (i := 14) (oi := ⟨some 36, _, _, _, _, _⟩) (v := ?_) rfl (by kernel_rfl) (by kernel_rfl) (by kernel_rfl) (fun _ _ _ h => h) (Or.inl ⟨by rfl, ?_⟩) (by assumption) ?_
    rotate_left
    · (intro w hSw; (try dsimp only at hSw); go_simp; try with_reducible rfl)
    try simp only [Act.put, List.setIfInBounds_toArray, List.set_cons_zero, List.set_cons_succ]
    refine wpAnyH_ready (rs := [15]) (by kernel_rfl) (by simp) ?_
    refine AllReadyH.cons (o := ⟨none, _, _, _, _, _⟩) rfl (fun K hK => ?_) AllReadyH.nil
    go_simp
    refine hK.out _ _ ?_ (fun hHeld => ?_)
    · (try dsimp only); all_goals trivial
    clear hK K
    try simp only [Act.put, List.setIfInBounds_toArray, List.set_cons_zero, List.set_cons_succ]
    refine wpAnyH_done (by kernel_rfl) ?_ _
    go_wp2_with fail
    have hbt : ∀ g, (Value.slice L.Ab L.n L.cbt).ownBlock = some g → (Value.slice At S.told.length ct).ownBlock ≠ some g := fun g e1 e2 => type_ne2 HB1.out e1 HT1.out e2 (by decide)
    have hbp : (Value.slice L.Ab L.n L.cbt).ownBlock ≠ some L.p := fun e => type_ne HB1.out e HP1.out (by decide)
    have hkt : (Value.slice At S.told.length ct).ownBlock ≠ some L.km := fun e => map_ne HT1.out e HK1.out
    have hkp : L.km ≠ L.p := fun e => map_ne_row (by rw [e]; exact HP1.out) HK1.out
    have hpo : (Value.slice A8 (S.told.length + 1) c8).ownBlock ≠ some L.p := fun e => type_ne HO8.out e HP8.out (by decide)
    have T18 : MTurn L vt w1 w8 := (MTurn.q (⟨1, rfl⟩ : Qw w1 w1.drew)).trans (MTurn.grow (by rw [HVT.out]; exact HG8.out)) (.inl rfl)
    have T09 := ((HT1'.out).trans T18 (.inl rfl)).andSet 8 (.slice A8 (S.told.length + 1) c8)
    have hm9 : MAt (w8.setCell ⟨L.p, 8, none⟩ (.slice A8 (S.told.length + 1) c8)) L (.slice A8 (S.told.length + 1) c8) { S with told := S.told ++ [(S.next, a)] } := {
      cells := by
        have := blk_setR HP8.out (o := 8) (.slice A8 (S.told.length + 1) c8)
        rw [this]; rfl
      told := by
        have h1 := ownsRow_setCell_other HO8.out (a := ⟨L.p, 8, none⟩) hpo (.slice A8 (S.told.length + 1) c8)
        show World.ownsRow _ _ _ _ _ (S.told ++ [(S.next, a)]).length (aCells (S.told ++ [(S.next, a)]))
        rw [List.length_append, aCells_snoc]
        exact h1
      bits := ownsRow_setCell_other (HB1.out.drew.kept HG8.out (by
        cases hob : (Value.slice L.Ab L.n L.cbt).ownBlock with
        | none => exact .inl rfl
        | some g => exact .inr (fun e => hbt g hob e.symm))) hbp _
      known := (HK1.out.keep ((HG8.out.block L.km HK1.out.lt (fun e => hkt e.symm)))).keep (Below.heap_setCell _ _ _ _ hkp)
      kmb := HM.out.kmb
      pb := HM.out.pb
      st := MSt.turn HM0.out T09 }
    have hwf : WFm L { S with told := S.told ++ [(S.next, a)] } := ⟨HWF.out.pass, HWF.out.block, HWF.out.flips, HWF.out.sr⟩
    refine (advance_any L _ _ _ hm9 hwf).mono ?_
    rintro e w10 ⟨rfl, hm10, hT10⟩
    have HM10 := Lib.hid hm10; have HT10 := Lib.hid hT10
    clear hm10 hT10 e8 f8 hm9
    go_wp2_with fail
    go_ret
    have hv8 : (Value.slice A8 (S.told.length + 1) c8).ownBlock = vt.ownBlock ∨ ∀ g, (Value.slice A8 (S.told.length + 1) c8).ownBlock = some g → w.heap.size ≤ g := by
      rw [HVT.out]
      rcases HL8.out with h | h
      · exact .inl h
      · refine .inr fun g e => ?_
        rw [h] at e
        have e2 := Option.some.inj e
        have : w1.drew.heap.size = w1.heap.size := rfl
        omega
    exact ⟨rfl, _, HM10.out, ((HT0.out.trans T09 (.inl rfl)).trans HT10.out hv8), hv8⟩
  refine AllReadyH.cons (o := ⟨some 33, _, _, _, _, _⟩) rfl (fun K hK => ?_) AllReadyH.nil
  go_simp
  refine hK.out _ _ ?_ (fun hHeld => ?_)
  · (try dsimp only); all_goals trivial
  clear hK K
  try simp only [Act.put, List.setIfInBounds_toArray, List.set_cons_zero, List.set_cons_succ]
  refine wpAnyH_ready (rs := [4]) (by kernel_rfl) (by simp) ?_
  refine AllReadyH.cons (o := ⟨some 26, _, _, _, _, _⟩) rfl (fun K hK => ?_) AllReadyH.nil
  go_simp
  refine hK.out _ _ ?_ (fun hHeld => ?_)
  · (try dsimp only); all_goals trivial
  clear hK K
  try simp only [Act.put, List.setIfInBounds_toArray, List.set_cons_zero, List.set_cons_succ]
  refine wpAnyH_ready (rs := [12]) (by kernel_rfl) (by simp) ?_
  refine AllReadyH.cons (o := ⟨some 34, _, _, _, _, _⟩) rfl (fun K hK => ?_) AllReadyH.nil
  refine step_pushL elB_answer (.tmp 26) (.tmp 33) (by rfl) (by rfl) L.base S.told.length _ (by rfl) HT1.out.drew (by rfl) (by rfl) (by intro u hu; simp at hu; rcases hu with rfl | rfl | rfl | rfl <;> rfl) (by omega) (by decide) hlb ?_
  intro v8 w8 hown8 hb8 hg8 hL8
  obtain ⟨A8, c8, rfl, hc8⟩ := own_form hown8
  have hpt : (Value.slice At S.told.length ct).ownBlock ≠ some L.p := fun e => type_ne HT1.out e HP1.out (by decide)
  have hp8 := (hg8.block L.p hlt1 (fun e => hpt e.symm)).trans HP1.out
  have e8 : w8.cell? ⟨L.p, 8, none⟩ = some (.slice At S.told.length ct) := by rw [cell_of_row _ _ _ _ _ _ hp8, ← HVT.out]; rfl
  have f8 : w8.frozen? ⟨L.p, 8, none⟩ = false := by simp [World.frozen?, hp8]
  have HP8 := Lib.hid hp8; have HO8 := Lib.hid hown8; have HG8 := Lib.hid hg8; have HL8 := Lib.hid hL8
  clear hp8 hown8 hg8 hL8 hb8
  refine hK.out _ _ ?_ (fun hHeld => ?_)
  · (try dsimp only); all_goals trivial
  clear hK K
  try simp only [Act.put, List.setIfInBounds_toArray, List.set_cons_zero, List.set_cons_succ]
  refine wpAnyH_take (i := 13) (oi := ⟨some 35, _, _, _, _, _⟩) (v := ?_) rfl (by kernel_rfl) (by kernel_rfl) (by kernel_rfl) (fun _ _ _ h => h) (Or.inl ⟨by rfl, ?_⟩) (by assumption) ?_
  rotate_left
  · (intro w hSw; (try dsimp only at hSw); go_simp; try with_reducible rfl)
  try simp only [Act.put, List.setIfInBounds_toArray, List.set_cons_zero, List.set_cons_succ]
  refine wpAnyH_take (i := 14) (oi := ⟨some 36, _, _, _, _, _⟩) (v := ?_) rfl (by kernel_rfl) (by kernel_rfl) (by kernel_rfl) (fun _ _ _ h => h) (Or.inl ⟨by rfl, ?_⟩) (by assumption) ?_
  rotate_left
  · (intro w hSw; (try dsimp only at hSw); go_simp; try with_reducible rfl)
  try simp only [Act.put, List.setIfInBounds_toArray, List.set_cons_zero, List.set_cons_succ]
  refine wpAnyH_ready (rs := [15]) (by kernel_rfl) (by simp) ?_
  refine AllReadyH.cons (o := ⟨none, _, _, _, _, _⟩) rfl (fun K hK => ?_) AllReadyH.nil
  go_simp
  refine hK.out _ _ ?_ (fun hHeld => ?_)
  · (try dsimp only); all_goals trivial
  clear hK K
  try simp only [Act.put, List.setIfInBounds_toArray, List.set_cons_zero, List.set_cons_succ]
  refine wpAnyH_done (by kernel_rfl) ?_ _
  go_wp2_with fail
  have hbt : ∀ g, (Value.slice L.Ab L.n L.cbt).ownBlock = some g → (Value.slice At S.told.length ct).ownBlock ≠ some g := fun g e1 e2 => type_ne2 HB1.out e1 HT1.out e2 (by decide)
  have hbp : (Value.slice L.Ab L.n L.cbt).ownBlock ≠ some L.p := fun e => type_ne HB1.out e HP1.out (by decide)
  have hkt : (Value.slice At S.told.length ct).ownBlock ≠ some L.km := fun e => map_ne HT1.out e HK1.out
  have hkp : L.km ≠ L.p := fun e => map_ne_row (by rw [e]; exact HP1.out) HK1.out
  have hpo : (Value.slice A8 (S.told.length + 1) c8).ownBlock ≠ some L.p := fun e => type_ne HO8.out e HP8.out (by decide)
  have T18 : MTurn L vt w1 w8 := (MTurn.q (⟨1, rfl⟩ : Qw w1 w1.drew)).trans (MTurn.grow (by rw [HVT.out]; exact HG8.out)) (.inl rfl)
  have T09 := ((HT1'.out).trans T18 (.inl rfl)).andSet 8 (.slice A8 (S.told.length + 1) c8)
  have hm9 : MAt (w8.setCell ⟨L.p, 8, none⟩ (.slice A8 (S.told.length + 1) c8)) L (.slice A8 (S.told.length + 1) c8) { S with told := S.told ++ [(S.next, a)] } := {
    cells := by
      have := blk_setR HP8.out (o := 8) (.slice A8 (S.told.length + 1) c8)
      rw [this]; rfl
    told := by
      have h1 := ownsRow_setCell_other HO8.out (a := ⟨L.p, 8, none⟩) hpo (.slice A8 (S.told.length + 1) c8)
      show World.ownsRow _ _ _ _ _ (S.told ++ [(S.next, a)]).length (aCells (S.told ++ [(S.next, a)]))
      rw [List.length_append, aCells_snoc]
      exact h1
    bits := ownsRow_setCell_other (HB1.out.drew.kept HG8.out (by
      cases hob : (Value.slice L.Ab L.n L.cbt).ownBlock with
      | none => exact .inl rfl
      | some g => exact .inr (fun e => hbt g hob e.symm))) hbp _
    known := (HK1.out.keep ((HG8.out.block L.km HK1.out.lt (fun e => hkt e.symm)))).keep (Below.heap_setCell _ _ _ _ hkp)
    kmb := HM.out.kmb
    pb := HM.out.pb
    st := MSt.turn HM0.out T09 }
  have hwf : WFm L { S with told := S.told ++ [(S.next, a)] } := ⟨HWF.out.pass, HWF.out.block, HWF.out.flips, HWF.out.sr⟩
  refine (advance_any L _ _ _ hm9 hwf).mono ?_
  rintro e w10 ⟨rfl, hm10, hT10⟩
  have HM10 := Lib.hid hm10; have HT10 := Lib.hid hT10
  clear hm10 hT10 e8 f8 hm9
  go_wp2_with fail
  go_ret
  have hv8 : (Value.slice A8 (S.told.length + 1) c8).ownBlock = vt.ownBlock ∨ ∀ g, (Value.slice A8 (S.told.length + 1) c8).ownBlock = some g → w.heap.size ≤ g := by
    rw [HVT.out]
    rcases HL8.out with h | h
    · exact .inl h
    · refine .inr fun g e => ?_
      rw [h] at e
      have e2 := Option.some.inj e
      have : w1.drew.heap.size = w1.heap.size := rfl
      omega
  exact ⟨rfl, _, HM10.out, ((HT0.out.trans T09 (.inl rfl)).trans HT10.out hv8), hv8⟩
end Go.Proofs.Ytncjmndiafgaaaa
/- The course of a cascade with answers, and what holds along it. Conditions: as each statement says. -/
namespace Go.Proofs.Ytncjmndiafgaaaa
open Go.RowKit
set_option linter.unusedVariables false
/-- A plan without its memory. -/
def pl (n P B s : Nat) : Lay := ⟨0, 0, 0, n, P, B, s, 0, 0, 0, 0, none, 0, [], []⟩
theorem stepS_pl (L : Lay) : stepS L = stepS (pl L.n L.P L.B L.s) := rfl
/-- What was told, and one answer more. -/
def tellS (S : Mst) (a : Bool) : Mst := { S with told := S.told ++ [(S.next, a)] }
/-- A step of the course with answers. -/
def stepO (L : Lay) (o : Mst → Option Bool) (x : Nat × Mst) : Nat × Mst :=
  if x.1 ≠ 0 then stepS L x.1 x.2 else
    if x.2.opn = true then
      match o x.2 with
      | some a => (advC (tellS x.2 a), advS0 (tellS x.2 a))
      | none => x
    else x
def itO (L : Lay) (o : Mst → Option Bool) : Nat → Nat × Mst → Nat × Mst
  | 0, x => x
  | k + 1, x => itO L o k (stepO L o x)
/-- The course leads from x to y. -/
def GoT (L : Lay) (o : Mst → Option Bool) (x y : Nat × Mst) : Prop := ∃ k, itO L o k x = y
/-- The course waits, or has ended. -/
def Fin (o : Mst → Option Bool) (x : Nat × Mst) : Prop := x.1 = 0 ∧ (x.2.opn = false ∨ o x.2 = none)
theorem itO_add (L : Lay) (o : Mst → Option Bool) (k m : Nat) (x : Nat × Mst) : itO L o (k + m) x = itO L o m (itO L o k x) := by
  induction k generalizing x with
  | zero => simp [itO]
  | succ k ih => rw [Nat.add_right_comm]; exact ih _
theorem Fin.stay {L : Lay} {o : Mst → Option Bool} {x : Nat × Mst} (h : Fin o x) (k : Nat) : itO L o k x = x := by
  induction k with
  | zero => rfl
  | succ k ih =>
    have : stepO L o x = x := by
      obtain ⟨h1, h2⟩ := h
      unfold stepO
      rw [if_neg (by simp [h1])]
      rcases h2 with h2 | h2
      · rw [if_neg (by simp [h2])]
      · split
        · simp [h2]
        · rfl
    rw [itO, this, ih]
theorem GoT.refl (L : Lay) (o : Mst → Option Bool) (x : Nat × Mst) : GoT L o x x := ⟨0, rfl⟩
theorem GoT.trans {L : Lay} {o : Mst → Option Bool} {x y z : Nat × Mst} (h : GoT L o x y) (k : GoT L o y z) : GoT L o x z := by
  obtain ⟨a, rfl⟩ := h
  obtain ⟨b, rfl⟩ := k
  exact ⟨a + b, itO_add L o a b x⟩
theorem GoT.one {L : Lay} {o : Mst → Option Bool} {x y : Nat × Mst} (h : stepO L o x = y) : GoT L o x y := ⟨1, h⟩
theorem GoT.same {L : Lay} {o : Mst → Option Bool} {x y z : Nat × Mst} (h : GoT L o x y) (k : GoT L o x z) (hy : Fin o y) (hz : Fin o z) : y = z := by
  obtain ⟨a, ha⟩ := h
  obtain ⟨b, hb⟩ := k
  have h1 : itO L o (a + b) x = y := by rw [itO_add, ha]; exact hy.stay b
  have h2 : itO L o (a + b) x = z := by rw [Nat.add_comm, itO_add, hb]; exact hz.stay a
  exact h1.symm.trans h2
theorem itO_pl (L : Lay) (o : Mst → Option Bool) (k : Nat) (x : Nat × Mst) : itO L o k x = itO (pl L.n L.P L.B L.s) o k x := by
  induction k generalizing x with
  | zero => rfl
  | succ k ih => exact ih _
theorem GoT.plain {L : Lay} {o : Mst → Option Bool} {x y : Nat × Mst} (h : GoT L o x y) : GoT (pl L.n L.P L.B L.s) o x y := by
  obtain ⟨k, h⟩ := h
  exact ⟨k, (itO_pl L o k x).symm.trans h⟩
theorem GoT.step {L : Lay} {o : Mst → Option Bool} {c : Nat} {S : Mst} (h : c ≠ 0) : GoT L o (c, S) (stepS L c S) := GoT.one (by unfold stepO; rw [if_pos h])
theorem GoT.tell {L : Lay} {o : Mst → Option Bool} {S : Mst} {a : Bool} (h : S.opn = true) (ho : o S = some a) : GoT L o (0, S) (advC (tellS S a), advS0 (tellS S a)) :=
  GoT.one (by unfold stepO; rw [if_neg (by simp), if_pos h]; simp [ho])
/-- Along the course an invariant stays. -/
theorem GoT.inv {L : Lay} {o : Mst → Option Bool} {I : Nat × Mst → Prop} (hI : ∀ x, I x → I (stepO L o x)) {x y : Nat × Mst} (h : GoT L o x y) (hx : I x) : I y := by
  obtain ⟨k, rfl⟩ := h
  induction k generalizing x with
  | zero => exact hx
  | succ k ih => exact ih (hI x hx)
/-- A question of the course. -/
def QOk (L : Lay) (q : Qn) : Prop := QIn L q ∧ q.f < q.t
theorem toldHas_mem {l : List (Qn × Bool)} {q : Qn} : toldHas l q = true ↔ q ∈ l.map (·.1) := by
  simp [toldHas, List.any_eq_true]
/-- What holds at each step of the course. -/
structure Inv (L : Lay) (c : Nat) (S : Mst) : Prop where
  c3 : c ≤ 3
  bl : S.b.length = L.n
  pass : S.pass ≤ L.P
  block : S.block ≤ 1000
  flips : S.flips ≤ L.n
  nd : (S.told.map (·.1)).Nodup
  rng : ∀ a ∈ S.told, QOk L a.1
  blk : ∀ q ∈ blocksTo L S.pass, toldHas S.told q = true
  blk2 : ∀ i, i < S.block → ∀ q, (cutL L.B L.n S.pass)[i]? = some q → toldHas S.told q = true
  s1 : c = 1 ∨ c = 2 → S.searching = false
  s3 : c = 3 → S.searching = true
  pas2 : c = 2 ∨ S.searching = true → S.pass < L.P ∧ ∀ q ∈ blocksTo L (S.pass + 1), toldHas S.told q = true
  odd : S.searching = true → S.flips < L.n ∧ QOk L S.odd
  wait : c = 0 → S.opn = true → toldHas S.told S.next = false ∧ S.failed = false ∧ ((S.searching = true ∧ S.odd.f + 1 < S.odd.t ∧ S.next = firstH S.odd) ∨ (S.searching = false ∧ S.pass < L.P ∧ (cutL L.B L.n S.pass)[S.block]? = some S.next))
  go : c ≠ 0 → S.opn = false ∧ S.next = ⟨0, 0, 0⟩ ∧ S.failed = false
  fin : c = 0 → S.opn = false → S.next = ⟨0, 0, 0⟩ ∧ ((S.failed = true ∧ S.flips = L.n ∧ (bestS L S).isSome ∧ ∀ q ∈ blocksTo L (S.pass + 1), toldHas S.told q = true) ∨ (S.failed = false ∧ S.pass = L.P))
/-- What holds where a step of the course begins after an answer. -/
theorem Inv.next {L : Lay} {S : Mst} (h : Inv L 0 S) (hB : 1 ≤ L.B) (ho : S.opn = true) : QOk L S.next := by
  rcases (h.wait rfl ho).2.2 with ⟨h1, h2, h3⟩ | ⟨h1, h2, h3⟩
  · obtain ⟨_, ⟨q1, q2, q3⟩, q4⟩ := h.odd h1
    rw [h3]
    exact ⟨⟨q1, by simp only [firstH]; omega, by simp only [firstH]; omega⟩, by simp only [firstH]; omega⟩
  · obtain ⟨h4, h5, h6⟩ := cutL_in hB h3
    exact ⟨⟨by omega, by omega, h6⟩, h5⟩
theorem toldHas_more {l : List (Qn × Bool)} {q x : Qn} {a : Bool} (h : toldHas l x = true) : toldHas (l ++ [(q, a)]) x = true := by rw [toldHas_snoc, h]; rfl
theorem Inv.told {L : Lay} {S : Mst} {a : Bool} (h : Inv L 0 S) (hB : 1 ≤ L.B) (ho : S.opn = true) : Inv L (advC (tellS S a)) (advS0 (tellS S a)) := by
  have hn := h.next hB ho
  obtain ⟨w1, w2, w3⟩ := h.wait rfl ho
  have hc : advC (tellS S a) = if S.searching then 3 else 1 := rfl
  refine ⟨by rw [hc]; split <;> omega, h.bl, h.pass, h.block, h.flips, ?_, ?_, fun q hq => toldHas_more (h.blk q hq), fun i hi q hq => toldHas_more (h.blk2 i hi q hq), ?_, ?_, ?_, h.odd, ?_, ?_, ?_⟩
  · show ((S.told ++ [(S.next, a)]).map (·.1)).Nodup
    rw [List.map_append, List.nodup_append]
    refine ⟨h.nd, by simp, ?_⟩
    intro x hx y hy e
    simp at hy
    subst hy; subst e
    have := toldHas_mem.2 hx
    rw [w1] at this; cases this
  · intro x hx
    simp [advS0, tellS] at hx
    rcases hx with hx | rfl
    · exact h.rng x hx
    · exact hn
  · rw [hc]; intro hx; split at hx
    · simp at hx
    · rename_i hs; show S.searching = false; simpa using hs
  · rw [hc]; intro hx; split at hx
    · rename_i hs; exact hs
    · simp at hx
  · intro hx
    have hs : S.searching = true := by
      rcases hx with hx | hx
      · rw [hc] at hx; split at hx <;> simp at hx
      · exact hx
    obtain ⟨p1, p2⟩ := h.pas2 (.inr hs)
    exact ⟨p1, fun q hq => toldHas_more (p2 q hq)⟩
  · rw [hc]; intro hx; split at hx <;> simp at hx
  · intro _; exact ⟨rfl, rfl, w2⟩
  · rw [hc]; intro hx; split at hx <;> simp at hx
theorem askJ_known {told : List (Qn × Bool)} {l : List Qn} {j : Nat} : ∀ i, j ≤ i → i < askJ told l j → ∀ q, l[i]? = some q → toldHas told q = true := by
  intro i h1 h2 q hq
  unfold askJ at h2
  have h3 : ((l.drop j).takeWhile fun q => toldHas told q)[i - j]? = some q := by
    have hp := List.takeWhile_prefix (fun q => toldHas told q) (l := l.drop j)
    obtain ⟨t, ht⟩ := hp
    have h4 : (l.drop j)[i - j]? = some q := by rw [List.getElem?_drop, show j + (i - j) = i by omega]; exact hq
    rw [← ht, List.getElem?_append_left (by omega)] at h4
    exact h4
  have := List.all_takeWhile (p := fun q => toldHas told q) (l := l.drop j)
  rw [List.all_eq_true] at this
  exact this q (List.mem_of_getElem? h3)
theorem askJ_next {told : List (Qn × Bool)} {l : List Qn} {j : Nat} {q : Qn} (h : l[askJ told l j]? = some q) : toldHas told q = false := by
  by_cases hk : toldHas told q = true
  · exfalso
    unfold askJ at h
    rw [← List.getElem?_drop] at h
    generalize l.drop j = r at h
    induction r with
    | nil => simp at h
    | cons x r ih =>
      rw [List.takeWhile_cons] at h
      split at h
      · simp at h; exact ih (by simpa using h)
      · rename_i hx
        simp at h; subst h; exact hx hk
  · simpa using hk
theorem Inv.step {L : Lay} {c : Nat} {S : Mst} (hB : 1 ≤ L.B) (hn : L.n ≤ 512) (h : Inv L c S) (hc : c ≠ 0) : Inv L (stepS L c S).1 (stepS L c S).2 := by
  obtain ⟨g1, g2, g3⟩ := h.go hc
  have h3 := h.c3
  unfold stepS
  split
  · rename_i hc1
    have hs := h.s1 (.inl hc1)
    have hcl := cutL_len (B := L.B) (n := L.n) (p := S.pass) hB
    have hj := askJ_le S.told (cutL L.B L.n S.pass) S.block h.block (by omega)
    have hk : ∀ i, i < askJ S.told (cutL L.B L.n S.pass) S.block → ∀ q, (cutL L.B L.n S.pass)[i]? = some q → toldHas S.told q = true := by
      intro i hi q hq
      rcases Nat.lt_or_ge i S.block with hlt | hge
      · exact h.blk2 i hlt q hq
      · exact askJ_known i hge hi q hq
    split
    · rename_i hp
      exact ⟨by omega, h.bl, h.pass, h.block, h.flips, h.nd, h.rng, h.blk, h.blk2, (fun _ => hs), (fun x => by cases x), (fun x => x.elim (fun e => by cases e) (fun e => absurd (hs.symm.trans e) (by decide))), h.odd, (fun _ x => by rw [g1] at x; cases x), (fun x => absurd rfl x), fun _ _ => ⟨g2, .inr ⟨g3, hp⟩⟩⟩
    · rename_i hp
      split
      · rename_i q hq
        exact ⟨by omega, h.bl, h.pass, hj, h.flips, h.nd, h.rng, h.blk, hk, (fun _ => hs), (fun x => by cases x), (fun x => x.elim (fun e => by cases e) (fun e => absurd (hs.symm.trans e) (by decide))), h.odd, (fun _ _ => ⟨askJ_next hq, g3, .inr ⟨hs, by have := h.pass; show S.pass < L.P; omega, hq⟩⟩), (fun x => absurd rfl x), fun _ x => by cases x⟩
      · rename_i hq
        refine ⟨by omega, h.bl, h.pass, hj, h.flips, h.nd, h.rng, h.blk, hk, (fun _ => hs), (fun x => by cases x), (fun _ => ⟨by have := h.pass; show S.pass < L.P; omega, ?_⟩), h.odd, (fun x => by cases x), (fun _ => ⟨g1, g2, g3⟩), fun x => by cases x⟩
        intro q hm
        show toldHas S.told q = true
        rw [blocksTo_succ, List.mem_append] at hm
        rcases hm with hm | hm
        · exact h.blk q hm
        · obtain ⟨i, hi, he⟩ := List.mem_iff_getElem.1 hm
          refine hk i ?_ q (by rw [List.getElem?_eq_getElem hi, he])
          rw [List.getElem?_eq_none_iff] at hq
          exact Nat.lt_of_lt_of_le hi hq
  · rename_i hc1
    split
    · rename_i hc2
      have hs := h.s1 (.inr hc2)
      obtain ⟨p1, p2⟩ := h.pas2 (.inl hc2)
      split
      · rename_i hb
        refine ⟨by omega, h.bl, by show S.pass + 1 ≤ L.P; omega, Nat.zero_le _, h.flips, h.nd, h.rng, p2, (fun i hi => absurd hi (Nat.not_lt_zero _)), (fun _ => hs), (fun x => by cases x), (fun x => x.elim (fun e => by cases e) (fun e => absurd (hs.symm.trans e) (by decide))), h.odd, (fun x => by cases x), (fun _ => ⟨g1, g2, g3⟩), fun x => by cases x⟩
      · rename_i q hb
        have hqi := bestOf_in (L := L) (S := S) (P := fun q => q.p < S.pass + 1 ∧ q.f < q.t ∧ q.t ≤ L.n) _ (fun q hq => blocksTo_in hB hq) q hb
        split
        · rename_i hf
          refine ⟨by omega, h.bl, h.pass, h.block, h.flips, h.nd, h.rng, h.blk, h.blk2, (fun x => by rcases x with x | x <;> cases x), (fun x => by cases x), (fun x => x.elim (fun e => by cases e) (fun e => absurd (hs.symm.trans e) (by decide))), h.odd, (fun _ x => by exact absurd (g1.symm.trans x) (by decide)), (fun x => absurd rfl x), fun _ _ => ⟨g2, .inl ⟨rfl, hf, ?_, p2⟩⟩⟩
          show (bestS L S).isSome = true
          rw [hb]; rfl
        · rename_i hf
          refine ⟨by omega, h.bl, h.pass, h.block, h.flips, h.nd, h.rng, h.blk, h.blk2, (fun x => by rcases x with x | x <;> cases x), (fun _ => rfl), (fun _ => ⟨p1, p2⟩), (fun _ => ⟨by have := h.flips; show S.flips < L.n; omega, ⟨⟨by show q.p < L.P; omega, by show q.f ≤ q.t; omega, hqi.2.2⟩, hqi.2.1⟩⟩), (fun x => by cases x), (fun _ => ⟨g1, g2, g3⟩), fun x => by cases x⟩
    · rename_i hc2
      have hc3 : c = 3 := by omega
      have hs := h.s3 hc3
      obtain ⟨p1, p2⟩ := h.pas2 (.inr hs)
      obtain ⟨o1, ⟨o2, o3, o4⟩, o5⟩ := h.odd hs
      rw [if_pos hc3]
      split
      · rename_i h1
        refine ⟨by omega, by show (flipL _ _).length = L.n; rw [flipL_len]; exact h.bl, h.pass, h.block, by show S.flips + 1 ≤ L.n; omega, h.nd, h.rng, h.blk, h.blk2, (fun _ => rfl), (fun x => by cases x), (fun _ => ⟨p1, p2⟩), (fun x => by cases x), (fun x => by cases x), (fun _ => ⟨g1, g2, g3⟩), fun x => by cases x⟩
      · rename_i h1
        split
        · rename_i hk
          have e : ∀ S', (S' = { S with odd := firstH S.odd, ans := toldAns S.told (firstH S.odd) } ∨ S' = { S with odd := ⟨S.odd.p, S.odd.f + (S.odd.t - S.odd.f) / 2, S.odd.t⟩, ans := S.ans != toldAns S.told (firstH S.odd) }) → Inv L 3 S' := by
            rintro S' (rfl | rfl)
            · refine ⟨by omega, h.bl, h.pass, h.block, h.flips, h.nd, h.rng, h.blk, h.blk2, (fun x => by rcases x with x | x <;> cases x), (fun _ => hs), (fun _ => ⟨p1, p2⟩), (fun _ => ⟨o1, ⟨⟨o2, by simp only [firstH]; omega, by simp only [firstH]; omega⟩, by simp only [firstH]; omega⟩⟩), (fun x => by cases x), (fun _ => ⟨g1, g2, g3⟩), fun x => by cases x⟩
            · refine ⟨by omega, h.bl, h.pass, h.block, h.flips, h.nd, h.rng, h.blk, h.blk2, (fun x => by rcases x with x | x <;> cases x), (fun _ => hs), (fun _ => ⟨p1, p2⟩), (fun _ => ⟨o1, ⟨⟨o2, by simp only; omega, o4⟩, by simp only; omega⟩⟩), (fun x => by cases x), (fun _ => ⟨g1, g2, g3⟩), fun x => by cases x⟩
          apply e
          unfold halve2
          split
          · exact .inl rfl
          · exact .inr rfl
        · rename_i hk
          exact ⟨by omega, h.bl, h.pass, h.block, h.flips, h.nd, h.rng, h.blk, h.blk2, (fun x => by rcases x with x | x <;> cases x), (fun x => by cases x), (fun _ => ⟨p1, p2⟩), h.odd, (fun _ _ => ⟨by simpa using hk, g3, .inl ⟨hs, (show S.odd.f + 1 < S.odd.t by omega), rfl⟩⟩), (fun x => absurd rfl x), fun _ x => by cases x⟩
theorem Inv.stepO {L : Lay} {o : Mst → Option Bool} (hB : 1 ≤ L.B) (hn : L.n ≤ 512) (x : Nat × Mst) (h : Inv L x.1 x.2) : Inv L (stepO L o x).1 (stepO L o x).2 := by
  obtain ⟨c, S⟩ := x
  unfold Go.Proofs.Ytncjmndiafgaaaa.stepO
  split
  · rename_i hc; exact h.step hB hn hc
  · rename_i hc
    have hc0 : c = 0 := by simpa using hc
    subst hc0
    split
    · rename_i ho
      split
      · exact h.told hB ho
      · exact h
    · exact h
theorem Inv.start {L : Lay} {b : List Bool} (h : b.length = L.n) : Inv L 1 ⟨b, [], 0, false, 0, 0, false, ⟨0, 0, 0⟩, false, ⟨0, 0, 0⟩, false⟩ :=
  ⟨by omega, h, Nat.zero_le _, Nat.zero_le _, Nat.zero_le _, .nil, (fun _ h => absurd h (List.not_mem_nil)), (fun q hq => by simp [blocksTo] at hq), (fun i hi => absurd hi (Nat.not_lt_zero _)), (fun _ => rfl), (fun x => by cases x), (fun x => by rcases x with x | x <;> cases x), (fun x => by cases x), (fun x => by cases x), (fun _ => ⟨rfl, rfl, rfl⟩), fun x => by cases x⟩
theorem Inv.wf {L : Lay} {c : Nat} {S : Mst} (h : Inv L c S) (hc : c ≠ 0) : WFc L c S :=
  ⟨h.c3, h.pass, (fun h2 => by
    have h3 := h.c3
    rcases (show c = 2 ∨ c = 3 by omega) with hx | hx
    · exact (h.pas2 (.inl hx)).1
    · exact (h.pas2 (.inr (h.s3 hx))).1), h.block, h.flips, (fun hx => (h.odd (h.s3 hx)).1), fun hx => (h.odd (h.s3 hx)).2⟩
theorem Inv.wfm {L : Lay} {S : Mst} (h : Inv L 0 S) : WFm L S :=
  ⟨h.pass, h.block, h.flips, fun hs => ⟨(h.pas2 (.inr hs)).1, (h.odd hs).1, (h.odd hs).2.1, (h.odd hs).2.2⟩⟩
/-- The course up to where it waits is part of the course with answers. -/
theorem runS_go {L : Lay} {o : Mst → Option Bool} (hB : 1 ≤ L.B) (hn : L.n ≤ 512) (f : Nat) : ∀ (c : Nat) (S : Mst), Inv L c S → muS L c S < f → GoT L o (c, S) (0, runS L f c S) ∧ Inv L 0 (runS L f c S) := by
  induction f with
  | zero => intro c S _ h; exact absurd h (Nat.not_lt_zero _)
  | succ f ih =>
    intro c S hi hf
    by_cases hc : c = 0
    · subst hc
      rw [show runS L (f + 1) 0 S = S from rfl]
      exact ⟨.refl _ _ _, hi⟩
    · have e : runS L (f + 1) c S = runS L f (stepS L c S).1 (stepS L c S).2 := if_neg hc
      have h2 := stepS_mu hB hn (hi.wf hc) hc
      rw [e]
      obtain ⟨h3, h4⟩ := ih _ _ (hi.step hB hn hc) (by omega)
      exact ⟨(GoT.step hc).trans h3, h4⟩
theorem advS_go {L : Lay} {o : Mst → Option Bool} {S : Mst} (hB : 1 ≤ L.B) (hn : L.n ≤ 512) (h : Inv L (advC S) (advS0 S)) : GoT L o (advC S, advS0 S) (0, advS L S) ∧ Inv L 0 (advS L S) := runS_go hB hn _ _ _ h (Nat.lt_succ_self _)
/-- A told machine. -/
theorem tell_go {L : Lay} {o : Mst → Option Bool} {S : Mst} {a : Bool} (hB : 1 ≤ L.B) (hn : L.n ≤ 512) (h : Inv L 0 S) (ho : S.opn = true) (hs : o S = some a) : GoT L o (0, S) (0, advS L (tellS S a)) ∧ Inv L 0 (advS L (tellS S a)) := by
  obtain ⟨h1, h2⟩ := advS_go (o := o) hB hn (h.told (a := a) hB ho)
  exact ⟨(GoT.tell ho hs).trans h1, h2⟩
/-- The step between two waits keeps what was told. -/
theorem stepS_told (L : Lay) (c : Nat) (S : Mst) : (stepS L c S).2.told = S.told := by
  unfold stepS
  split
  · split
    · rfl
    · split <;> rfl
  · split
    · split
      · rfl
      · split <;> rfl
    · split
      · split
        · rfl
        · split
          · unfold halve2; split <;> rfl
          · rfl
      · rfl
theorem runS_told (L : Lay) : ∀ (f c : Nat) (S : Mst), (runS L f c S).told = S.told
  | 0, _, _ => rfl
  | f + 1, c, S => by
    unfold runS
    split
    · rfl
    · rw [runS_told L f, stepS_told]
theorem advS_told (L : Lay) (S : Mst) : (advS L S).told = S.told := runS_told L _ _ _
/-- All questions of a plan. -/
def allQ (P n : Nat) : List Qn := (List.range P).flatMap fun p => (List.range n).flatMap fun t => (List.range (t + 1)).map fun f => ⟨p, f, t + 1⟩
theorem allQ_mem {P n : Nat} {q : Qn} (h : q.p < P) (h1 : q.f < q.t) (h2 : q.t ≤ n) : q ∈ allQ P n := by
  simp only [allQ, List.mem_flatMap, List.mem_range, List.mem_map]
  obtain ⟨p, f, t⟩ := q
  exact ⟨p, h, t - 1, by simp only at *; omega, f, by simp only at *; omega, by simp only at *; rw [show t - 1 + 1 = t by omega]⟩
theorem tri_len (p n : Nat) : ((List.range n).flatMap fun t => (List.range (t + 1)).map fun f => (⟨p, f, t + 1⟩ : Qn)).length * 2 = n * (n + 1) := by
  induction n with
  | zero => rfl
  | succ n ih =>
    rw [List.range_succ, List.flatMap_append, List.length_append, Nat.add_mul, ih]
    simp [Nat.mul_add, Nat.add_mul]; omega
theorem allQ_len (P n : Nat) : (allQ P n).length * 2 = P * (n * (n + 1)) := by
  induction P with
  | zero => simp [allQ]
  | succ P ih =>
    unfold allQ at *
    rw [List.range_succ, List.flatMap_append, List.length_append, Nat.add_mul, ih, Nat.add_mul, Nat.one_mul]
    simp only [List.flatMap_cons, List.flatMap_nil, List.append_nil]
    rw [tri_len]
theorem nodup_len {α : Type} [DecidableEq α] : ∀ {l m : List α}, l.Nodup → (∀ x ∈ l, x ∈ m) → l.length ≤ m.length
  | [], _, _, _ => Nat.zero_le _
  | x :: l, m, h, hs => by
    rw [List.nodup_cons] at h
    have hx := hs x (by simp)
    have := nodup_len (l := l) (m := m.erase x) h.2 fun y hy => (List.mem_erase_of_ne (by rintro rfl; exact h.1 hy)).2 (hs y (by simp [hy]))
    rw [List.length_erase_of_mem hx] at this
    have := List.length_pos_of_mem hx
    simp; omega
theorem Inv.len {L : Lay} {c : Nat} {S : Mst} (hP : L.P ≤ 6) (hn : L.n ≤ 512) (h : Inv L c S) : S.told.length ≤ 787968 := by
  have h1 := nodup_len (m := allQ L.P L.n) h.nd fun q hq => by
    obtain ⟨a, ha, rfl⟩ := List.mem_map.1 hq
    obtain ⟨⟨q1, q2, q3⟩, q4⟩ := h.rng a ha
    exact allQ_mem q1 q4 q3
  rw [List.length_map] at h1
  have h2 := allQ_len L.P L.n
  have h3 : L.n * (L.n + 1) ≤ 512 * 513 := Nat.mul_le_mul hn (by omega)
  have h4 : L.P * (L.n * (L.n + 1)) ≤ 6 * (512 * 513) := Nat.mul_le_mul hP h3
  omega
end Go.Proofs.Ytncjmndiafgaaaa
/- The course of a cascade that a true string answers. Conditions: as each statement says. -/
namespace Go.Proofs.Ytncjmndiafgaaaa
open Go.RowKit
set_option linter.unusedVariables false
/-- The true string answers. -/
def oT (L : Lay) (y : List Bool) (S : Mst) : Option Bool := some (parL y (placesL L.s L.n S.next))
/-- At how many places two strings differ. -/
def distL : List Bool → List Bool → Nat
  | a :: l, b :: m => (if a != b then 1 else 0) + distL l m
  | _, _ => 0
theorem distL_le : ∀ (a b : List Bool), distL a b ≤ a.length
  | [], _ => by simp [distL]
  | _ :: _, [] => by simp [distL]
  | x :: a, y :: b => by
    have := distL_le a b
    simp only [distL, List.length_cons]
    split <;> omega
theorem distL_pos : ∀ {a b : List Bool} {i : Nat}, i < a.length → a.length = b.length → a.getD i false ≠ b.getD i false → 0 < distL a b
  | [], _, _, h, _, _ => by simp at h
  | _ :: _, [], _, _, h, _ => by simp at h
  | x :: a, y :: b, 0, _, _, h => by
    simp only [List.getD_cons_zero] at h
    simp [distL, h]
    exact Nat.add_pos_left (by omega) _
  | x :: a, y :: b, i + 1, h1, h2, h => by
    have := distL_pos (a := a) (b := b) (i := i) (by simpa using h1) (by simpa using h2) (by simpa using h)
    simp only [distL]; omega
theorem distL_flip : ∀ {a b : List Bool} {i : Nat}, i < a.length → a.length = b.length → a.getD i false ≠ b.getD i false → distL (flipL a i) b + 1 = distL a b
  | [], _, _, h, _, _ => by simp at h
  | _ :: _, [], _, _, h, _ => by simp at h
  | x :: a, y :: b, 0, _, _, h => by
    simp only [List.getD_cons_zero] at h
    simp only [flipL, List.getD_cons_zero, List.set_cons_zero, distL]
    cases x <;> cases y <;> simp at h ⊢ <;> omega
  | x :: a, y :: b, i + 1, h1, h2, h => by
    have := distL_flip (a := a) (b := b) (i := i) (by simpa using h1) (by simpa using h2) (by simpa using h)
    simp only [flipL, List.getD_cons_succ, List.set_cons_succ, distL] at *
    omega
theorem distL_zero : ∀ {a b : List Bool}, a.length = b.length → (∀ i, i < a.length → a.getD i false = b.getD i false) → a = b
  | [], [], _, _ => rfl
  | x :: a, y :: b, h, hi => by
    have h0 := hi 0 (by simp)
    simp only [List.getD_cons_zero] at h0
    rw [h0, distL_zero (a := a) (b := b) (by simpa using h) fun i hl => by simpa using hi (i + 1) (by simpa using hl)]
theorem flipL_get {b : List Bool} {i j : Nat} (h : i < b.length) : (flipL b i).getD j false = if i = j then !(b.getD i false) else b.getD j false := by
  unfold flipL
  simp only [List.getD_eq_getElem?_getD, List.getElem?_set]
  split
  · rename_i e; subst e; simp [h]
  · rfl
theorem bne_swap (a b c : Bool) : ((a != b) != c) = (a != (b != c)) := by cases a <;> cases b <;> cases c <;> rfl
theorem parL_from (b : List Bool) (l : List Int) (o : Bool) : l.foldl (fun o i => o != b.getD i.toNat false) o = (o != parL b l) := by
  unfold parL
  induction l generalizing o with
  | nil => simp
  | cons x l ih => simp only [List.foldl_cons]; rw [ih, ih (false != _), ← bne_swap]; simp
theorem parL_append (b : List Bool) (l m : List Int) : parL b (l ++ m) = (parL b l != parL b m) := by
  show (l ++ m).foldl _ false = _
  rw [List.foldl_append, parL_from]; rfl
theorem parL_one (b : List Bool) (x : Int) : parL b [x] = b.getD x.toNat false := by simp [parL]
theorem parL_ne {b y : List Bool} : ∀ {l : List Int}, parL b l ≠ parL y l → ∃ x ∈ l, b.getD x.toNat false ≠ y.getD x.toNat false
  | [], h => absurd rfl h
  | x :: l, h => by
    by_cases hx : b.getD x.toNat false = y.getD x.toNat false
    · have e : ∀ z : List Bool, parL z (x :: l) = (z.getD x.toNat false != parL z l) := fun z => by rw [show x :: l = [x] ++ l from rfl, parL_append, parL_one]
      rw [e, e, hx] at h
      obtain ⟨z, hz, hn⟩ := parL_ne (b := b) (y := y) (l := l) fun e2 => h (by rw [e2])
      exact ⟨z, by simp [hz], hn⟩
    · exact ⟨x, by simp, hx⟩
theorem places_split {s n : Nat} {p f m t : Nat} (h1 : f ≤ m) (h2 : m ≤ t) : placesL s n ⟨p, f, t⟩ = placesL s n ⟨p, f, m⟩ ++ placesL s n ⟨p, m, t⟩ := by
  unfold placesL
  simp only
  rw [show t - f = (m - f) + (t - m) by omega, List.take_add, List.drop_drop, show f + (m - f) = m by omega]
theorem toldAns_in {l : List (Qn × Bool)} {q : Qn} (h : toldHas l q = true) : (q, toldAns l q) ∈ l := by
  unfold toldHas at h
  unfold toldAns
  cases hf : l.find? (fun a => decide (a.1 = q)) with
  | none =>
    rw [List.find?_eq_none] at hf
    obtain ⟨a, ha, he⟩ := List.any_eq_true.1 h
    exact absurd he (hf a ha)
  | some a =>
    have h1 := List.mem_of_find?_eq_some hf
    have h2 := List.find?_some hf
    simp at h2
    subst h2
    simpa using h1
theorem bestOf_none {L : Lay} {S : Mst} : ∀ {qs : List Qn} {o : Option Qn}, qs.foldl (bestStep L S) o = none → o = none ∧ ∀ q ∈ qs, oddB L S.b q (toldAns S.told q) = false
  | [], o, h => ⟨h, fun _ h => absurd h List.not_mem_nil⟩
  | q :: qs, o, h => by
    rw [List.foldl_cons] at h
    obtain ⟨h1, h2⟩ := bestOf_none h
    unfold bestStep at h1
    split at h1
    · rename_i ho
      refine ⟨h1, fun x hx => ?_⟩
      rcases List.mem_cons.1 hx with rfl | hx
      · exact ho
      · exact h2 x hx
    · exfalso; split at h1
      · cases h1
      · split at h1 <;> cases h1
theorem bestOf_odd {L : Lay} {S : Mst} (P : Qn → Prop) : ∀ {qs : List Qn} {o : Option Qn} {b : Qn}, (∀ b, o = some b → P b) → (∀ q ∈ qs, oddB L S.b q (toldAns S.told q) = true → P q) → qs.foldl (bestStep L S) o = some b → P b
  | [], o, b, h, _, e => h b e
  | q :: qs, o, b, h, hq, e => by
    rw [List.foldl_cons] at e
    refine bestOf_odd P (o := bestStep L S o q) ?_ (fun x hx => hq x (by simp [hx])) e
    intro c hc
    unfold bestStep at hc
    split at hc
    · exact h c hc
    · rename_i ho
      split at hc
      · injection hc with hc; subst hc; exact hq _ (by simp) (by simpa using ho)
      · split at hc
        · exact h c hc
        · injection hc with hc; subst hc; exact hq _ (by simp) (by simpa using ho)
/-- What holds along a course that a true string answers. -/
structure InvT (L : Lay) (x y : List Bool) (c : Nat) (S : Mst) : Prop where
  inv : Inv L c S
  ans : ∀ a ∈ S.told, a.2 = parL y (placesL L.s L.n a.1)
  mid : ∀ i, i < L.n → x.getD i false = y.getD i false → S.b.getD i false = y.getD i false
  cnt : S.flips + distL S.b y = distL x y
  odd : S.searching = true → S.ans = parL y (placesL L.s L.n S.odd) ∧ parL S.b (placesL L.s L.n S.odd) ≠ S.ans
  even : c = 1 ∨ (c = 0 ∧ S.searching = false ∧ S.failed = false) → ∀ q ∈ blocksTo L S.pass, parL S.b (placesL L.s L.n q) = parL y (placesL L.s L.n q)
theorem InvT.tans {L : Lay} {x y : List Bool} {c : Nat} {S : Mst} (h : InvT L x y c S) {q : Qn} (hq : toldHas S.told q = true) : toldAns S.told q = parL y (placesL L.s L.n q) := h.ans _ (toldAns_in hq)
theorem InvT.best {L : Lay} {x y : List Bool} {c : Nat} {S : Mst} {q : Qn} (hB : 1 ≤ L.B) (h : InvT L x y c S) (hp : ∀ q ∈ blocksTo L (S.pass + 1), toldHas S.told q = true) (hb : bestS L S = some q) :
    toldAns S.told q = parL y (placesL L.s L.n q) ∧ parL S.b (placesL L.s L.n q) ≠ toldAns S.told q := by
  refine bestOf_odd (L := L) (S := S) (fun q => toldAns S.told q = parL y (placesL L.s L.n q) ∧ parL S.b (placesL L.s L.n q) ≠ toldAns S.told q) (qs := blocksTo L (S.pass + 1)) (o := none) (fun b e => by cases e) ?_ hb
  intro q hq ho
  refine ⟨h.tans (hp q hq), ?_⟩
  unfold oddB at ho
  simpa using ho
theorem InvT.wrong {L : Lay} {x y : List Bool} {c : Nat} {S : Mst} {l : List Int} (hy : y.length = L.n) (h : InvT L x y c S) (hl : ∀ z ∈ l, 0 ≤ z ∧ z < L.n) (hne : parL S.b l ≠ parL y l) : 0 < distL S.b y := by
  obtain ⟨z, hz, hn⟩ := parL_ne hne
  obtain ⟨h1, h2⟩ := hl z hz
  exact distL_pos (i := z.toNat) (by rw [h.inv.bl]; omega) (by rw [h.inv.bl, hy]) hn
theorem one_place {s n : Nat} {q : Qn} (h1 : q.t = q.f + 1) (h2 : q.t ≤ n) : placesL s n q = [(orderL s n q.p).getD q.f 0] := by
  have hl := orderL_len s n q.p
  unfold placesL
  rw [h1, show q.f + 1 - q.f = 1 by omega, List.drop_eq_getElem_cons (by omega), List.take_succ_cons, List.take_zero]
  simp [List.getD_eq_getElem?_getD, List.getElem?_eq_getElem (show q.f < (orderL s n q.p).length by omega)]
set_option maxHeartbeats 800000 in
theorem InvT.step {L : Lay} {x y : List Bool} {c : Nat} {S : Mst} (hB : 1 ≤ L.B) (hn : L.n ≤ 512) (hx : x.length = L.n) (hy : y.length = L.n) (h : InvT L x y c S) (hc : c ≠ 0) : InvT L x y (stepS L c S).1 (stepS L c S).2 := by
  have hi := h.inv.step hB hn hc
  obtain ⟨g1, g2, g3⟩ := h.inv.go hc
  have h3 := h.inv.c3
  revert hi
  unfold stepS
  split
  · rename_i hc1
    have hs := h.inv.s1 (.inl hc1)
    split
    · rename_i hp; intro hi
      exact ⟨hi, h.ans, h.mid, h.cnt, h.odd, fun _ => h.even (.inl hc1)⟩
    · split
      · intro hi; exact ⟨hi, h.ans, h.mid, h.cnt, h.odd, fun _ => h.even (.inl hc1)⟩
      · intro hi; exact ⟨hi, h.ans, h.mid, h.cnt, h.odd, fun x => by rcases x with x | ⟨x, _⟩ <;> cases x⟩
  · rename_i hc1
    split
    · rename_i hc2
      have hs := h.inv.s1 (.inr hc2)
      obtain ⟨p1, p2⟩ := h.inv.pas2 (.inl hc2)
      split
      · rename_i hb; intro hi
        refine ⟨hi, h.ans, h.mid, h.cnt, h.odd, fun _ q hq => ?_⟩
        have h5 := (bestOf_none hb).2 q hq
        rw [h.tans (p2 q hq)] at h5
        unfold oddB at h5
        simpa using h5
      · rename_i q hb
        obtain ⟨b1, b2⟩ := h.best hB p2 hb
        have hqi := bestOf_in (L := L) (S := S) (P := fun q => q.p < S.pass + 1 ∧ q.f < q.t ∧ q.t ≤ L.n) _ (fun q hq => blocksTo_in hB hq) q hb
        split
        · rename_i hf; intro hi
          exact ⟨hi, h.ans, h.mid, h.cnt, (fun x => absurd (hs.symm.trans x) (by decide)), fun x => by rcases x with x | ⟨_, _, x⟩ <;> cases x⟩
        · intro hi
          exact ⟨hi, h.ans, h.mid, h.cnt, (fun _ => ⟨b1, b2⟩), fun x => by rcases x with x | ⟨x, _⟩ <;> cases x⟩
    · rename_i hc2
      have hc3 : c = 3 := by omega
      have hs := h.inv.s3 hc3
      obtain ⟨p1, p2⟩ := h.inv.pas2 (.inr hs)
      obtain ⟨o1, ⟨o2, o3, o4⟩, o5⟩ := h.inv.odd hs
      obtain ⟨a1, a2⟩ := h.odd hs
      rw [if_pos hc3]
      split
      · rename_i h1; intro hi
        have hp1 := one_place (s := L.s) h1 o4
        rw [a1, hp1, parL_one, parL_one] at a2
        have hr : (orderL L.s L.n S.odd.p).getD S.odd.f 0 ∈ placesL L.s L.n S.odd := by rw [hp1]; simp
        have hrr := placesL_mem hr
        obtain ⟨z, hz⟩ : ∃ z, z = (orderL L.s L.n S.odd.p).getD S.odd.f 0 := ⟨_, rfl⟩
        rw [← hz] at a2 hrr
        have hzb : z.toNat < S.b.length := by rw [h.inv.bl]; omega
        refine ⟨hi, h.ans, ?_, ?_, (fun x => by cases x), fun x => by rcases x with x | ⟨x, _⟩ <;> cases x⟩
        · intro i hin hxy
          show (flipL S.b ((orderL L.s L.n S.odd.p).getD S.odd.f 0).toNat).getD i false = y.getD i false
          rw [← hz, flipL_get hzb]
          split
          · rename_i e; subst e; exact absurd (h.mid _ hin hxy) a2
          · exact h.mid i hin hxy
        · show S.flips + 1 + distL (flipL S.b ((orderL L.s L.n S.odd.p).getD S.odd.f 0).toNat) y = distL x y
          rw [← hz]
          have := distL_flip (b := y) hzb (by rw [h.inv.bl, hy]) a2
          have := h.cnt
          omega
      · rename_i h1
        split
        · rename_i hk; intro hi
          have ht := h.tans hk
          have hsp : placesL L.s L.n S.odd = placesL L.s L.n (firstH S.odd) ++ placesL L.s L.n ⟨S.odd.p, S.odd.f + (S.odd.t - S.odd.f) / 2, S.odd.t⟩ := by
            have := places_split (s := L.s) (n := L.n) (p := S.odd.p) (f := S.odd.f) (m := S.odd.f + (S.odd.t - S.odd.f) / 2) (t := S.odd.t) (by omega) (by omega)
            exact this
          have e : ∀ S', (S' = { S with odd := firstH S.odd, ans := toldAns S.told (firstH S.odd) } ∧ oddB L S.b (firstH S.odd) (toldAns S.told (firstH S.odd)) = true) ∨ (S' = { S with odd := ⟨S.odd.p, S.odd.f + (S.odd.t - S.odd.f) / 2, S.odd.t⟩, ans := S.ans != toldAns S.told (firstH S.odd) } ∧ ¬ oddB L S.b (firstH S.odd) (toldAns S.told (firstH S.odd)) = true) → Inv L 3 S' → InvT L x y 3 S' := by
            rintro S' (⟨rfl, hod⟩ | ⟨rfl, hod⟩) hi
            · refine ⟨hi, h.ans, h.mid, h.cnt, (fun _ => ⟨ht, ?_⟩), fun x => by rcases x with x | ⟨x, _⟩ <;> cases x⟩
              unfold oddB at hod; simpa using hod
            · refine ⟨hi, h.ans, h.mid, h.cnt, (fun _ => ?_), fun x => by rcases x with x | ⟨x, _⟩ <;> cases x⟩
              unfold oddB at hod
              show (S.ans != toldAns S.told (firstH S.odd)) = _ ∧ _ ≠ (S.ans != toldAns S.told (firstH S.odd))
              simp only [Bool.not_eq_true, bne_eq_false_iff_eq] at hod
              rw [ht] at hod ⊢
              rw [hsp, parL_append] at a1 a2
              rw [a1] at a2 ⊢
              rw [hod] at a2
              refine ⟨?_, ?_⟩
              · generalize parL y (placesL L.s L.n (firstH S.odd)) = u
                generalize parL y _ = v
                cases u <;> cases v <;> rfl
              · intro e; apply a2; dsimp only at e; rw [e]
                generalize parL y (placesL L.s L.n (firstH S.odd)) = u
                generalize parL y _ = v
                cases u <;> cases v <;> rfl
          refine e _ ?_ hi
          unfold halve2
          split
          · rename_i hod; exact .inl ⟨rfl, hod⟩
          · rename_i hod; exact .inr ⟨rfl, hod⟩
        · intro hi
          exact ⟨hi, h.ans, h.mid, h.cnt, h.odd, fun x => by
            rcases x with x | ⟨_, x, _⟩
            · cases x
            · exact absurd (hs.symm.trans x) (by decide)⟩
theorem InvT.told {L : Lay} {x y : List Bool} {S : Mst} (hB : 1 ≤ L.B) (h : InvT L x y 0 S) (ho : S.opn = true) : InvT L x y (advC (tellS S (parL y (placesL L.s L.n S.next)))) (advS0 (tellS S (parL y (placesL L.s L.n S.next)))) := by
  have hc : advC (tellS S (parL y (placesL L.s L.n S.next))) = if S.searching then 3 else 1 := rfl
  refine ⟨h.inv.told hB ho, ?_, h.mid, h.cnt, h.odd, ?_⟩
  · intro a ha
    simp [advS0, tellS] at ha
    rcases ha with ha | rfl
    · exact h.ans a ha
    · rfl
  · intro hx
    have hf := (h.inv.wait rfl ho).2.1
    have hs : S.searching = false := by
      rw [hc] at hx
      cases hs : S.searching
      · rfl
      · rw [hs] at hx; simp at hx
    exact h.even (.inr ⟨rfl, hs, hf⟩)
theorem InvT.stepO {L : Lay} {x y : List Bool} (hB : 1 ≤ L.B) (hn : L.n ≤ 512) (hx : x.length = L.n) (hy : y.length = L.n) (z : Nat × Mst) (h : InvT L x y z.1 z.2) : InvT L x y (stepO L (oT L y) z).1 (stepO L (oT L y) z).2 := by
  obtain ⟨c, S⟩ := z
  unfold Go.Proofs.Ytncjmndiafgaaaa.stepO
  split
  · rename_i hc; exact h.step hB hn hx hy hc
  · rename_i hc
    have hc0 : c = 0 := by simpa using hc
    subst hc0
    split
    · rename_i ho; exact h.told hB ho
    · exact h
theorem InvT.start {L : Lay} {x y : List Bool} (h : x.length = L.n) : InvT L x y 1 ⟨x, [], 0, false, 0, 0, false, ⟨0, 0, 0⟩, false, ⟨0, 0, 0⟩, false⟩ :=
  ⟨.start h, (fun _ h => absurd h List.not_mem_nil), (fun _ _ h => h), Nat.zero_add _, (fun x => by cases x), fun _ q hq => by simp [blocksTo] at hq⟩
/-- The end of a course that a true string answers. -/
theorem InvT.ended {L : Lay} {x y : List Bool} {S : Mst} (hB : 1 ≤ L.B) (hx : x.length = L.n) (hy : y.length = L.n) (h : InvT L x y 0 S) (ho : S.opn = false) :
    S.failed = false ∧ S.pass = L.P ∧ ∀ q ∈ blocksTo L L.P, parL S.b (placesL L.s L.n q) = parL y (placesL L.s L.n q) := by
  obtain ⟨_, hf⟩ := h.inv.fin rfl ho
  rcases hf with ⟨h1, h2, h3, hp⟩ | ⟨h1, h2⟩
  · exfalso
    have hd := distL_le x y
    have hc := h.cnt
    obtain ⟨q, hq⟩ := Option.isSome_iff_exists.1 h3
    obtain ⟨b1, b2⟩ := h.best hB hp hq
    rw [b1] at b2
    have := h.wrong hy (fun z hz => placesL_mem hz) b2
    omega
  · refine ⟨h1, h2, fun q hq => ?_⟩
    have hs : S.searching = false := by
      cases hs : S.searching
      · rfl
      · have := (h.inv.pas2 (.inr hs)).1
        omega
    exact h.even (.inr ⟨rfl, hs, h1⟩) q (by rw [h2]; exact hq)
end Go.Proofs.Ytncjmndiafgaaaa
