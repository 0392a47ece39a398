/- The contracts of at, times and Through of the reference. Conditions: as each statement says. -/
import Derived.Test.YthmooplhhkafcaaFaults
import Derived.Test.YthmooplhhkafcaaPush2
import Derived.Test.YthmooplhhkafcaaInterp
import Derived.Test.YthmooplhhkafcaaRefField
import Derived.Test.YthmooplhhkafcaaTail
import Derived.Test.YthmooplhhkafcaaThru2
import Derived.Test.YthmooplhhkafcaaSplitBad
namespace Go.Proofs.Ythmooplhhkafcaa
open Go.RowKit
set_option linter.unusedVariables false
/-- The call returns two slices that read as xs and ys. -/
def RetTwo (w : World) (n : Nat) (xs ys : List Value) (e : Ending) (w' : World) : Prop :=
  ∃ A1 c1 A2 c2, e = .returned (.tuple #[.slice A1 n c1, .slice A2 n c2]) ∧ n ≤ c1 ∧ n ≤ c2 ∧ Rd w' w'.heap.size 1 A1 n xs ∧ Rd w' w'.heap.size 1 A2 n ys ∧ Below w.heap.size w w'
/-- The document's product after k rounds. -/
def timesK (p : List Nat) (x k : Nat) : List Nat := (List.range (p.length + 1)).map fun i => (if i = 0 then 0 else if i ≤ k then p.getD (i - 1) 0 else 0) ^^^ (if i < k then gm 8 (p.getD i 0) x else 0)
theorem timesK_zero (p : List Nat) (x : Nat) : timesK p x 0 = List.replicate (p.length + 1) 0 := by
  apply List.ext_getElem
  · simp [timesK]
  · intro i h1 h2
    by_cases h : i = 0 <;> simp [timesK, h]
theorem timesK_len (p : List Nat) (x k : Nat) : (timesK p x k).length = p.length + 1 := by simp [timesK]
theorem timesK_get (p : List Nat) (x k i : Nat) (h : i < (timesK p x k).length) : (timesK p x k)[i] = (if i = 0 then 0 else if i ≤ k then p.getD (i - 1) 0 else 0) ^^^ (if i < k then gm 8 (p.getD i 0) x else 0) := by simp [timesK]
theorem timesK_succ (p : List Nat) (x k : Nat) (h : k < p.length) :
    timesK p x (k + 1) = ((timesK p x k).set (k + 1) ((timesK p x k)[k + 1]'(by rw [timesK_len]; omega) ^^^ p[k])).set k ((timesK p x k)[k]'(by rw [timesK_len]; omega) ^^^ gm 8 p[k] x) := by
  have hg : p.getD k 0 = p[k] := by simp [List.getD, List.getElem?_eq_getElem h]
  apply List.ext_getElem
  · simp [timesK_len]
  · intro i h1 h2
    rw [timesK_len] at h1
    rw [timesK_get, List.getElem_set, List.getElem_set]
    by_cases e1 : k = i
    · subst e1
      rw [if_pos rfl, timesK_get, hg]
      by_cases e0 : k = 0
      · subst e0; simp
      · rw [if_neg e0, if_neg e0, if_pos (by omega), if_pos (by omega), if_pos (by omega), if_neg (by omega), Nat.xor_zero]
    · rw [if_neg e1]
      by_cases e2 : k + 1 = i
      · subst e2
        rw [if_pos rfl, timesK_get, if_neg (by omega), if_pos (by omega), if_neg (by omega), if_neg (by omega), if_neg (by omega), if_neg (by omega), Nat.add_sub_cancel, hg]
        simp
      · rw [if_neg e2, timesK_get]
        by_cases e0 : i = 0
        · subst e0; rw [if_pos rfl, if_pos rfl]
          by_cases e3 : 0 < k
          · rw [if_pos (by omega), if_pos e3]
          · rw [if_neg (by omega), if_neg e3]
        · rw [if_neg e0, if_neg e0]
          by_cases e3 : i < k
          · rw [if_pos (by omega), if_pos (by omega), if_pos (by omega), if_pos e3]
          · rw [if_neg (by omega), if_neg (by omega), if_neg (by omega), if_neg e3]
theorem timesK_bytes {p : List Nat} (hp : Bytes p) (x k : Nat) : Bytes (timesK p x k) := fun y hy => by
  obtain ⟨i, hi, rfl⟩ := List.getElem_of_mem hy
  rw [timesK_get]
  have hd : ∀ j, p.getD j 0 < 256 := fun j => by
    rcases Nat.lt_or_ge j p.length with h | h
    · simp only [List.getD, List.getElem?_eq_getElem h, Option.getD_some]; exact hp _ (List.getElem_mem h)
    · simp [List.getD, List.getElem?_eq_none h]
  refine xor8_lt ?_ ?_
  · split
    · decide
    · split
      · exact hd _
      · decide
  · split
    · exact gm8_lt (hd _)
    · decide
theorem timesK_all (p : List Nat) (x : Nat) : timesK p x p.length = timesP p x := by
  apply List.ext_getElem
  · rw [timesK_len, timesP_len]
  · intro i h1 h2
    have hi : i < p.length + 1 := by rwa [timesK_len] at h1
    simp only [timesK, List.getElem_map, List.getElem_range, timesP, addP, List.getElem_zipWith]
    rcases Nat.eq_zero_or_pos i with rfl | h0
    · rcases Nat.eq_zero_or_pos p.length with hz | hz
      · obtain rfl := List.eq_nil_of_length_eq_zero hz; simp [mulP]
      · rw [if_pos rfl, if_pos hz, List.getElem_append_left (by simpa [mulP] using hz)]
        simp [mulP, List.getD, List.getElem?_eq_getElem hz]
    · obtain ⟨q, rfl⟩ : ∃ q, i = q + 1 := ⟨i - 1, by omega⟩
      have hq : q < p.length := by omega
      rw [if_neg (by omega), if_pos (by omega), Nat.add_sub_cancel]
      rcases Nat.lt_or_ge (q + 1) p.length with h | h
      · rw [if_pos h, List.getElem_append_left (by simpa [mulP] using h)]
        simp [mulP, List.getD, List.getElem?_eq_getElem hq, List.getElem?_eq_getElem h]
      · rw [if_neg (by omega), List.getElem_append_right (by simpa [mulP] using h)]
        simp [List.getD, List.getElem?_eq_getElem hq]
def atX (l : List ShareV) : List Nat := l.map ShareV.X
def atY (l : List ShareV) (j : Nat) : List Nat := l.map fun s => s.Y.getD j 0
set_option maxRecDepth 100000 in
set_option maxHeartbeats 1000000 in
theorem at_any (A : Option Addr) (n c j : Nat) (l : List ShareV) (w : World) (hn : n ≤ 1073741824) (hj : ∀ s ∈ l, j < s.n) (hj2 : j ≤ 1073741824) (h : ShR w w.heap.size A n l) :
    Calls Try.prog 62 #[.slice A n c, .int .i64 j] w (RetTwo w n (u8s (atX l)) (u8s (atY l j))) := by
  have H := Lib.hid h; have HJ := Lib.hid hj
  clear h hj
  go_enter Try.func62, Try.ntmps62
  go_wp2
  go_loopw [6, 7, 8] (fun vx vy v wr => ∃ (k : Nat), k ≤ n ∧ v = .int .i64 k ∧ wr.ownsRow w.heap.size 5 1 vx k (u8s ((atX l).take k)) ∧ wr.ownsRow w.heap.size 5 1 vy k (u8s ((atY l j).take k)) ∧ Apart vx vy ∧ Below w.heap.size w wr) (fun _ _ v _ => n - (intOf v).toNat)
  case atStart => exact ⟨0, Nat.zero_le _, rfl, by simpa [u8s] using World.ownsRow_nil _ _ _ _, by simpa [u8s] using World.ownsRow_nil _ _ _ _, Apart.none _, Below.refl _ _⟩
  case round =>
    obtain ⟨k, hk, rfl, hox, hoy, hap, hbw⟩ := hrel
    have hsz := hbw.size
    have HOX := Lib.hid hox; have HOY := Lib.hid hoy
    clear hox hoy
    by_cases hlt : k < n
    · have hlt' : (k : Int) < (n : Int) := by omega
      have hkl : k < l.length := by rw [H.out.1]; exact hlt
      obtain ⟨b, off, rfl, hb, hc⟩ := H.out.2.1.2 (by omega)
      have hokk := H.out.2.2 _ (List.getElem_mem hkl)
      have hjk := HJ.out _ (List.getElem_mem hkl)
      have c0 : wr.cell? ⟨b, off + k * 2, none⟩ = some (.int .u8 (l[k]).X) := (hbw.cell (p := ⟨b, off + k * 2, none⟩) hb).trans (hc _ _ (shCells_0 l k hkl))
      have c1 : wr.cell? ⟨b, off + k * 2 + 1, none⟩ = some (.slice (l[k]).A (l[k]).n (l[k]).c) := (hbw.cell (p := ⟨b, off + k * 2 + 1, none⟩) hb).trans (hc _ _ (shCells_1 l k hkl))
      have HTX : Hid (u8s ((atX l).take (k + 1)) = u8s ((atX l).take k) ++ [.int .u8 (l[k]).X]) := Lib.hid (by rw [take_snoc _ _ (by simpa [atX] using hkl), u8s, List.map_append]; simp [u8s, atX])
      have HTY : Hid (u8s ((atY l j).take (k + 1)) = u8s ((atY l j).take k) ++ [.int .u8 ((l[k]).Y.getD j 0 : Nat)]) := Lib.hid (by rw [take_snoc _ _ (by simpa [atY] using hkl), u8s, List.map_append]; simp [u8s, atY])
      clear hc
      generalize l[k] = s at c0 c1 HTX HTY hokk hjk
      obtain ⟨X, A1, n1, cp1, Y⟩ := s
      obtain ⟨hX, hYB, hnc, hn1, hyl, hrd⟩ := hokk
      dsimp only at c0 c1 hX hn1 hjk hyl hrd hnc hYB HTX HTY
      obtain ⟨b2, off2, rfl, hb2, hc2⟩ := hrd.2 (by omega)
      have hjl : j < Y.length := by omega
      have hgd : Y.getD j 0 = Y[j] := by simp [List.getD, List.getElem?_eq_getElem hjl]
      have c2 : wr.cell? ⟨b2, off2 + j, none⟩ = some (.int .u8 (Y.getD j 0 : Nat)) := by rw [hgd]; exact (hbw.cell (p := ⟨b2, off2 + j, none⟩) hb2).trans (hc2 j _ (by simp [u8s, hjl]))
      have hy256 : Y.getD j 0 < 256 := by rw [hgd]; exact hYB _ (List.getElem_mem hjl)
      clear hkl hrd hc2 hgd hjl hyl hYB hnc
      generalize Y.getD j 0 = y at c2 HTY hy256
      have hji : (j : Int) < (n1 : Int) := by omega
      go_wp2_with (first
        | (at_builtin; refine wpList_pushL elB_u8 (.tmp 15) (.tmp 21) rfl rfl w.heap.size k _ rfl HOX.out rfl rfl (one_cell1 rfl) (by omega) (by decide) (by omega) ?_; intro v1 w1 hown1 hb1 hg1 hL1; have d0 := (hb1.cell (p := ⟨b, off + k * 2, none⟩) hb).trans c0; have d1 := (hb1.cell (p := ⟨b, off + k * 2 + 1, none⟩) hb).trans c1; have d2 := (hb1.cell (p := ⟨b2, off2 + j, none⟩) hb2).trans c2; have s1 := hb1.size; have HOY1 := Lib.hid (ownsRow_grown HOY.out hg1 (fun kk h1 h2 => hap kk h2.symm h1)); have hap1 := hap.lies hL1 HOY.out (by omega); have HOX1 := Lib.hid hown1; clear c0 c1 c2 hap hg1 hL1 hown1)
        | (at_builtin; refine wpList_pushL elB_u8 (.tmp 23) (.tmp 32) rfl rfl w.heap.size k _ rfl HOY1.out rfl rfl (one_cell1 rfl) (by omega) (by decide) (by omega) ?_; intro v2 w2 hown2 hb2 hg2 hL2; have HOX2 := Lib.hid (ownsRow_grown HOX1.out hg2 (fun kk h1 h2 => hap1 kk h1 h2.symm)); have hap2 := hap1.symm.lies hL2 HOX1.out (by omega); clear d0 d1 d2))
      go_roundw
      case rel => exact ⟨k + 1, hlt, by go_num, by rw [HTX.out]; exact HOX2.out, by rw [HTY.out]; exact hown2, hap2.symm, hbw.trans (hb1.trans hb2)⟩
      case measure => simp [intOf]; omega
    · have hlt' : ¬ (k : Int) < (n : Int) := by omega
      obtain rfl : k = n := by omega
      have e1 : (atX l).take k = atX l := List.take_of_length_le (by simp [atX, H.out.1])
      have e2 : (atY l j).take k = atY l j := List.take_of_length_le (by simp [atY, H.out.1])
      rw [e1] at HOX; rw [e2] at HOY
      obtain ⟨A1, c1, rfl, hc1⟩ := own_form HOX.out
      obtain ⟨A2, c2, rfl, hc2⟩ := own_form HOY.out
      clear e1 e2
      go_wp2_with fail
      go_ret2
      exact ⟨A1, c1, A2, c2, rfl, hc1, hc2, Rd.own HOX.out, Rd.own HOY.out, hbw⟩
set_option maxRecDepth 100000 in
set_option maxHeartbeats 2000000 in
theorem times_ref (A : Option Addr) (n c x : Nat) (p : List Nat) (w : World) (hn : n ≤ 1000000) (hx : x < 256) (hb : Bytes p) (h : Rd w w.heap.size 1 A n (u8s p)) :
    Calls Try.prog 88 #[.slice A n c, .int .u8 x] w (RetOwn w 5 1 (n + 1) (u8s (timesP p x)) id) := by
  have H := Lib.hid h; have HB := Lib.hid hb
  have hl : p.length = n := by have := h.1; simpa [u8s] using this
  have HL := Lib.hid hl
  clear h hb hl
  have hmk2 : ∀ w : World, (Instr.makeSlice 28 (.int .i64 ((n : Int) + 1)) (.int .i64 ((n : Int) + 1))).run Try.prog w = .ok (.slice (some ⟨w.heap.size, 0, none⟩) (n + 1) (n + 1)) (w.alloc (.cells (Array.replicate (n + 1) (.int .u8 0)) 5)) := fun w => make_u8 w (n + 1) (by omega)
  go_enter Try.func88, Try.ntmps88
  go_wp2_with fail
  clear hmk2
  go_loopw [6] (fun v wr => ∃ (k : Nat), k ≤ n ∧ v = .int .i64 k ∧ wr.heap[w.heap.size]? = some (.cells (u8s (timesK p x k)).toArray 5 (0, 0)) ∧ Below w.heap.size w wr) (fun v _ => n - (intOf v).toNat)
  case atStart => exact ⟨0, Nat.zero_le _, rfl, by rw [timesK_zero, HL.out]; simpa [u8s] using heap_alloc_new w _, (Below.refl _ _).alloc (Nat.le_refl _) _⟩
  case round =>
    obtain ⟨k, hk, rfl, hblk, hbw⟩ := hrel
    have HBK := Lib.hid hblk
    clear hblk
    by_cases hlt : k < n
    · have hlt' : (k : Int) < (n : Int) := by omega
      have hkp : k < p.length := by rw [HL.out]; exact hlt
      have hk1 : k + 1 < (timesK p x k).length := by rw [timesK_len]; omega
      have hk0 : k < (timesK p x k).length := by omega
      obtain ⟨b, off, rfl, hb, hc⟩ := H.out.2 (by omega)
      have cp : wr.cell? ⟨b, off + k, none⟩ = some (.int .u8 (p[k] : Nat)) := (hbw.cell (p := ⟨b, off + k, none⟩) hb).trans (hc k _ (by simp [u8s, hkp]))
      have co1 : wr.cell? ⟨w.heap.size, k + 1, none⟩ = some (.int .u8 ((timesK p x k)[k + 1] : Nat)) := by rw [cell_of_row _ _ _ _ _ _ HBK.out]; simp [u8s, hk1]
      have co0 : wr.cell? ⟨w.heap.size, k, none⟩ = some (.int .u8 ((timesK p x k)[k] : Nat)) := by rw [cell_of_row _ _ _ _ _ _ HBK.out]; simp [u8s, hk0]
      have ff : ∀ o, wr.frozen? ⟨w.heap.size, o, none⟩ = false := fun o => by simp [World.frozen?, HBK.out]
      have HS := Lib.hid (timesK_succ p x k hkp)
      have htb := timesK_bytes HB.out x k
      have hpb := HB.out _ (List.getElem_mem hkp)
      have h1b := htb _ (List.getElem_mem hk1)
      have h0b := htb _ (List.getElem_mem hk0)
      clear hc htb
      generalize p[k] = y at cp HS hpb
      generalize (timesK p x k)[k + 1] = o1 at co1 HS h1b
      generalize (timesK p x k)[k] = o0 at co0 HS h0b
      have hki : (k : Int) + 1 < (n : Int) + 1 := by omega
      clear hkp hk1 hk0
      have hgy : gm 8 y x < 256 := gm8_lt hpb
      have hw0 : (0 : Int) ≤ (k : Int) + 1 := by omega
      have hwt : ((k : Int) + 1).toNat = k + 1 := by omega
      have hwk : IntKind.i64.wrap ((k : Int) + 1) = (k : Int) + 1 := i64_small (k + 1) (by omega)
      go_wp2_with fail
      refine wp_region_quiet_tail 14 (by kernel_rfl) (by kernel_rfl) ?_
      simp only [List.take_succ_cons, List.take_zero, List.drop_succ_cons, List.drop_zero]
      repeat (quiet_step (fail))
      refine wpQuiet_nil ?_
      intro _ hw'
      obtain ⟨nq, hw''⟩ := hw'
      subst hw''
      clear hwk hwt hw0
      go_wp2_with fail
      rw [u8_xor_nat _ _ (by omega) (by omega)]
      obtain ⟨w1, hw1⟩ : ∃ w1, w1 = (wr.drewN nq).setCell ⟨w.heap.size, k + 1, none⟩ (.int .u8 ((o1 ^^^ y : Nat) : Int)) := ⟨_, rfl⟩
      rw [← hw1]
      have hb1 : w1.heap[w.heap.size]? = some (.cells (u8s ((timesK p x k).set (k + 1) (o1 ^^^ y))).toArray 5 (0, 0)) := by rw [hw1]; exact row_set (w := wr.drewN nq) HBK.out (k + 1) _ _ rfl
      have hB1 : Below w.heap.size w w1 := by rw [hw1]; exact (hbw.trans ((Qw.drewN (Qw.refl wr) nq).below _)).setCell (Nat.le_refl _) _
      have cp1 : w1.cell? ⟨b, off + k, none⟩ = some (.int .u8 (y : Nat)) := by rw [hw1]; exact (World.cell?_setCell_other _ _ _ _ (by intro e; injection e; omega)).trans cp
      have co2 : w1.cell? ⟨w.heap.size, k, none⟩ = some (.int .u8 (o0 : Nat)) := by rw [hw1]; exact (World.cell?_setCell_other _ _ _ _ (by intro e; injection e; omega)).trans co0
      have ff1 : w1.frozen? ⟨w.heap.size, k, none⟩ = false := by simp [World.frozen?, hb1]
      have HB1 := Lib.hid hb1
      have hkn1 : (k : Int) < (n : Int) + 1 := by omega
      have hkn2 : k < n + 1 := by omega
      have hwy : IntKind.u64.wrap (y : Int) = (y : Int) := by rw [IntKind.wrap_u64]; omega
      have hwx : IntKind.u64.wrap (x : Int) = (x : Int) := by rw [IntKind.wrap_u64]; omega
      have hwg : IntKind.u8.wrap ((gm 8 y x : Nat) : Int) = ((gm 8 y x : Nat) : Int) := by rw [IntKind.wrap_u8]; omega
      clear hw1 hb1 cp co1 co0 ff
      go_wp2_with fail
      refine wp_region_quiet_tail 17 (by kernel_rfl) (by kernel_rfl) ?_
      simp only [List.take_succ_cons, List.take_zero, List.drop_succ_cons, List.drop_zero]
      repeat (quiet_step ((go_at_call 89; with_reducible exact quiet_e (refMul_nat 8 y x isW8 hpb hx _))))
      trace_state
      refine wpQuiet_nil ?_
      intro _ hw'
      obtain ⟨nr, hw''⟩ := hw'
      subst hw''
      go_wp2_with fail
      rw [u8_xor_nat _ _ (by omega) (by omega)]
      go_roundw
      case rel => exact ⟨k + 1, hlt, by go_num, by rw [HS.out]; exact row_set (w := w1.drewN nr) HB1.out k _ _ rfl, (hB1.trans ((Qw.drewN (Qw.refl w1) nr).below _)).setCell (Nat.le_refl _) _⟩
      case measure => simp [intOf]; omega
    · have hlt' : ¬ (k : Int) < (n : Int) := by omega
      obtain rfl : k = n := by omega
      have hr := HBK.out
      have e := timesK_all p x
      rw [HL.out] at e
      rw [e] at hr
      go_wp2_with fail
      go_ret
      exact RetOwn.of (mk := id) (own_of_row hr (by simp [u8s, timesP_len, HL.out]) (Nat.le_refl _) (by unfold maxLen; omega)) hbw
end Go.Proofs.Ythmooplhhkafcaa
