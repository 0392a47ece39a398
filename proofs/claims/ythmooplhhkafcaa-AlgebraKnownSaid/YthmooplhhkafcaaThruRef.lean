/- The contracts of at, times and Through of the reference. Conditions: as each statement says. -/
import Derived.Test.YthmooplhhkafcaaShareV
import Derived.Test.YthmooplhhkafcaaPush2
import Derived.Test.YthmooplhhkafcaaDrawMath
import Derived.Test.YthmooplhhkafcaaDraw
import Derived.Test.YthmooplhhkafcaaTail
import Derived.Test.YthmooplhhkafcaaThru
namespace Go.Proofs.Ythmooplhhkafcaa
open Go.RowKit
set_option linter.unusedVariables false
/-- The call returns two slices that read as xs and ys. -/
def RetTwo (w : World) (n : Nat) (xs ys : List Value) (e : Ending) (w' : World) : Prop :=
  ∃ A1 c1 A2 c2, e = .returned (.tuple #[.slice A1 n c1, .slice A2 n c2]) ∧ n ≤ c1 ∧ n ≤ c2 ∧ Rd w' w'.heap.size 1 A1 n xs ∧ Rd w' w'.heap.size 1 A2 n ys ∧ Below w.heap.size w w'
/-- The document's product after k rounds. -/
def timesK (p : List Nat) (x k : Nat) : List Nat := (List.range (p.length + 1)).map fun i => (if i = 0 then 0 else if i ≤ k then p.getD (i - 1) 0 else 0) ^^^ (if i < k then gm 8 (p.getD i 0) x else 0)
theorem timesK_zero (p : List Nat) (x : Nat) : timesK p x 0 = List.replicate (p.length + 1) 0 := by
  apply List.ext_getElem
  · simp [timesK]
  · intro i h1 h2
    by_cases h : i = 0 <;> simp [timesK, h]
theorem timesK_len (p : List Nat) (x k : Nat) : (timesK p x k).length = p.length + 1 := by simp [timesK]
theorem timesK_get (p : List Nat) (x k i : Nat) (h : i < (timesK p x k).length) : (timesK p x k)[i] = (if i = 0 then 0 else if i ≤ k then p.getD (i - 1) 0 else 0) ^^^ (if i < k then gm 8 (p.getD i 0) x else 0) := by simp [timesK]
theorem timesK_succ (p : List Nat) (x k : Nat) (h : k < p.length) :
    timesK p x (k + 1) = ((timesK p x k).set (k + 1) ((timesK p x k)[k + 1]'(by rw [timesK_len]; omega) ^^^ p[k])).set k ((timesK p x k)[k]'(by rw [timesK_len]; omega) ^^^ gm 8 p[k] x) := by
  have hg : p.getD k 0 = p[k] := by simp [List.getD, List.getElem?_eq_getElem h]
  apply List.ext_getElem
  · simp [timesK_len]
  · intro i h1 h2
    rw [timesK_len] at h1
    rw [timesK_get, List.getElem_set, List.getElem_set]
    by_cases e1 : k = i
    · subst e1
      rw [if_pos rfl, timesK_get, hg]
      by_cases e0 : k = 0
      · subst e0; simp
      · rw [if_neg e0, if_neg e0, if_pos (by omega), if_pos (by omega), if_pos (by omega), if_neg (by omega), Nat.xor_zero]
    · rw [if_neg e1]
      by_cases e2 : k + 1 = i
      · subst e2
        rw [if_pos rfl, timesK_get, if_neg (by omega), if_pos (by omega), if_neg (by omega), if_neg (by omega), if_neg (by omega), if_neg (by omega), Nat.add_sub_cancel, hg]
        simp
      · rw [if_neg e2, timesK_get]
        by_cases e0 : i = 0
        · subst e0; rw [if_pos rfl, if_pos rfl]
          by_cases e3 : 0 < k
          · rw [if_pos (by omega), if_pos e3]
          · rw [if_neg (by omega), if_neg e3]
        · rw [if_neg e0, if_neg e0]
          by_cases e3 : i < k
          · rw [if_pos (by omega), if_pos (by omega), if_pos (by omega), if_pos e3]
          · rw [if_neg (by omega), if_neg (by omega), if_neg (by omega), if_neg e3]
theorem timesK_bytes {p : List Nat} (hp : Bytes p) (x k : Nat) : Bytes (timesK p x k) := fun y hy => by
  obtain ⟨i, hi, rfl⟩ := List.getElem_of_mem hy
  rw [timesK_get]
  have hd : ∀ j, p.getD j 0 < 256 := fun j => by
    rcases Nat.lt_or_ge j p.length with h | h
    · simp only [List.getD, List.getElem?_eq_getElem h, Option.getD_some]; exact hp _ (List.getElem_mem h)
    · simp [List.getD, List.getElem?_eq_none h]
  refine xor8_lt ?_ ?_
  · split
    · decide
    · split
      · exact hd _
      · decide
  · split
    · exact gm8_lt (hd _)
    · decide
theorem timesK_all (p : List Nat) (x : Nat) : timesK p x p.length = timesP p x := by
  apply List.ext_getElem
  · rw [timesK_len, timesP_len]
  · intro i h1 h2
    have hi : i < p.length + 1 := by rwa [timesK_len] at h1
    simp only [timesK, List.getElem_map, List.getElem_range, timesP, addP, List.getElem_zipWith]
    rcases Nat.eq_zero_or_pos i with rfl | h0
    · rcases Nat.eq_zero_or_pos p.length with hz | hz
      · obtain rfl := List.eq_nil_of_length_eq_zero hz; simp [mulP]
      · rw [if_pos rfl, if_pos hz, List.getElem_append_left (by simpa [mulP] using hz)]
        simp [mulP, List.getD, List.getElem?_eq_getElem hz]
    · obtain ⟨q, rfl⟩ : ∃ q, i = q + 1 := ⟨i - 1, by omega⟩
      have hq : q < p.length := by omega
      rw [if_neg (by omega), if_pos (by omega), Nat.add_sub_cancel]
      rcases Nat.lt_or_ge (q + 1) p.length with h | h
      · rw [if_pos h, List.getElem_append_left (by simpa [mulP] using h)]
        simp [mulP, List.getD, List.getElem?_eq_getElem hq, List.getElem?_eq_getElem h]
      · rw [if_neg (by omega), List.getElem_append_right (by simpa [mulP] using h)]
        simp [List.getD, List.getElem?_eq_getElem hq]
def atX (l : List ShareV) : List Nat := l.map ShareV.X
def atY (l : List ShareV) (j : Nat) : List Nat := l.map fun s => s.Y.getD j 0
set_option maxRecDepth 100000 in
set_option maxHeartbeats 1000000 in
theorem at_any (A : Option Addr) (n c j : Nat) (l : List ShareV) (w : World) (hn : n ≤ 1073741824) (hj : ∀ s ∈ l, j < s.n) (hj2 : j ≤ 1073741824) (h : ShR w w.heap.size A n l) :
    Calls Try.prog 62 #[.slice A n c, .int .i64 j] w (RetTwo w n (u8s (atX l)) (u8s (atY l j))) := by
  have H := Lib.hid h; have HJ := Lib.hid hj
  clear h hj
  go_enter Try.func62, Try.ntmps62
  go_wp2
  go_loopw [6, 7, 8] (fun vx vy v wr => ∃ (k : Nat), k ≤ n ∧ v = .int .i64 k ∧ wr.ownsRow w.heap.size 5 1 vx k (u8s ((atX l).take k)) ∧ wr.ownsRow w.heap.size 5 1 vy k (u8s ((atY l j).take k)) ∧ Apart vx vy ∧ Below w.heap.size w wr) (fun _ _ v _ => n - (intOf v).toNat)
  case atStart => exact ⟨0, Nat.zero_le _, rfl, by simpa [u8s] using World.ownsRow_nil _ _ _ _, by simpa [u8s] using World.ownsRow_nil _ _ _ _, Apart.none _, Below.refl _ _⟩
  case round =>
    obtain ⟨k, hk, rfl, hox, hoy, hap, hbw⟩ := hrel
    have hsz := hbw.size
    have HOX := Lib.hid hox; have HOY := Lib.hid hoy
    clear hox hoy
    by_cases hlt : k < n
    · have hlt' : (k : Int) < (n : Int) := by omega
      have hkl : k < l.length := by rw [H.out.1]; exact hlt
      obtain ⟨b, off, rfl, hb, hc⟩ := H.out.2.1.2 (by omega)
      have hokk := H.out.2.2 _ (List.getElem_mem hkl)
      have hjk := HJ.out _ (List.getElem_mem hkl)
      have c0 : wr.cell? ⟨b, off + k * 2, none⟩ = some (.int .u8 (l[k]).X) := (hbw.cell (p := ⟨b, off + k * 2, none⟩) hb).trans (hc _ _ (shCells_0 l k hkl))
      have c1 : wr.cell? ⟨b, off + k * 2 + 1, none⟩ = some (.slice (l[k]).A (l[k]).n (l[k]).c) := (hbw.cell (p := ⟨b, off + k * 2 + 1, none⟩) hb).trans (hc _ _ (shCells_1 l k hkl))
      have HTX : Hid (u8s ((atX l).take (k + 1)) = u8s ((atX l).take k) ++ [.int .u8 (l[k]).X]) := Lib.hid (by rw [take_snoc _ _ (by simpa [atX] using hkl), u8s, List.map_append]; simp [u8s, atX])
      have HTY : Hid (u8s ((atY l j).take (k + 1)) = u8s ((atY l j).take k) ++ [.int .u8 ((l[k]).Y.getD j 0 : Nat)]) := Lib.hid (by rw [take_snoc _ _ (by simpa [atY] using hkl), u8s, List.map_append]; simp [u8s, atY])
      clear hc
      generalize l[k] = s at c0 c1 HTX HTY hokk hjk
      obtain ⟨X, A1, n1, cp1, Y⟩ := s
      obtain ⟨hX, hYB, hnc, hn1, hyl, hrd⟩ := hokk
      dsimp only at c0 c1 hX hn1 hjk hyl hrd hnc hYB HTX HTY
      obtain ⟨b2, off2, rfl, hb2, hc2⟩ := hrd.2 (by omega)
      have hjl : j < Y.length := by omega
      have hgd : Y.getD j 0 = Y[j] := by simp [List.getD, List.getElem?_eq_getElem hjl]
      have c2 : wr.cell? ⟨b2, off2 + j, none⟩ = some (.int .u8 (Y.getD j 0 : Nat)) := by rw [hgd]; exact (hbw.cell (p := ⟨b2, off2 + j, none⟩) hb2).trans (hc2 j _ (by simp [u8s, hjl]))
      have hy256 : Y.getD j 0 < 256 := by rw [hgd]; exact hYB _ (List.getElem_mem hjl)
      clear hkl hrd hc2 hgd hjl hyl hYB hnc
      generalize Y.getD j 0 = y at c2 HTY hy256
      have hji : (j : Int) < (n1 : Int) := by omega
      go_wp2_with (first
        | (at_builtin; refine wpList_pushL elB_u8 (.tmp 15) (.tmp 21) rfl rfl w.heap.size k _ rfl HOX.out rfl rfl (one_cell1 rfl) (by omega) (by decide) (by omega) ?_; intro v1 w1 hown1 hb1 hg1 hL1; have d0 := (hb1.cell (p := ⟨b, off + k * 2, none⟩) hb).trans c0; have d1 := (hb1.cell (p := ⟨b, off + k * 2 + 1, none⟩) hb).trans c1; have d2 := (hb1.cell (p := ⟨b2, off2 + j, none⟩) hb2).trans c2; have s1 := hb1.size; have HOY1 := Lib.hid (ownsRow_grown HOY.out hg1 (fun kk h1 h2 => hap kk h2.symm h1)); have hap1 := hap.lies hL1 HOY.out (by omega); have HOX1 := Lib.hid hown1; clear c0 c1 c2 hap hg1 hL1 hown1)
        | (at_builtin; refine wpList_pushL elB_u8 (.tmp 23) (.tmp 32) rfl rfl w.heap.size k _ rfl HOY1.out rfl rfl (one_cell1 rfl) (by omega) (by decide) (by omega) ?_; intro v2 w2 hown2 hb2 hg2 hL2; have HOX2 := Lib.hid (ownsRow_grown HOX1.out hg2 (fun kk h1 h2 => hap1 kk h1 h2.symm)); have hap2 := hap1.symm.lies hL2 HOX1.out (by omega); clear d0 d1 d2))
      go_roundw
      case rel => exact ⟨k + 1, hlt, by go_num, by rw [HTX.out]; exact HOX2.out, by rw [HTY.out]; exact hown2, hap2.symm, hbw.trans (hb1.trans hb2)⟩
      case measure => simp [intOf]; omega
    · have hlt' : ¬ (k : Int) < (n : Int) := by omega
      obtain rfl : k = n := by omega
      have e1 : (atX l).take k = atX l := List.take_of_length_le (by simp [atX, H.out.1])
      have e2 : (atY l j).take k = atY l j := List.take_of_length_le (by simp [atY, H.out.1])
      rw [e1] at HOX; rw [e2] at HOY
      obtain ⟨A1, c1, rfl, hc1⟩ := own_form HOX.out
      obtain ⟨A2, c2, rfl, hc2⟩ := own_form HOY.out
      clear e1 e2
      go_wp2_with fail
      go_ret2
      exact ⟨A1, c1, A2, c2, rfl, hc1, hc2, Rd.own HOX.out, Rd.own HOY.out, hbw⟩
set_option maxRecDepth 100000 in
set_option maxHeartbeats 2000000 in
theorem times_ref (A : Option Addr) (n c x : Nat) (p : List Nat) (w : World) (hn : n ≤ 1000000) (hx : x < 256) (hb : Bytes p) (h : Rd w w.heap.size 1 A n (u8s p)) :
    Calls Try.prog 88 #[.slice A n c, .int .u8 x] w (RetOwn w 5 1 (n + 1) (u8s (timesP p x)) id) := by
  have H := Lib.hid h; have HB := Lib.hid hb
  have hl : p.length = n := by have := h.1; simpa [u8s] using this
  have HL := Lib.hid hl
  clear h hb hl
  have hmk2 : ∀ w : World, (Instr.makeSlice 28 (.int .i64 ((n : Int) + 1)) (.int .i64 ((n : Int) + 1))).run Try.prog w = .ok (.slice (some ⟨w.heap.size, 0, none⟩) (n + 1) (n + 1)) (w.alloc (.cells (Array.replicate (n + 1) (.int .u8 0)) 5)) := fun w => make_u8 w (n + 1) (by omega)
  go_enter Try.func88, Try.ntmps88
  go_wp2_with fail
  clear hmk2
  go_loopw [6] (fun v wr => ∃ (k : Nat), k ≤ n ∧ v = .int .i64 k ∧ wr.heap[w.heap.size]? = some (.cells (u8s (timesK p x k)).toArray 5 (0, 0)) ∧ Below w.heap.size w wr) (fun v _ => n - (intOf v).toNat)
  case atStart => exact ⟨0, Nat.zero_le _, rfl, by rw [timesK_zero, HL.out]; simpa [u8s] using heap_alloc_new w _, (Below.refl _ _).alloc (Nat.le_refl _) _⟩
  case round =>
    obtain ⟨k, hk, rfl, hblk, hbw⟩ := hrel
    have HBK := Lib.hid hblk
    clear hblk
    by_cases hlt : k < n
    · have hlt' : (k : Int) < (n : Int) := by omega
      have hkp : k < p.length := by rw [HL.out]; exact hlt
      have hk1 : k + 1 < (timesK p x k).length := by rw [timesK_len]; omega
      have hk0 : k < (timesK p x k).length := by omega
      obtain ⟨b, off, rfl, hb, hc⟩ := H.out.2 (by omega)
      have cp : wr.cell? ⟨b, off + k, none⟩ = some (.int .u8 (p[k] : Nat)) := (hbw.cell (p := ⟨b, off + k, none⟩) hb).trans (hc k _ (by simp [u8s, hkp]))
      have co1 : wr.cell? ⟨w.heap.size, k + 1, none⟩ = some (.int .u8 ((timesK p x k)[k + 1] : Nat)) := by rw [cell_of_row _ _ _ _ _ _ HBK.out]; simp [u8s, hk1]
      have co0 : wr.cell? ⟨w.heap.size, k, none⟩ = some (.int .u8 ((timesK p x k)[k] : Nat)) := by rw [cell_of_row _ _ _ _ _ _ HBK.out]; simp [u8s, hk0]
      have ff : ∀ o, wr.frozen? ⟨w.heap.size, o, none⟩ = false := fun o => by simp [World.frozen?, HBK.out]
      have HS := Lib.hid (timesK_succ p x k hkp)
      have htb := timesK_bytes HB.out x k
      have hpb := HB.out _ (List.getElem_mem hkp)
      have h1b := htb _ (List.getElem_mem hk1)
      have h0b := htb _ (List.getElem_mem hk0)
      clear hc htb
      generalize p[k] = y at cp HS hpb
      generalize (timesK p x k)[k + 1] = o1 at co1 HS h1b
      generalize (timesK p x k)[k] = o0 at co0 HS h0b
      have hki : (k : Int) + 1 < (n : Int) + 1 := by omega
      clear hkp hk1 hk0
      have hgy : gm 8 y x < 256 := gm8_lt hpb
      have hw0 : (0 : Int) ≤ (k : Int) + 1 := by omega
      have hwt : ((k : Int) + 1).toNat = k + 1 := by omega
      have hwk : IntKind.i64.wrap ((k : Int) + 1) = (k : Int) + 1 := i64_small (k + 1) (by omega)
      go_wp2_with fail
      refine wp_region_quiet_tail 14 (by kernel_rfl) (by kernel_rfl) ?_
      simp only [List.take_succ_cons, List.take_zero, List.drop_succ_cons, List.drop_zero]
      repeat (quiet_step (fail))
      refine wpQuiet_nil ?_
      intro _ hw'
      obtain ⟨nq, hw''⟩ := hw'
      subst hw''
      clear hwk hwt hw0
      go_wp2_with fail
      rw [u8_xor_nat _ _ (by omega) (by omega)]
      obtain ⟨w1, hw1⟩ : ∃ w1, w1 = (wr.drewN nq).setCell ⟨w.heap.size, k + 1, none⟩ (.int .u8 ((o1 ^^^ y : Nat) : Int)) := ⟨_, rfl⟩
      rw [← hw1]
      have hb1 : w1.heap[w.heap.size]? = some (.cells (u8s ((timesK p x k).set (k + 1) (o1 ^^^ y))).toArray 5 (0, 0)) := by rw [hw1]; exact row_set (w := wr.drewN nq) HBK.out (k + 1) _ _ rfl
      have hB1 : Below w.heap.size w w1 := by rw [hw1]; exact (hbw.trans ((Qw.drewN (Qw.refl wr) nq).below _)).setCell (Nat.le_refl _) _
      have cp1 : w1.cell? ⟨b, off + k, none⟩ = some (.int .u8 (y : Nat)) := by rw [hw1]; exact (World.cell?_setCell_other _ _ _ _ (by intro e; injection e; omega)).trans cp
      have co2 : w1.cell? ⟨w.heap.size, k, none⟩ = some (.int .u8 (o0 : Nat)) := by rw [hw1]; exact (World.cell?_setCell_other _ _ _ _ (by intro e; injection e; omega)).trans co0
      have ff1 : w1.frozen? ⟨w.heap.size, k, none⟩ = false := by simp [World.frozen?, hb1]
      have HB1 := Lib.hid hb1
      have hkn1 : (k : Int) < (n : Int) + 1 := by omega
      have hkn2 : k < n + 1 := by omega
      have hwy : IntKind.u64.wrap (y : Int) = (y : Int) := by rw [IntKind.wrap_u64]; omega
      have hwx : IntKind.u64.wrap (x : Int) = (x : Int) := by rw [IntKind.wrap_u64]; omega
      have hwg : IntKind.u8.wrap ((gm 8 y x : Nat) : Int) = ((gm 8 y x : Nat) : Int) := by rw [IntKind.wrap_u8]; omega
      clear hw1 hb1 cp co1 co0 ff
      go_wp2_with fail
      refine wp_region_quiet_tail 17 (by kernel_rfl) (by kernel_rfl) ?_
      simp only [List.take_succ_cons, List.take_zero, List.drop_succ_cons, List.drop_zero]
      repeat (quiet_step ((go_at_call 89; with_reducible exact quiet_e (refMul_nat 8 y x isW8 hpb hx _))))
      trace_state
      refine wpQuiet_nil ?_
      intro _ hw'
      obtain ⟨nr, hw''⟩ := hw'
      subst hw''
      go_wp2_with fail
      rw [u8_xor_nat _ _ (by omega) (by omega)]
      go_roundw
      case rel => exact ⟨k + 1, hlt, by go_num, by rw [HS.out]; exact row_set (w := w1.drewN nr) HB1.out k _ _ rfl, (hB1.trans ((Qw.drewN (Qw.refl w1) nr).below _)).setCell (Nat.le_refl _) _⟩
      case measure => simp [intOf]; omega
    · have hlt' : ¬ (k : Int) < (n : Int) := by omega
      obtain rfl : k = n := by omega
      have hr := HBK.out
      have e := timesK_all p x
      rw [HL.out] at e
      rw [e] at hr
      go_wp2_with fail
      go_ret
      exact RetOwn.of (mk := id) (own_of_row hr (by simp [u8s, timesP_len, HL.out]) (Nat.le_refl _) (by unfold maxLen; omega)) hbw
end Go.Proofs.Ythmooplhhkafcaa
/- The contract of Through of the reference. Conditions: as the statement says. -/
namespace Go.Proofs.Ythmooplhhkafcaa
open Go.RowKit
set_option linter.unusedVariables false
/-- The places but one among the first k. -/
def oth (ps : List (Nat × Nat)) (i k : Nat) : List Nat := ((ps.take k).eraseIdx i).map (·.1)
theorem oth_skip (ps : List (Nat × Nat)) (i : Nat) (h : i < ps.length) : oth ps i (i + 1) = oth ps i i := by
  unfold oth
  rw [take_snoc _ _ h, List.eraseIdx_append_of_length_le (by simp; omega), List.eraseIdx_of_length_le (l := ps.take i) (by simp; omega)]
  simp [Nat.min_eq_left (Nat.le_of_lt h)]
theorem oth_snoc (ps : List (Nat × Nat)) (i k : Nat) (h : k < ps.length) (hne : k ≠ i) : oth ps i (k + 1) = oth ps i k ++ [(ps[k]).1] := by
  unfold oth
  rw [take_snoc _ _ h]
  rcases Nat.lt_or_ge i k with h1 | h1
  · rw [List.eraseIdx_append_of_lt_length (by simp; omega), List.map_append]; rfl
  · rw [List.eraseIdx_of_length_le (l := ps.take k ++ [ps[k]]) (by simp; omega), List.eraseIdx_of_length_le (l := ps.take k) (by simp; omega), List.map_append]; rfl
theorem oth_all (ps : List (Nat × Nat)) (i : Nat) : oth ps i ps.length = others ps i := by unfold oth others; rw [List.take_length]
theorem oth_len (ps : List (Nat × Nat)) (i k : Nat) (hk : k ≤ ps.length) : (oth ps i k).length ≤ k := by
  unfold oth; rw [List.length_map]
  exact Nat.le_trans (List.length_eraseIdx_le _ _) (by simp; omega)
theorem oth_bytes {ps : List (Nat × Nat)} (hb : PtB ps) (i k : Nat) : Bytes (oth ps i k) := fun y hy => by
  obtain ⟨p, hp, rfl⟩ := List.mem_map.1 hy
  exact (hb p (List.mem_of_mem_take (List.mem_of_mem_eraseIdx hp))).1
/-- The sum, written to the first k places. -/
def mixK (o a : List Nat) (k : Nat) : List Nat := (addP o a).take k ++ o.drop k
theorem mixK_len (o a : List Nat) (k : Nat) (h : o.length = a.length) (hk : k ≤ o.length) : (mixK o a k).length = o.length := by simp [mixK, addP_len _ _ h]; omega
theorem mixK_get (o a : List Nat) (k : Nat) (h : o.length = a.length) (hk : k < o.length) : (mixK o a k)[k]? = some o[k] := by
  unfold mixK
  rw [List.getElem?_append_right (by simp [addP_len _ _ h]; omega)]
  simp [addP_len _ _ h, Nat.min_eq_left (Nat.le_of_lt hk), hk]
theorem mixK_set (o a : List Nat) (k : Nat) (h : o.length = a.length) (hk : k < o.length) : (mixK o a k).set k (o[k] ^^^ a[k]'(by omega)) = mixK o a (k + 1) := by
  unfold mixK
  rw [List.set_append_right _ _ (by simp [addP_len _ _ h]; omega)]
  have e : (addP o a).take (k + 1) = (addP o a).take k ++ [o[k] ^^^ a[k]'(by omega)] := by
    rw [take_snoc _ _ (by rw [addP_len _ _ h]; exact hk)]; simp [addP]
  rw [e, List.append_assoc]
  simp only [List.length_take, addP_len _ _ h, Nat.min_eq_left (Nat.le_of_lt hk), Nat.sub_self]
  rw [List.drop_eq_getElem_cons hk, List.set_cons_zero]
  rfl
theorem mixK_all (o a : List Nat) (h : o.length = a.length) : mixK o a o.length = addP o a := by
  unfold mixK
  rw [List.take_of_length_le (by rw [addP_len _ _ h]; exact Nat.le_refl _), List.drop_length, List.append_nil]
theorem mixK_zero (o a : List Nat) : mixK o a 0 = o := by simp [mixK]
theorem refInv_8 (a : Nat) (ha : a < 256) (w : World) : Calls Try.prog 90 #[.int .i64 8, .int .u64 a] w fun e w' => e = .returned (.int .u64 (inv 8 a)) ∧ w = w' := refInverse_any 8 (.inl rfl) a ha w
set_option maxRecDepth 100000 in
set_option maxHeartbeats 4000000 in
theorem Through_any (A A' : Option Addr) (n c c' : Nat) (ps : List (Nat × Nat)) (w : World) (hn : n ≤ 20) (hb : PtB ps) (hl : ps.length = n) (h : Rd w w.heap.size 1 A n (u8s (ps.map (·.1)))) (h' : Rd w w.heap.size 1 A' n (u8s (ps.map (·.2)))) :
    Calls Try.prog 63 #[.slice A n c, .slice A' n c'] w (RetOwn w 5 1 n (u8s (throughL ps)) id) := by
  have H := Lib.hid h; have H' := Lib.hid h'; have HB := Lib.hid hb; have HL := Lib.hid hl
  clear h h' hb hl
  have hmk := fun w => make_u8 w n (by omega)
  go_enter Try.func63, Try.ntmps63
  go_wp2_with fail
  clear hmk
  go_loopw [6] (fun vi wr => ∃ i : Nat, i ≤ n ∧ vi = .int .i64 i ∧ wr.heap[w.heap.size]? = some (.cells (u8s (lagS ps i)).toArray 5 (0, 0)) ∧ Below w.heap.size w wr) (fun vi _ => n - (intOf vi).toNat)
  case atStart => exact ⟨0, Nat.zero_le _, rfl, by rw [show u8s (lagS ps 0) = List.replicate n (.int .u8 0) by simp [lagS, u8s, HL.out]]; simpa using heap_alloc_new w _, (Below.refl _ _).alloc (Nat.le_refl _) _⟩
  case round =>
    obtain ⟨wp, rfl⟩ : ∃ wp : World, wp = wr := ⟨_, rfl⟩
    obtain ⟨i, hi, rfl, hblk, hbw⟩ := hrel
    have HBK := Lib.hid hblk
    have hsz : w.heap.size < wp.heap.size := (Array.getElem?_eq_some_iff.1 hblk).1
    clear hblk
    by_cases hlt : i < n
    · have hlt' : (i : Int) < (n : Int) := by omega
      have hil : i < ps.length := by rw [HL.out]; exact hlt
      obtain ⟨b, off, rfl, hbb, hcx⟩ := H.out.2 (by omega)
      obtain ⟨b', off', rfl, hbb', hcy⟩ := H'.out.2 (by omega)
      have HCX : Hid (∀ j (h : j < ps.length), w.cell? ⟨b, off + j, none⟩ = some (.int .u8 (ps[j]).1)) := Lib.hid (fun j h => hcx j _ (by simp [u8s, h]))
      have HCY : Hid (w.cell? ⟨b', off' + i, none⟩ = some (.int .u8 (ps[i]).2)) := Lib.hid (hcy i _ (by simp [u8s, hil]))
      have hpi := HB.out _ (List.getElem_mem hil)
      have HXI := Lib.hid (HCX.out i hil)
      have hg : ps.getD i (0, 0) = ps[i] := by simp [List.getD, List.getElem?_eq_getElem hil]
      have HSTEP : Hid (lagS ps (i + 1) = addP (lagS ps i) (mulP (lagP (others ps i)) (gm 8 (ps[i]).2 (inv 8 (lagU (ps[i]).1 (others ps i)))))) := Lib.hid (by rw [lagS, hg]; rfl)
      clear hcx hcy hg
      obtain ⟨hxb, hyb⟩ := hpi
      generalize (ps[i]).1 = xi at HXI HSTEP hxb
      generalize (ps[i]).2 = yi at HCY HSTEP hyb
      go_wp2_with fail
      obtain ⟨w0, hw0⟩ : ∃ w0, w0 = wp.alloc (.cells #[.int .u8 1] 5) := ⟨_, rfl⟩
      have hB0 : Below wp.heap.size wp w0 := by rw [hw0]; exact (Below.refl _ _).alloc (Nat.le_refl _) _
      have hP0 := own_new wp #[.int .u8 1] 5 1 rfl (by omega)
      rw [← hw0] at hP0 ⊢
      have hsz0 : w0.heap.size = wp.heap.size + 1 := by rw [hw0]; simp
      have P0 : Hid (w0.ownsRow wp.heap.size 5 1 (.slice (some ⟨wp.heap.size, 0, none⟩) 1 1) 1 (u8s (lagP (oth ps i 0)))) := Lib.hid (by simpa [oth, lagP, u8s] using hP0)
      clear hP0 hw0
      go_loopw [7, 8, 9] (fun vp vu vk wr => ∃ (k m cp : Nat) (Ap : Option Addr), k ≤ n ∧ vk = .int .i64 k ∧ vp = .slice Ap m cp ∧ m ≤ cp ∧ m = (oth ps i k).length + 1 ∧ wr.ownsRow wp.heap.size 5 1 (.slice Ap m cp) m (u8s (lagP (oth ps i k))) ∧ vu = .int .u64 (lagU xi (oth ps i k)) ∧ Below wp.heap.size wp wr) (fun _ _ vk _ => n - (intOf vk).toNat)
      case atStart => exact ⟨0, 1, 1, _, Nat.zero_le _, rfl, rfl, Nat.le_refl _, by simp [oth], P0.out, by simp [oth, lagU], hB0⟩
      case round =>
        obtain ⟨k, m, cp, Ap, hk, rfl, rfl, hmc, hm, hrp, rfl, hb1⟩ := hrel
        have OP := Lib.hid hrp; have RP := Lib.hid (Rd.own hrp)
        have s1 := hb1.size
        have HMM := Lib.hid hm
        have hm21 : m ≤ 21 := by have := oth_len ps i k (by have := HL.out; omega); omega
        have hu := lagU_lt xi (oth ps i k)
        clear hrp hm
        by_cases hlk : k < n
        · have hlk' : (k : Int) < (n : Int) := by omega
          by_cases hki : k = i
          · have hki' : ((k : Int) != (i : Int)) = false := by subst hki; simp
            have HE : Hid (oth ps i (k + 1) = oth ps i k) := Lib.hid (by subst hki; exact oth_skip ps k hil)
            clear hki
            go_wp2_with fail
            exact ⟨⟨k + 1, m, cp, Ap, hlk, by go_num, rfl, hmc, by rw [HE.out]; exact HMM.out, by rw [HE.out]; exact OP.out, by rw [HE.out], hb1⟩, by simp [intOf]; omega⟩
          · have hki' : ((k : Int) != (i : Int)) = true := by simp only [bne_iff_ne, ne_eq]; omega
            have hkl : k < ps.length := by rw [HL.out]; exact hlk
            have HE : Hid (oth ps i (k + 1) = oth ps i k ++ [(ps[k]).1]) := Lib.hid (oth_snoc ps i k hkl hki)
            have bw1 := hbw.trans (hb1.mono (by omega))
            have hxk := (bw1.cell (p := ⟨b, off + k, none⟩) hbb).trans (HCX.out k hkl)
            have hxkb := (HB.out _ (List.getElem_mem hkl)).1
            have hpb := (lagP_all (oth ps i k) (oth_bytes HB.out i k)).2.1
            generalize (ps[k]).1 = xk at HE hxk hxkb
            clear hkl hki
            have HPB := Lib.hid hpb
            clear hpb
            go_wp2_with fail
            refine (times_ref Ap m cp xk (lagP (oth ps i k)) _ (by omega) hxkb HPB.out RP.out).mono ?_
            rintro e w2 ⟨A2, c2, rfl, hc2, hown2, hb2⟩
            have O2 := Lib.hid (ownsRow_mono hown2 s1); clear hown2
            have bw2 := bw1.trans (hb2.mono (by omega))
            have hxk2 := (hb2.cell (p := ⟨b, off + k, none⟩) (by simp only; omega)).trans hxk
            have hxi2 := (bw2.cell (p := ⟨b, off + i, none⟩) hbb).trans HXI.out
            try dsimp only [id]
            have hxx : xi ^^^ xk < 256 := xor8_lt hxb hxkb
            have hxw : Go.bits .xor .u8 (xi : Int) (xk : Int) = ((xi ^^^ xk : Nat) : Int) := u8_xor_nat _ _ (by omega) (by omega)
            have hww : IntKind.u64.wrap ((xi ^^^ xk : Nat) : Int) = ((xi ^^^ xk : Nat) : Int) := by rw [IntKind.wrap_u64]; omega
            have hsb2 := hb2.size
            have hb2' := hb2
            clear hb2 hxk RP
            go_wp2_with fail
            go_quiet ((go_at_call 89; with_reducible exact quiet_e (refMul_nat 8 (lagU xi (oth ps i k)) (xi ^^^ xk) isW8 hu hxx _)))
            go_wp2_with fail
            go_roundw
            case rel => exact ⟨k + 1, m + 1, c2, A2, hlk, by go_num, rfl, hc2, by rw [HE.out, List.length_append, List.length_singleton, ← HMM.out], by rw [HE.out, lagP_snoc]; exact ownsRow_below O2.out ((Qw.drewN (Qw.refl w2) nq).below _) (Nat.le_refl _), by rw [HE.out, lagU_snoc], (hb1.trans (hb2'.mono s1)).trans ((Qw.drewN (Qw.refl w2) nq).below _)⟩
            case measure => simp [intOf]; omega
        · have hlk' : ¬ (k : Int) < (n : Int) := by omega
          obtain rfl : k = n := by omega
          have hal : oth ps i k = others ps i := by rw [← oth_all, HL.out]
          have hmn : m = k := by have h1 := HMM.out; rw [hal, others_len hil, HL.out] at h1; omega
          rw [hal] at RP OP hu
          rw [hal]
          have hlp := (lagP_all (others ps i) (others_bytes HB.out i))
          have LPL : Hid ((lagP (others ps i)).length = k) := Lib.hid (by rw [hlp.1, others_len hil, HL.out]; omega)
          have LPB := Lib.hid hlp.2.1
          have LSA := Lib.hid (lagS_all HB.out i (by rw [HL.out]; exact hi))
          obtain ⟨C, hC⟩ : ∃ C, C = gm 8 yi (inv 8 (lagU xi (others ps i))) := ⟨_, rfl⟩
          rw [← hC] at HSTEP
          have hCl : C < 256 := by rw [hC]; exact gm8_lt hyb
          have bw1 := hbw.trans (hb1.mono (by omega))
          have hyi := (bw1.cell (p := ⟨b', off' + i, none⟩) hbb').trans HCY.out
          have hB1 : wr.heap[w.heap.size]? = some (.cells (u8s (mixK (lagS ps i) (mulP (lagP (others ps i)) C) 0)).toArray 5 (0, 0)) := by rw [mixK_zero]; exact (hb1.block _ hsz).trans HBK.out
          have hiv := inv_lt isW8 (lagU xi (others ps i))
          have hyw : IntKind.u64.wrap (yi : Int) = (yi : Int) := by rw [IntKind.wrap_u64]; omega
          have HCC := Lib.hid hC
          have HB1 := Lib.hid hB1
          subst hmn
          generalize lagU xi (others ps i) = U at hu HCC hiv
          generalize lagP (others ps i) = PL at RP OP LPL LPB HSTEP HB1
          generalize lagS ps i = LS at HSTEP LSA HB1 HBK
          clear hlp hal HMM hC hB1 hil
          go_wp2_with fail
          go_quiet ((first
            | (go_at_call 90; with_reducible exact quiet_e (refInv_8 U hu _))
            | (go_at_call 89; with_reducible exact quiet_e (refMul_nat 8 yi (inv 8 U) isW8 hyb hiv _))))
          rw [← HCC.out]
          clear HCC hiv hyw hyi
          go_wp2_with fail
          obtain ⟨w3, hw3⟩ : ∃ w3, w3 = wr.drewN nq := ⟨_, rfl⟩
          have hb3 : Below wr.heap.size wr w3 := by rw [hw3]; exact (Qw.drewN (Qw.refl wr) nq).below _
          have B3 := bw1.trans (hb3.mono (by omega))
          have R3 := Lib.hid (ownsRow_below OP.out hb3 (Nat.le_refl _))
          have BL3 : Hid (w3.heap[w.heap.size]? = some (.cells (u8s (mixK LS (mulP PL C) 0)).toArray 5 (0, 0))) := Lib.hid (by rw [hw3]; exact HB1.out)
          have hwz : w.heap.size < wr.heap.size := by omega
          rw [← hw3]
          clear hw3 RP OP HB1 hb1 hbw HBK
          go_loopw [11] (fun vk wx => ∃ k : Nat, k ≤ m ∧ vk = .int .i64 k ∧ wx.heap[w.heap.size]? = some (.cells (u8s (mixK LS (mulP PL C) k)).toArray 5 (0, 0)) ∧ Below w.heap.size w wx ∧ wx.ownsRow wp.heap.size 5 1 (.slice Ap m cp) m (u8s PL)) (fun vk _ => m - (intOf vk).toNat)
          case atStart => exact ⟨0, Nat.zero_le _, rfl, BL3.out, B3, R3.out⟩
          case round =>
            obtain ⟨k, hk, rfl, hbk, hbx, hpx⟩ := hrel
            by_cases hlk : k < m
            · have hlk2 : (k : Int) < (m : Int) := by omega
              have hkL : k < LS.length := by rw [LSA.out.1, HL.out]; exact hlk
              have hkP : k < PL.length := by rw [LPL.out]; exact hlk
              have hMl : LS.length = (mulP PL C).length := by rw [mulP_len, LPL.out, LSA.out.1, HL.out]
              obtain ⟨pb, po, rfl, hpb, hpc⟩ := (Rd.own hpx).2 (by omega)
              have cP : wr.cell? ⟨pb, po + k, none⟩ = some (.int .u8 (PL[k] : Nat)) := hpc k _ (by simp [u8s, hkP])
              have cO : wr.cell? ⟨w.heap.size, k, none⟩ = some (.int .u8 (LS[k] : Nat)) := by rw [cell_of_row _ _ _ _ _ _ hbk]; simp [u8s, mixK_get _ _ _ hMl hkL]
              have fO : wr.frozen? ⟨w.heap.size, k, none⟩ = false := by simp [World.frozen?, hbk]
              have HMS := Lib.hid (mixK_set LS (mulP PL C) k hMl hkL)
              have hmg : (mulP PL C)[k]'(by rw [mulP_len]; exact hkP) = gm 8 PL[k] C := by simp [mulP]
              rw [hmg] at HMS
              have hpl := LPB.out _ (List.getElem_mem hkP)
              have hls := LSA.out.2 _ (List.getElem_mem hkL)
              have HBX := Lib.hid hbk; have HPX := Lib.hid hpx
              clear hmg hbk hpx hpc
              generalize PL[k] = y at cP HMS hpl
              generalize LS[k] = z at cO HMS hls
              clear hkL hkP hMl
              have hgy : gm 8 y C < 256 := gm8_lt hpl
              have hwy : IntKind.u64.wrap (y : Int) = (y : Int) := by rw [IntKind.wrap_u64]; omega
              have hwg : IntKind.u8.wrap ((gm 8 y C : Nat) : Int) = ((gm 8 y C : Nat) : Int) := by rw [IntKind.wrap_u8]; omega
              go_wp2_with fail
              refine wp_region_quiet_tail 16 (by kernel_rfl) (by kernel_rfl) ?_
              simp only [List.take_succ_cons, List.take_zero, List.drop_succ_cons, List.drop_zero]
              repeat (quiet_step ((go_at_call 89; with_reducible exact quiet_e (refMul_nat 8 y C isW8 hpl hCl _))))
              refine wpQuiet_nil ?_
              intro _ hw'
              obtain ⟨nr, hw''⟩ := hw'
              subst hw''
              go_wp2_with fail
              rw [u8_xor_nat _ _ (by omega) (by omega)]
              go_roundw
              case rel =>
                refine ⟨k + 1, hlk, by go_num, by rw [← HMS.out]; exact row_set (w := wr.drewN nr) HBX.out k _ _ rfl, (hbx.trans ((Qw.drewN (Qw.refl wr) nr).below _)).setCell (Nat.le_refl _) _, ?_⟩
                exact ownsRow_grown (r := some w.heap.size) HPX.out (grown_set (grown_drewN (World.grownBy.refl _ _) nr) k _) (fun g hg e => by have h1 := (HPX.out.lt g hg).1; have h2 := Option.some.inj e; omega)
              case measure => simp [intOf]; omega
            · have hlk2 : ¬ (k : Int) < (m : Int) := by omega
              obtain rfl : k = m := by omega
              have hbk2 := hbk
              have hMl : LS.length = (mulP PL C).length := by rw [mulP_len, LPL.out, LSA.out.1, HL.out]
              rw [show mixK LS (mulP PL C) k = lagS ps (i + 1) by rw [HSTEP.out, ← mixK_all _ _ hMl, LSA.out.1, HL.out]] at hbk2
              have HBX := Lib.hid hbk2
              clear hbk hbk2 hMl
              go_wp2_with fail
              exact ⟨⟨i + 1, hlt, by go_num, HBX.out, hbx⟩, by simp [intOf]; omega⟩
    · have hlt' : ¬ (i : Int) < (n : Int) := by omega
      obtain rfl : i = n := by omega
      have hr := HBK.out
      rw [show lagS ps i = throughL ps by unfold throughL; rw [HL.out]] at hr
      have hlen := (lagS_all HB.out ps.length (Nat.le_refl _)).1
      have HLN : Hid ((throughL ps).length = i) := Lib.hid (by unfold throughL; rw [hlen, HL.out])
      have HR := Lib.hid hr
      clear hr hlen
      go_wp2_with fail
      go_ret
      exact RetOwn.of (mk := id) (own_of_row HR.out (by simp [u8s, HLN.out]) (Nat.le_refl _) (by unfold maxLen; omega)) hbw
end Go.Proofs.Ythmooplhhkafcaa
/- The contract of Join of the reference. Conditions: as each statement says. -/
namespace Go.Proofs.Ythmooplhhkafcaa
open Go.RowKit
set_option linter.unusedVariables false
set_option maxRecDepth 100000 in
theorem refJoin_3 (A : Option Addr) (n c : Nat) (k : Int) (w : World) (h : k < 1 ∨ 16 < k) :
    Calls Try.prog 30 #[.slice A n c, .int .i64 k] w (RetES w 3 []) := by
  rcases h with h | h
  · go_enter Try.func30, Try.ntmps30
    go_wp2_with fail
    go_ret2
    exact RetES.nil 3 (Below.refl _ _)
  · have h2 : ¬ k < 1 := by omega
    go_enter Try.func30, Try.ntmps30
    go_wp2_with fail
    go_ret2
    exact RetES.nil 3 (Below.refl _ _)
set_option maxRecDepth 100000 in
theorem refJoin_14 (A : Option Addr) (n c k : Nat) (w : World) (hk1 : 1 ≤ k) (hk2 : k ≤ 16) (h : n < k) :
    Calls Try.prog 30 #[.slice A n c, .int .i64 k] w (RetES w 14 []) := by
  have h1 : (1 : Int) ≤ (k : Int) := by omega
  have h2 : (k : Int) ≤ 16 := by omega
  have h3 : (n : Int) < (k : Int) := by omega
  go_enter Try.func30, Try.ntmps30
  go_wp2_with fail
  go_ret2
  exact RetES.nil 14 (Below.refl _ _)
theorem tail_e {e : Int} (h0 : 0 ≤ e) (hne : e ≠ 0) : 0 < e := by omega
set_option maxRecDepth 100000 in
set_option maxHeartbeats 1000000 in
theorem refJoin_chk (b off n c k : Nat) (s : ShareV) (r : List ShareV) (w : World) (hk1 : 1 ≤ k) (hk2 : k ≤ 16) (hn : n ≤ 1073741824) (h : k ≤ n) (hl : ShR w w.heap.size (some ⟨b, off, none⟩) n (s :: r)) (hE : chkE s.n [] (s :: r) ≠ 0) :
    Calls Try.prog 30 #[.slice (some ⟨b, off, none⟩) n c, .int .i64 k] w (RetES w (chkE s.n [] (s :: r)) []) := by
  have h1 : (1 : Int) ≤ (k : Int) := by omega
  have h2 : (k : Int) ≤ 16 := by omega
  have h3 : (k : Int) ≤ (n : Int) := by omega
  have hn0 : (0 : Int) < (n : Int) := by omega
  obtain ⟨b', off', he, hb, hc⟩ := hl.2.1.2 (by omega)
  injection he with he; injection he with he1 he2 _
  subst he1 he2
  have c1 : w.cell? ⟨b, off + 1, none⟩ = some (.slice s.A s.n s.c) := hc 1 _ rfl
  have hsn := (hl.2.2 s (by simp)).2.2.2.1
  have HF := Lib.hid (Faults_any (some ⟨b, off, none⟩) n c s.n (s :: r) w hn hsn hl)
  have hJ := chk_join (len := s.n) (s := s) (r := r) rfl
  have h0 := (flt_codes s.n (s :: r) [] 0).1
  obtain ⟨E, hEe⟩ : ∃ E, E = (fltE s.n [] 0 (s :: r)).1 := ⟨_, rfl⟩
  obtain ⟨I, hI⟩ : ∃ I, I = (fltE s.n [] 0 (s :: r)).2 := ⟨_, rfl⟩
  rw [← hEe, ← hI] at HF hJ
  rw [← hEe] at h0
  obtain ⟨C, hC⟩ : ∃ C, C = chkE s.n [] (s :: r) := ⟨_, rfl⟩
  rw [← hC] at hJ hE ⊢
  generalize s.n = len at c1 hsn HF hJ
  have HJ := Lib.hid hJ; have HE := Lib.hid hE
  clear hc hl hEe hI hC hJ hE
  by_cases g1 : 256 < len
  · have g1' : (256 : Int) < (len : Int) := by omega
    by_cases g2 : E = 0
    · subst g2
      have HC : Hid (C = 4) := Lib.hid (by rw [HJ.out, if_pos ⟨g1, .inl rfl⟩])
      clear HJ HE
      go_enter Try.func30, Try.ntmps30
      go_wp2_with fail
      refine HF.out.mono ?_
      rintro e w1 ⟨rfl, hq1⟩
      have c11 := (hq1.cell ⟨b, off + 1, none⟩).trans c1
      go_wp2_with fail
      go_ret2
      rw [HC.out]
      exact RetES.nil 4 (hq1.below _)
    · have g2' : (E == 0) = false := by simpa using g2
      by_cases g3 : 0 < I
      · have g3' : (0 : Int) < (I : Int) := by omega
        have HC : Hid (C = 4) := Lib.hid (by rw [HJ.out, if_pos ⟨g1, .inr g3⟩])
        clear HJ HE g2
        go_enter Try.func30, Try.ntmps30
        go_wp2_with fail
        refine HF.out.mono ?_
        rintro e w1 ⟨rfl, hq1⟩
        have c11 := (hq1.cell ⟨b, off + 1, none⟩).trans c1
        go_wp2_with fail
        go_ret2
        rw [HC.out]
        exact RetES.nil 4 (hq1.below _)
      · have g3' : ¬ (0 : Int) < (I : Int) := by omega
        have HC : Hid (C = E) := Lib.hid (by rw [HJ.out, if_neg (by omega)])
        have g4 := tail_e h0 g2
        clear HJ HE g2
        go_enter Try.func30, Try.ntmps30
        go_wp2_with fail
        refine HF.out.mono ?_
        rintro e w1 ⟨rfl, hq1⟩
        have c11 := (hq1.cell ⟨b, off + 1, none⟩).trans c1
        go_wp2_with fail
        go_ret2
        rw [HC.out]
        exact RetES.nil E (hq1.below _)
  · have g1' : (len : Int) ≤ 256 := by omega
    have HC : Hid (C = E) := Lib.hid (by rw [HJ.out, if_neg (by omega)])
    have g4 := tail_e h0 (by rw [← HC.out]; exact HE.out)
    clear HJ HE
    go_enter Try.func30, Try.ntmps30
    go_wp2_with fail
    refine HF.out.mono ?_
    rintro e w1 ⟨rfl, hq1⟩
    have c11 := (hq1.cell ⟨b, off + 1, none⟩).trans c1
    go_wp2_with fail
    go_ret2
    rw [HC.out]
    exact RetES.nil E (hq1.below _)
end Go.Proofs.Ythmooplhhkafcaa
/- The contract of Join of the reference, where it is not refused ahead. Conditions: as the statement says. -/
namespace Go.Proofs.Ythmooplhhkafcaa
open Go.RowKit
set_option linter.unusedVariables false
theorem atX_take (l : List ShareV) (k j : Nat) : (atX l).take k = (ptsJ l k j).map (·.1) := by unfold atX ptsJ; rw [← List.map_take, List.map_map]; rfl
theorem atY_take (l : List ShareV) (k j : Nat) : (atY l j).take k = (ptsJ l k j).map (·.2) := by unfold atY ptsJ; rw [← List.map_take, List.map_map]; rfl
theorem atX_bytes {l : List ShareV} (h : ShBytes l) : Bytes (atX l) := fun y hy => by obtain ⟨s, hs, rfl⟩ := List.mem_map.1 hy; exact (h s hs).1
theorem atY_bytes {l : List ShareV} (h : ShBytes l) (j : Nat) : Bytes (atY l j) := fun y hy => by obtain ⟨s, hs, rfl⟩ := List.mem_map.1 hy; exact getD_byte (h s hs).2 j
set_option maxRecDepth 100000 in
set_option maxHeartbeats 4000000 in
theorem refJoin_ok (b off n c k len : Nat) (l : List ShareV) (w : World) (hk1 : 1 ≤ k) (hk2 : k ≤ 16) (hnc : n ≤ c) (h : k ≤ n) (hl : ShR w w.heap.size (some ⟨b, off, none⟩) n l) (hE : chkE len [] l = 0) :
    Calls Try.prog 30 #[.slice (some ⟨b, off, none⟩) n c, .int .i64 k] w (RetES w (okE (allJ l k len)) (okS (allJ l k len) (secJ l k len))) := by
  have g := (chk_good len l [] hE).1
  have hn16 : n ≤ 16 := by rw [← hl.1]; exact g.few
  have hne : l ≠ [] := by intro e; have := hl.1; rw [e] at this; simp at this; omega
  have hl256 := g.len hne
  have h1 : (1 : Int) ≤ (k : Int) := by omega
  have h2 : (k : Int) ≤ 16 := by omega
  have h3 : (k : Int) ≤ (n : Int) := by omega
  have hn0 : (0 : Int) < (n : Int) := by omega
  have hl256' : (len : Int) ≤ 256 := by omega
  have hbs : ShBytes l := fun s hs => ⟨(hl.2.2 s hs).1, (hl.2.2 s hs).2.1⟩
  obtain ⟨b', off', he, hb, hc⟩ := hl.2.1.2 (by omega)
  injection he with he; injection he with he1 he2 _
  subst he1 he2
  have hl0 : 0 < l.length := by rw [hl.1]; omega
  have hs0 : (l[0]).n = len := g.n _ (List.getElem_mem hl0)
  have c1 : w.cell? ⟨b, off + 1, none⟩ = some (.slice (l[0]).A len (l[0]).c) := by rw [← hs0]; exact hc 1 _ (by have := shCells_1 l 0 hl0; simpa using this)
  have hF := Faults_any (some ⟨b, off, none⟩) n c len l w (by omega) (by omega) hl
  have hf0 : (fltE len [] 0 l).1 = 0 := by rw [← chk_flt hl256 l [] [] 0 (fun x => Iff.rfl)]; exact hE
  have hfl := flt_lt len l [] 0
  rw [hf0] at hF
  have hfi : (fltE len [] 0 l).2 ≤ 1000 := by have := hl.1; omega
  generalize (fltE len [] 0 l).2 = I at hF hfi
  have HF := Lib.hid hF
  have HG := Lib.hid g; have HBS := Lib.hid hbs; have HLL := Lib.hid hl
  generalize (l[0]).A = A0 at c1
  generalize (l[0]).c = c0 at c1
  have HC1 := Lib.hid c1
  clear hc hE g hbs hl hs0 hl0 hne hF hf0 hfl hfi
  go_enter Try.func30, Try.ntmps30
  go_wp2_with fail
  refine HF.out.mono ?_
  rintro e w1 ⟨rfl, hq1⟩
  have c11 := (hq1.cell ⟨b, off + 1, none⟩).trans c1
  have hb1 := hq1.below w.heap.size
  clear c1
  go_wp2_with fail
  clear c11
  go_loopw [8, 9] (fun vo v wr => ∃ j : Nat, j ≤ len ∧ v = .int .i64 j ∧ wr.ownsRow w.heap.size 5 1 vo j (u8s (secJ l k j)) ∧ Below w.heap.size w wr ∧ allJ l k j = true) (fun _ v _ => len - (intOf v).toNat)
  case atStart => exact ⟨0, Nat.zero_le _, rfl, by simpa [secJ, u8s] using World.ownsRow_nil _ _ _ _, hb1, rfl⟩
  case round =>
    obtain ⟨wp, rfl⟩ : ∃ wp : World, wp = wr := ⟨_, rfl⟩
    obtain ⟨j, hj, rfl, hown, hbw, hall⟩ := hrel
    have HO := Lib.hid hown; have HALL := Lib.hid hall
    have hsz := hbw.size
    have c11 := (hbw.cell (p := ⟨b, off + 1, none⟩) hb).trans HC1.out
    clear hown hall
    by_cases hlt : j < len
    · have hlt' : (j : Int) < (len : Int) := by omega
      go_wp2_with fail
      refine (at_any (some ⟨b, off, none⟩) n c j l _ (by omega) (fun s hs => by rw [HG.out.n s hs]; exact hlt) (by omega) ((HLL.out.below hbw).mono hsz)).mono ?_
      rintro e w2 ⟨A1, c1, A2, c2, rfl, hc1, hc2, hrx, hry, hb2⟩
      have s2 := hb2.size
      have bw2 := hbw.trans (hb2.mono hsz)
      have HO2 := Lib.hid (ownsRow_below HO.out hb2 (Nat.le_refl _))
      have RX := Lib.hid hrx; have RY := Lib.hid hry
      clear hrx hry HO
      obtain ⟨A3, hsl3, hrd3⟩ := slice_hd (P := Try.prog) (t := 28) (sz := 1) Try.underlying28 Try.sizeOf5 RX.out (k : Int) k c1 rfl h hc1
      obtain ⟨A4, hsl4, hrd4⟩ := slice_hd (P := Try.prog) (t := 28) (sz := 1) Try.underlying28 Try.sizeOf5 RY.out (k : Int) k c2 rfl h hc2
      have R3 : Hid (Rd w2 w2.heap.size 1 A3 k (u8s ((ptsJ l k j).map (·.1)))) := Lib.hid (by rw [Nat.mul_one] at hrd3; rw [← atX_take]; simpa [u8s, List.map_take] using hrd3)
      have R4 : Hid (Rd w2 w2.heap.size 1 A4 k (u8s ((ptsJ l k j).map (·.2)))) := Lib.hid (by rw [Nat.mul_one] at hrd4; rw [← atY_take]; simpa [u8s, List.map_take] using hrd4)
      have HPL : Hid ((ptsJ l k j).length = k) := Lib.hid (ptsJ_len l k j (by rw [HLL.out.1]; exact h))
      have HTE := Lib.hid (through_eq (ptsJ_b HBS.out k j) (ptsJ_d HG.out k j))
      clear hrd3 hrd4 hb2 c11
      go_wp2_with fail
      refine wp_region_quiet_tail 6 (by kernel_rfl) (by kernel_rfl) ?_
      simp only [List.take_succ_cons, List.take_zero, List.drop_succ_cons, List.drop_zero]
      repeat (quiet_step (fail))
      refine wpQuiet_nil ?_
      intro _ hw'
      obtain ⟨nq, hw''⟩ := hw'
      subst hw''
      clear hsl3 hsl4
      go_wp2_with fail
      refine (Through_any A3 A4 k _ _ (ptsJ l k j) (w2.drewN nq) (by omega) (ptsJ_b HBS.out k j) HPL.out (R3.out.drewN nq) (R4.out.drewN nq)).mono ?_
      rw [HTE.out]
      rintro e w3 ⟨A5, c5, rfl, hc5, hown5, hb3'⟩
      have hb3 : Below w2.heap.size w2 w3 := ((Qw.drewN (Qw.refl w2) nq).below _).trans hb3'
      have s3 := hb3.size
      have bw3 := bw2.trans (hb3.mono (by omega))
      have O5 := Lib.hid (ownsRow_mono hown5 (show w2.heap.size ≤ (w2.drewN nq).heap.size from Nat.le_refl _))
      have HO3 := Lib.hid (ownsRow_below HO2.out hb3 (Nat.le_refl _))
      have RX3 := Lib.hid ((RX.out.below hb3).mono s3); have RY3 := Lib.hid ((RY.out.below hb3).mono s3)
      have hPB := Lib.hid (polyJ_bytes HG.out HBS.out k j)
      have hPL := Lib.hid (polyJ_len HG.out HBS.out k j (by rw [HLL.out.1]; exact h))
      try dsimp only [id]
      clear hown5 hb3' HO2 R3 R4 RX RY HTE HPL hb3
      go_wp2_with fail
      go_loopw [13] (fun v wx => ∃ q : Nat, k ≤ q ∧ q ≤ n ∧ v = .int .i64 q ∧ Qw w3 wx ∧ ((l.drop k).take (q - k)).all (fun s => valF (polyJ l k j) s.X == s.Y.getD j 0) = true) (fun v _ => n - (intOf v).toNat)
      case atStart => exact ⟨k, Nat.le_refl _, h, rfl, Qw.refl _, by simp⟩
      case round =>
        obtain ⟨q, hkq, hq, rfl, hq6, hal⟩ := hrel
        have HAL := Lib.hid hal
        clear hal
        by_cases hlq : q < n
        · have hlq' : (q : Int) < (n : Int) := by omega
          have hql : q < l.length := by rw [HLL.out.1]; exact hlq
          obtain ⟨bx, ox, rfl, hbx, hcx⟩ := RX3.out.2 (by omega)
          obtain ⟨by', oy, rfl, hby, hcy⟩ := RY3.out.2 (by omega)
          have cx : wr.cell? ⟨bx, ox + q, none⟩ = some (.int .u8 (l[q]).X) := (hq6.cell _).trans (hcx q _ (by simp [u8s, atX, hql]))
          have cy : wr.cell? ⟨by', oy + q, none⟩ = some (.int .u8 ((l[q]).Y.getD j 0 : Nat)) := (hq6.cell _).trans (hcy q _ (by simp [u8s, atY, hql]))
          have hX := (HBS.out _ (List.getElem_mem hql)).1
          have hy256 := getD_byte (HBS.out _ (List.getElem_mem hql)).2 j
          have HTK : Hid ((l.drop k).take (q + 1 - k) = (l.drop k).take (q - k) ++ [l[q]]) := Lib.hid (by
            rw [show q + 1 - k = (q - k) + 1 by omega, take_snoc _ _ (by rw [List.length_drop]; omega)]
            congr 2
            rw [List.getElem_drop]; congr 1; omega)
          have HMM : Hid (l[q] ∈ l.drop k) := Lib.hid (by rw [List.mem_drop_iff_getElem]; exact ⟨q - k, by omega, by congr 1; omega⟩)
          have hv := valF_lt hPB.out (l[q]).X
          have RD : Hid (Rd wr w3.heap.size 1 A5 k (u8s (polyJ l k j))) := Lib.hid ((Rd.own O5.out).q hq6)
          clear hcx hcy
          by_cases hvy : valF (polyJ l k j) (l[q]).X = (l[q]).Y.getD j 0
          · have HSTEP : Hid (((l.drop k).take (q + 1 - k)).all (fun s => valF (polyJ l k j) s.X == s.Y.getD j 0) = true) := Lib.hid (by rw [HTK.out, List.all_append, HAL.out]; simpa using hvy)
            have hvi : ((valF (polyJ l k j) (l[q]).X : Int) != ((l[q]).Y.getD j 0 : Int)) = false := by rw [hvy]; simp
            generalize (l[q]).Y.getD j 0 = y at cy hy256 hvi
            generalize (l[q]).X = X at cx hX hvi hv
            clear hvy HTK HMM hql
            go_wp2_with fail
            go_quiet ((go_at_call 66; exact quiet_e (refValue_nat A5 k c5 (polyJ l k j) X _ _ (by omega) hPB.out hX (RD.out.drewN _))))
            go_wp2_with fail
            go_roundw
            case rel => exact ⟨q + 1, by omega, hlq, by go_num, hq6.drewN _, HSTEP.out⟩
            case measure => simp [intOf]; omega
          · have hvi : ((valF (polyJ l k j) (l[q]).X : Int) != ((l[q]).Y.getD j 0 : Int)) = true := by simp only [bne_iff_ne, ne_eq]; omega
            have HF : Hid (allJ l k len = false) := Lib.hid (allJ_false hlt (by
              cases h1 : okJ l k j
              · rfl
              · exact absurd (by simpa using List.all_eq_true.1 h1 _ HMM.out) hvy))
            generalize (l[q]).Y.getD j 0 = y at cy hy256 hvi
            generalize (l[q]).X = X at cx hX hvi hv
            clear hvy HTK HMM hql
            go_wp2_with fail
            go_quiet ((go_at_call 66; exact quiet_e (refValue_nat A5 k c5 (polyJ l k j) X _ _ (by omega) hPB.out hX (RD.out.drewN _))))
            go_wp2_with fail
            go_ret2
            rw [HF.out]
            exact RetES.nil 19 (bw3.trans ((hq6.drewN _).below _))
        · have hlq' : ¬ (q : Int) < (n : Int) := by omega
          obtain rfl : q = n := by omega
          have hOK : okJ l k j = true := by
            have h1 := HAL.out
            rw [List.take_of_length_le (by rw [List.length_drop, HLL.out.1]; exact Nat.le_refl _)] at h1
            exact h1
          have HALL2 : Hid (allJ l k (j + 1) = true) := Lib.hid (by rw [allJ_snoc, HALL.out, hOK]; rfl)
          have hpl0 : 0 < (polyJ l k j).length := by rw [hPL.out]; omega
          obtain ⟨pb, po, rfl, hpb, hpc⟩ := ((Rd.own O5.out).q hq6).2 (by omega)
          have cp : wr.cell? ⟨pb, po, none⟩ = some (.int .u8 ((polyJ l k j).getD 0 0 : Nat)) := by
            have := hpc 0 (.int .u8 ((polyJ l k j)[0] : Nat)) (by show (u8s (polyJ l k j))[0]? = _; rw [u8s, List.getElem?_map, List.getElem?_eq_getElem hpl0]; rfl)
            simpa [List.getD, List.getElem?_eq_getElem hpl0] using this
          have hkk : (0 : Int) < (k : Int) := by omega
          have hb6 := hq6.below w3.heap.size
          have HO4 := Lib.hid (ownsRow_below HO3.out hb6 (Nat.le_refl _))
          have s6 := hb6.size
          have bw6 := bw3.trans (hb6.mono (by omega))
          have HS : Hid (u8s (secJ l k (j + 1)) = u8s (secJ l k j) ++ [.int .u8 ((polyJ l k j).getD 0 0 : Nat)]) := Lib.hid (by rw [secJ_snoc, u8s, List.map_append]; rfl)
          clear hOK hpl0 hpc hb6
          go_wp2_with (at_builtin; refine wpList_push elB_u8 (.tmp 91) (.tmp 95) rfl rfl w.heap.size j _ rfl HO4.out rfl rfl (one_cell1 rfl) (by omega) (by decide) (by omega) ?_; intro v8 w8 hown8 hb8 _)
          exact ⟨⟨j + 1, hlt, by go_num, by rw [HS.out]; exact hown8, bw6.trans hb8, HALL2.out⟩, by simp [intOf]; omega⟩
    · have hlt' : ¬ (j : Int) < (len : Int) := by omega
      obtain rfl : j = len := by omega
      go_wp2_with fail
      go_ret2
      rw [HALL.out]
      show RetES w 0 (secJ l k j) _ _
      exact RetES.own HO.out hbw
end Go.Proofs.Ythmooplhhkafcaa
/- Join of the program and of the reference in one form; both say the same of lists with the same views. Conditions: as each statement says. -/
namespace Go.Proofs.Ythmooplhhkafcaa
open Go.RowKit
set_option linter.unusedVariables false
def canon (s : ShareV) : ShareV := ⟨s.X, none, s.Y.length, 0, s.Y⟩
def ShLen (l : List ShareV) : Prop := ∀ s ∈ l, s.Y.length = s.n
theorem chkE_canon (len : Nat) : ∀ (l : List ShareV) (seen : List Nat), ShLen l → chkE len seen (l.map canon) = chkE len seen l
  | [], _, _ => rfl
  | s :: r, seen, h => by
    rw [List.map_cons, chkE_cons, chkE_cons, chkE_canon len r _ (fun t ht => h t (by simp [ht]))]
    show (if s.X < 1 ∨ 16 < s.X then 2 else if s.X ∈ seen then 10 else if s.Y.length ≠ len then 22 else if 256 < len then 4 else chkE len (s.X :: seen) r) = _
    rw [h s (by simp)]
theorem ptsJ_canon (l : List ShareV) (k j : Nat) : ptsJ (l.map canon) k j = ptsJ l k j := by unfold ptsJ; rw [← List.map_take, List.map_map]; rfl
theorem polyJ_canon (l : List ShareV) (k j : Nat) : polyJ (l.map canon) k j = polyJ l k j := by unfold polyJ; rw [ptsJ_canon]
theorem okJ_canon (l : List ShareV) (k j : Nat) : okJ (l.map canon) k j = okJ l k j := by unfold okJ; rw [← List.map_drop, List.all_map, polyJ_canon]; rfl
theorem allJ_canon (l : List ShareV) (k m : Nat) : allJ (l.map canon) k m = allJ l k m := by
  unfold allJ; congr 1; funext j; exact okJ_canon l k j
theorem secJ_canon (l : List ShareV) (k m : Nat) : secJ (l.map canon) k m = secJ l k m := by
  unfold secJ; apply List.map_congr_left; intro j _; rw [polyJ_canon]
theorem head_canon (l : List ShareV) (h : ShLen l) : ((l.map canon).headD ⟨0, none, 0, 0, []⟩).n = (l.headD ⟨0, none, 0, 0, []⟩).n := by
  cases l with
  | nil => rfl
  | cons s r => exact h s (by simp)
theorem joinE_canon (l : List ShareV) (k : Int) (h : ShLen l) : joinE (l.map canon) k = joinE l k := by
  unfold joinE; rw [head_canon l h, chkE_canon _ l _ h, allJ_canon, List.length_map]
theorem joinS_canon (l : List ShareV) (k : Int) (h : ShLen l) : joinS (l.map canon) k = joinS l k := by
  unfold joinS; rw [joinE_canon l k h, head_canon l h, secJ_canon]
theorem canon_view {l m : List ShareV} (h : l.map ShareV.view = m.map ShareV.view) : l.map canon = m.map canon := by
  have e : ∀ l : List ShareV, l.map canon = (l.map ShareV.view).map (fun p => (⟨p.1, none, p.2.length, 0, p.2⟩ : ShareV)) := fun l => by rw [List.map_map]; rfl
  rw [e, e, h]
theorem join_view {l m : List ShareV} (hl : ShLen l) (hm : ShLen m) (h : l.map ShareV.view = m.map ShareV.view) (k : Int) : joinE l k = joinE m k ∧ joinS l k = joinS m k := by
  rw [← joinE_canon l k hl, ← joinE_canon m k hm, ← joinS_canon l k hl, ← joinS_canon m k hm, canon_view h]
  exact ⟨rfl, rfl⟩
theorem ShR.lens {w : World} {B n : Nat} {A : Option Addr} {l : List ShareV} (h : ShR w B A n l) : ShLen l := fun s hs => (h.2.2 s hs).2.2.2.2.1
theorem join_main {P : (A : Option Addr) → Int → Ending → World → Prop} {A : Option Addr} {n : Nat} {k : Int} {l : List ShareV} {w : World} {f : FuncId} {c : Nat} (hn : n ≤ 1000000) (hnc : n ≤ c) (hl : ShR w w.heap.size A n l)
    (h3 : k < 1 ∨ 16 < k → Calls Try.prog f #[.slice A n c, .int .i64 k] w (RetES w 3 []))
    (h14 : ∀ q : Nat, 1 ≤ q → q ≤ 16 → n < q → Calls Try.prog f #[.slice A n c, .int .i64 q] w (RetES w 14 []))
    (hchk : ∀ (b off q : Nat) (s : ShareV) (r : List ShareV), 1 ≤ q → q ≤ 16 → n ≤ 1073741824 → q ≤ n → ShR w w.heap.size (some ⟨b, off, none⟩) n (s :: r) → chkE s.n [] (s :: r) ≠ 0 → Calls Try.prog f #[.slice (some ⟨b, off, none⟩) n c, .int .i64 q] w (RetES w (chkE s.n [] (s :: r)) []))
    (hok : ∀ (b off q len : Nat) (l : List ShareV), 1 ≤ q → q ≤ 16 → n ≤ c → q ≤ n → ShR w w.heap.size (some ⟨b, off, none⟩) n l → chkE len [] l = 0 → Calls Try.prog f #[.slice (some ⟨b, off, none⟩) n c, .int .i64 q] w (RetES w (okE (allJ l q len)) (okS (allJ l q len) (secJ l q len)))) :
    Calls Try.prog f #[.slice A n c, .int .i64 k] w (RetES w (joinE l k) (joinS l k)) := by
  by_cases g1 : k < 1 ∨ 16 < k
  · have e : joinE l k = 3 := by unfold joinE; rw [if_pos g1]
    have e2 : joinS l k = [] := by unfold joinS; rw [e]; rfl
    rw [e, e2]; exact h3 g1
  · obtain ⟨q, rfl⟩ := Int.eq_ofNat_of_zero_le (show 0 ≤ k by omega)
    by_cases g2 : n < q
    · have e : joinE l q = 14 := by unfold joinE; rw [if_neg g1, if_pos (by rw [hl.1]; omega)]
      have e2 : joinS l q = [] := by unfold joinS; rw [e]; rfl
      rw [e, e2]; exact h14 q (by omega) (by omega) g2
    · obtain ⟨b, off, rfl, _, _⟩ := hl.2.1.2 (by omega)
      cases l with
      | nil => have := hl.1; simp at this; omega
      | cons s r =>
        have hll := hl.1
        by_cases g3 : chkE s.n [] (s :: r) = 0
        · have e : joinE (s :: r) q = okE (allJ (s :: r) q s.n) := by
            unfold joinE
            rw [if_neg g1, if_neg (by rw [hll]; omega)]
            show (if chkE s.n [] (s :: r) ≠ 0 then _ else if allJ (s :: r) (q : Int).toNat s.n then (0 : Int) else 19) = _
            rw [if_neg (by simpa using g3)]; rfl
          have e2 : joinS (s :: r) q = okS (allJ (s :: r) q s.n) (secJ (s :: r) q s.n) := by
            unfold joinS
            rw [e]
            show (if okE (allJ (s :: r) q s.n) = 0 then secJ (s :: r) (q : Int).toNat s.n else []) = _
            cases allJ (s :: r) q s.n <;> rfl
          rw [e, e2]; exact hok b off q s.n (s :: r) (by omega) (by omega) hnc (by omega) hl g3
        · have e : joinE (s :: r) q = chkE s.n [] (s :: r) := by
            unfold joinE
            rw [if_neg g1, if_neg (by rw [hll]; omega)]
            show (if chkE s.n [] (s :: r) ≠ 0 then _ else _) = _
            rw [if_pos g3]; rfl
          have e2 : joinS (s :: r) q = [] := by unfold joinS; rw [e, if_neg g3]
          rw [e, e2]; exact hchk b off q s r (by omega) (by omega) (by omega) (by omega) hl g3
theorem Join_any (A : Option Addr) (n c : Nat) (k : Int) (l : List ShareV) (w : World) (hn : n ≤ 1000000) (hnc : n ≤ c) (hl : ShR w w.heap.size A n l) :
    Calls Try.prog 29 #[.slice A n c, .int .i64 k] w (RetES w (joinE l k) (joinS l k)) :=
  join_main (P := fun _ _ _ _ => True) hn hnc hl (fun h => Join_3 A n c k w h) (fun q a b d => Join_14 A n c q w a b d) (fun b off q s r a1 a2 a3 a4 a5 a6 => Join_chk b off n c q s r w a1 a2 a3 a4 a5 a6) (fun b off q len l a1 a2 a3 a4 a5 a6 => Join_ok b off n c q len l w a1 a2 a3 a4 a5 a6)
theorem refJoin_any (A : Option Addr) (n c : Nat) (k : Int) (l : List ShareV) (w : World) (hn : n ≤ 1000000) (hnc : n ≤ c) (hl : ShR w w.heap.size A n l) :
    Calls Try.prog 30 #[.slice A n c, .int .i64 k] w (RetES w (joinE l k) (joinS l k)) :=
  join_main (P := fun _ _ _ _ => True) hn hnc hl (fun h => refJoin_3 A n c k w h) (fun q a b d => refJoin_14 A n c q w a b d) (fun b off q s r a1 a2 a3 a4 a5 a6 => refJoin_chk b off n c q s r w a1 a2 a3 a4 a5 a6) (fun b off q len l a1 a2 a3 a4 a5 a6 => refJoin_ok b off n c q len l w a1 a2 a3 a4 a5 a6)
end Go.Proofs.Ythmooplhhkafcaa
