/- The contract of Join of the reference, where it is not refused ahead. Conditions: as the statement says. -/
import Derived.Test.YthmooplhhkafcaaJoinRef
namespace Go.Proofs.Ythmooplhhkafcaa
open Go.RowKit
set_option linter.unusedVariables false
theorem atX_take (l : List ShareV) (k j : Nat) : (atX l).take k = (ptsJ l k j).map (·.1) := by unfold atX ptsJ; rw [← List.map_take, List.map_map]; rfl
theorem atY_take (l : List ShareV) (k j : Nat) : (atY l j).take k = (ptsJ l k j).map (·.2) := by unfold atY ptsJ; rw [← List.map_take, List.map_map]; rfl
theorem atX_bytes {l : List ShareV} (h : ShBytes l) : Bytes (atX l) := fun y hy => by obtain ⟨s, hs, rfl⟩ := List.mem_map.1 hy; exact (h s hs).1
theorem atY_bytes {l : List ShareV} (h : ShBytes l) (j : Nat) : Bytes (atY l j) := fun y hy => by obtain ⟨s, hs, rfl⟩ := List.mem_map.1 hy; exact getD_byte (h s hs).2 j
set_option maxRecDepth 100000 in
set_option maxHeartbeats 4000000 in
theorem refJoin_ok (b off n c k len : Nat) (l : List ShareV) (w : World) (hk1 : 1 ≤ k) (hk2 : k ≤ 16) (hnc : n ≤ c) (h : k ≤ n) (hl : ShR w w.heap.size (some ⟨b, off, none⟩) n l) (hE : chkE len [] l = 0) :
    Calls Try.prog 30 #[.slice (some ⟨b, off, none⟩) n c, .int .i64 k] w (RetES w (okE (allJ l k len)) (okS (allJ l k len) (secJ l k len))) := by
  have g := (chk_good len l [] hE).1
  have hn16 : n ≤ 16 := by rw [← hl.1]; exact g.few
  have hne : l ≠ [] := by intro e; have := hl.1; rw [e] at this; simp at this; omega
  have hl256 := g.len hne
  have h1 : (1 : Int) ≤ (k : Int) := by omega
  have h2 : (k : Int) ≤ 16 := by omega
  have h3 : (k : Int) ≤ (n : Int) := by omega
  have hn0 : (0 : Int) < (n : Int) := by omega
  have hl256' : (len : Int) ≤ 256 := by omega
  have hbs : ShBytes l := fun s hs => ⟨(hl.2.2 s hs).1, (hl.2.2 s hs).2.1⟩
  obtain ⟨b', off', he, hb, hc⟩ := hl.2.1.2 (by omega)
  injection he with he; injection he with he1 he2 _
  subst he1 he2
  have hl0 : 0 < l.length := by rw [hl.1]; omega
  have hs0 : (l[0]).n = len := g.n _ (List.getElem_mem hl0)
  have c1 : w.cell? ⟨b, off + 1, none⟩ = some (.slice (l[0]).A len (l[0]).c) := by rw [← hs0]; exact hc 1 _ (by have := shCells_1 l 0 hl0; simpa using this)
  have hF := Faults_any (some ⟨b, off, none⟩) n c len l w (by omega) (by omega) hl
  have hf0 : (fltE len [] 0 l).1 = 0 := by rw [← chk_flt hl256 l [] [] 0 (fun x => Iff.rfl)]; exact hE
  have hfl := flt_lt len l [] 0
  rw [hf0] at hF
  have hfi : (fltE len [] 0 l).2 ≤ 1000 := by have := hl.1; omega
  generalize (fltE len [] 0 l).2 = I at hF hfi
  have HF := Lib.hid hF
  have HG := Lib.hid g; have HBS := Lib.hid hbs; have HLL := Lib.hid hl
  generalize (l[0]).A = A0 at c1
  generalize (l[0]).c = c0 at c1
  have HC1 := Lib.hid c1
  clear hc hE g hbs hl hs0 hl0 hne hF hf0 hfl hfi
  go_enter Try.func30, Try.ntmps30
  go_wp2_with fail
  refine HF.out.mono ?_
  rintro e w1 ⟨rfl, hq1⟩
  have c11 := (hq1.cell ⟨b, off + 1, none⟩).trans c1
  have hb1 := hq1.below w.heap.size
  clear c1
  go_wp2_with fail
  clear c11
  go_loopw [8, 9] (fun vo v wr => ∃ j : Nat, j ≤ len ∧ v = .int .i64 j ∧ wr.ownsRow w.heap.size 5 1 vo j (u8s (secJ l k j)) ∧ Below w.heap.size w wr ∧ allJ l k j = true) (fun _ v _ => len - (intOf v).toNat)
  case atStart => exact ⟨0, Nat.zero_le _, rfl, by simpa [secJ, u8s] using World.ownsRow_nil _ _ _ _, hb1, rfl⟩
  case round =>
    obtain ⟨wp, rfl⟩ : ∃ wp : World, wp = wr := ⟨_, rfl⟩
    obtain ⟨j, hj, rfl, hown, hbw, hall⟩ := hrel
    have HO := Lib.hid hown; have HALL := Lib.hid hall
    have hsz := hbw.size
    have c11 := (hbw.cell (p := ⟨b, off + 1, none⟩) hb).trans HC1.out
    clear hown hall
    by_cases hlt : j < len
    · have hlt' : (j : Int) < (len : Int) := by omega
      go_wp2_with fail
      refine (at_any (some ⟨b, off, none⟩) n c j l _ (by omega) (fun s hs => by rw [HG.out.n s hs]; exact hlt) (by omega) ((HLL.out.below hbw).mono hsz)).mono ?_
      rintro e w2 ⟨A1, c1, A2, c2, rfl, hc1, hc2, hrx, hry, hb2⟩
      have s2 := hb2.size
      have bw2 := hbw.trans (hb2.mono hsz)
      have HO2 := Lib.hid (ownsRow_below HO.out hb2 (Nat.le_refl _))
      have RX := Lib.hid hrx; have RY := Lib.hid hry
      clear hrx hry HO
      obtain ⟨A3, hsl3, hrd3⟩ := slice_hd (P := Try.prog) (t := 28) (sz := 1) Try.underlying28 Try.sizeOf5 RX.out (k : Int) k c1 rfl h hc1
      obtain ⟨A4, hsl4, hrd4⟩ := slice_hd (P := Try.prog) (t := 28) (sz := 1) Try.underlying28 Try.sizeOf5 RY.out (k : Int) k c2 rfl h hc2
      have R3 : Hid (Rd w2 w2.heap.size 1 A3 k (u8s ((ptsJ l k j).map (·.1)))) := Lib.hid (by rw [Nat.mul_one] at hrd3; rw [← atX_take]; simpa [u8s, List.map_take] using hrd3)
      have R4 : Hid (Rd w2 w2.heap.size 1 A4 k (u8s ((ptsJ l k j).map (·.2)))) := Lib.hid (by rw [Nat.mul_one] at hrd4; rw [← atY_take]; simpa [u8s, List.map_take] using hrd4)
      have HPL : Hid ((ptsJ l k j).length = k) := Lib.hid (ptsJ_len l k j (by rw [HLL.out.1]; exact h))
      have HTE := Lib.hid (through_eq (ptsJ_b HBS.out k j) (ptsJ_d HG.out k j))
      clear hrd3 hrd4 hb2 c11
      go_wp2_with fail
      refine wp_region_quiet_tail 6 (by kernel_rfl) (by kernel_rfl) ?_
      simp only [List.take_succ_cons, List.take_zero, List.drop_succ_cons, List.drop_zero]
      repeat (quiet_step (fail))
      refine wpQuiet_nil ?_
      intro _ hw'
      obtain ⟨nq, hw''⟩ := hw'
      subst hw''
      clear hsl3 hsl4
      go_wp2_with fail
      refine (Through_any A3 A4 k _ _ (ptsJ l k j) (w2.drewN nq) (by omega) (ptsJ_b HBS.out k j) HPL.out (R3.out.drewN nq) (R4.out.drewN nq)).mono ?_
      rw [HTE.out]
      rintro e w3 ⟨A5, c5, rfl, hc5, hown5, hb3'⟩
      have hb3 : Below w2.heap.size w2 w3 := ((Qw.drewN (Qw.refl w2) nq).below _).trans hb3'
      have s3 := hb3.size
      have bw3 := bw2.trans (hb3.mono (by omega))
      have O5 := Lib.hid (ownsRow_mono hown5 (show w2.heap.size ≤ (w2.drewN nq).heap.size from Nat.le_refl _))
      have HO3 := Lib.hid (ownsRow_below HO2.out hb3 (Nat.le_refl _))
      have RX3 := Lib.hid ((RX.out.below hb3).mono s3); have RY3 := Lib.hid ((RY.out.below hb3).mono s3)
      have hPB := Lib.hid (polyJ_bytes HG.out HBS.out k j)
      have hPL := Lib.hid (polyJ_len HG.out HBS.out k j (by rw [HLL.out.1]; exact h))
      try dsimp only [id]
      clear hown5 hb3' HO2 R3 R4 RX RY HTE HPL hb3
      go_wp2_with fail
      go_loopw [13] (fun v wx => ∃ q : Nat, k ≤ q ∧ q ≤ n ∧ v = .int .i64 q ∧ Qw w3 wx ∧ ((l.drop k).take (q - k)).all (fun s => valF (polyJ l k j) s.X == s.Y.getD j 0) = true) (fun v _ => n - (intOf v).toNat)
      case atStart => exact ⟨k, Nat.le_refl _, h, rfl, Qw.refl _, by simp⟩
      case round =>
        obtain ⟨q, hkq, hq, rfl, hq6, hal⟩ := hrel
        have HAL := Lib.hid hal
        clear hal
        by_cases hlq : q < n
        · have hlq' : (q : Int) < (n : Int) := by omega
          have hql : q < l.length := by rw [HLL.out.1]; exact hlq
          obtain ⟨bx, ox, rfl, hbx, hcx⟩ := RX3.out.2 (by omega)
          obtain ⟨by', oy, rfl, hby, hcy⟩ := RY3.out.2 (by omega)
          have cx : wr.cell? ⟨bx, ox + q, none⟩ = some (.int .u8 (l[q]).X) := (hq6.cell _).trans (hcx q _ (by simp [u8s, atX, hql]))
          have cy : wr.cell? ⟨by', oy + q, none⟩ = some (.int .u8 ((l[q]).Y.getD j 0 : Nat)) := (hq6.cell _).trans (hcy q _ (by simp [u8s, atY, hql]))
          have hX := (HBS.out _ (List.getElem_mem hql)).1
          have hy256 := getD_byte (HBS.out _ (List.getElem_mem hql)).2 j
          have HTK : Hid ((l.drop k).take (q + 1 - k) = (l.drop k).take (q - k) ++ [l[q]]) := Lib.hid (by
            rw [show q + 1 - k = (q - k) + 1 by omega, take_snoc _ _ (by rw [List.length_drop]; omega)]
            congr 2
            rw [List.getElem_drop]; congr 1; omega)
          have HMM : Hid (l[q] ∈ l.drop k) := Lib.hid (by rw [List.mem_drop_iff_getElem]; exact ⟨q - k, by omega, by congr 1; omega⟩)
          have hv := valF_lt hPB.out (l[q]).X
          have RD : Hid (Rd wr w3.heap.size 1 A5 k (u8s (polyJ l k j))) := Lib.hid ((Rd.own O5.out).q hq6)
          clear hcx hcy
          by_cases hvy : valF (polyJ l k j) (l[q]).X = (l[q]).Y.getD j 0
          · have HSTEP : Hid (((l.drop k).take (q + 1 - k)).all (fun s => valF (polyJ l k j) s.X == s.Y.getD j 0) = true) := Lib.hid (by rw [HTK.out, List.all_append, HAL.out]; simpa using hvy)
            have hvi : ((valF (polyJ l k j) (l[q]).X : Int) != ((l[q]).Y.getD j 0 : Int)) = false := by rw [hvy]; simp
            generalize (l[q]).Y.getD j 0 = y at cy hy256 hvi
            generalize (l[q]).X = X at cx hX hvi hv
            clear hvy HTK HMM hql
            go_wp2_with fail
            go_quiet ((go_at_call 66; exact quiet_e (refValue_nat A5 k c5 (polyJ l k j) X _ _ (by omega) hPB.out hX (RD.out.drewN _))))
            go_wp2_with fail
            go_roundw
            case rel => exact ⟨q + 1, by omega, hlq, by go_num, hq6.drewN _, HSTEP.out⟩
            case measure => simp [intOf]; omega
          · have hvi : ((valF (polyJ l k j) (l[q]).X : Int) != ((l[q]).Y.getD j 0 : Int)) = true := by simp only [bne_iff_ne, ne_eq]; omega
            have HF : Hid (allJ l k len = false) := Lib.hid (allJ_false hlt (by
              cases h1 : okJ l k j
              · rfl
              · exact absurd (by simpa using List.all_eq_true.1 h1 _ HMM.out) hvy))
            generalize (l[q]).Y.getD j 0 = y at cy hy256 hvi
            generalize (l[q]).X = X at cx hX hvi hv
            clear hvy HTK HMM hql
            go_wp2_with fail
            go_quiet ((go_at_call 66; exact quiet_e (refValue_nat A5 k c5 (polyJ l k j) X _ _ (by omega) hPB.out hX (RD.out.drewN _))))
            go_wp2_with fail
            go_ret2
            rw [HF.out]
            exact RetES.nil 19 (bw3.trans ((hq6.drewN _).below _))
        · have hlq' : ¬ (q : Int) < (n : Int) := by omega
          obtain rfl : q = n := by omega
          have hOK : okJ l k j = true := by
            have h1 := HAL.out
            rw [List.take_of_length_le (by rw [List.length_drop, HLL.out.1]; exact Nat.le_refl _)] at h1
            exact h1
          have HALL2 : Hid (allJ l k (j + 1) = true) := Lib.hid (by rw [allJ_snoc, HALL.out, hOK]; rfl)
          have hpl0 : 0 < (polyJ l k j).length := by rw [hPL.out]; omega
          obtain ⟨pb, po, rfl, hpb, hpc⟩ := ((Rd.own O5.out).q hq6).2 (by omega)
          have cp : wr.cell? ⟨pb, po, none⟩ = some (.int .u8 ((polyJ l k j).getD 0 0 : Nat)) := by
            have := hpc 0 (.int .u8 ((polyJ l k j)[0] : Nat)) (by show (u8s (polyJ l k j))[0]? = _; rw [u8s, List.getElem?_map, List.getElem?_eq_getElem hpl0]; rfl)
            simpa [List.getD, List.getElem?_eq_getElem hpl0] using this
          have hkk : (0 : Int) < (k : Int) := by omega
          have hb6 := hq6.below w3.heap.size
          have HO4 := Lib.hid (ownsRow_below HO3.out hb6 (Nat.le_refl _))
          have s6 := hb6.size
          have bw6 := bw3.trans (hb6.mono (by omega))
          have HS : Hid (u8s (secJ l k (j + 1)) = u8s (secJ l k j) ++ [.int .u8 ((polyJ l k j).getD 0 0 : Nat)]) := Lib.hid (by rw [secJ_snoc, u8s, List.map_append]; rfl)
          clear hOK hpl0 hpc hb6
          go_wp2_with (at_builtin; refine wpList_push elB_u8 (.tmp 91) (.tmp 95) rfl rfl w.heap.size j _ rfl HO4.out rfl rfl (one_cell1 rfl) (by omega) (by decide) (by omega) ?_; intro v8 w8 hown8 hb8 _)
          exact ⟨⟨j + 1, hlt, by go_num, by rw [HS.out]; exact hown8, bw6.trans hb8, HALL2.out⟩, by simp [intOf]; omega⟩
    · have hlt' : ¬ (j : Int) < (len : Int) := by omega
      obtain rfl : j = len := by omega
      go_wp2_with fail
      go_ret2
      rw [HALL.out]
      show RetES w 0 (secJ l k j) _ _
      exact RetES.own HO.out hbw
end Go.Proofs.Ythmooplhhkafcaa
