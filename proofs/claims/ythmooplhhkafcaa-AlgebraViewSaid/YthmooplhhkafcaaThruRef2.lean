/- The contract of Through of the reference. Conditions: as the statement says. -/
import Derived.Test.YthmooplhhkafcaaThruRef
namespace Go.Proofs.Ythmooplhhkafcaa
open Go.RowKit
set_option linter.unusedVariables false
/-- The places but one among the first k. -/
def oth (ps : List (Nat × Nat)) (i k : Nat) : List Nat := ((ps.take k).eraseIdx i).map (·.1)
theorem oth_skip (ps : List (Nat × Nat)) (i : Nat) (h : i < ps.length) : oth ps i (i + 1) = oth ps i i := by
  unfold oth
  rw [take_snoc _ _ h, List.eraseIdx_append_of_length_le (by simp; omega), List.eraseIdx_of_length_le (l := ps.take i) (by simp; omega)]
  simp [Nat.min_eq_left (Nat.le_of_lt h)]
theorem oth_snoc (ps : List (Nat × Nat)) (i k : Nat) (h : k < ps.length) (hne : k ≠ i) : oth ps i (k + 1) = oth ps i k ++ [(ps[k]).1] := by
  unfold oth
  rw [take_snoc _ _ h]
  rcases Nat.lt_or_ge i k with h1 | h1
  · rw [List.eraseIdx_append_of_lt_length (by simp; omega), List.map_append]; rfl
  · rw [List.eraseIdx_of_length_le (l := ps.take k ++ [ps[k]]) (by simp; omega), List.eraseIdx_of_length_le (l := ps.take k) (by simp; omega), List.map_append]; rfl
theorem oth_all (ps : List (Nat × Nat)) (i : Nat) : oth ps i ps.length = others ps i := by unfold oth others; rw [List.take_length]
theorem oth_len (ps : List (Nat × Nat)) (i k : Nat) (hk : k ≤ ps.length) : (oth ps i k).length ≤ k := by
  unfold oth; rw [List.length_map]
  exact Nat.le_trans (List.length_eraseIdx_le _ _) (by simp; omega)
theorem oth_bytes {ps : List (Nat × Nat)} (hb : PtB ps) (i k : Nat) : Bytes (oth ps i k) := fun y hy => by
  obtain ⟨p, hp, rfl⟩ := List.mem_map.1 hy
  exact (hb p (List.mem_of_mem_take (List.mem_of_mem_eraseIdx hp))).1
/-- The sum, written to the first k places. -/
def mixK (o a : List Nat) (k : Nat) : List Nat := (addP o a).take k ++ o.drop k
theorem mixK_len (o a : List Nat) (k : Nat) (h : o.length = a.length) (hk : k ≤ o.length) : (mixK o a k).length = o.length := by simp [mixK, addP_len _ _ h]; omega
theorem mixK_get (o a : List Nat) (k : Nat) (h : o.length = a.length) (hk : k < o.length) : (mixK o a k)[k]? = some o[k] := by
  unfold mixK
  rw [List.getElem?_append_right (by simp [addP_len _ _ h]; omega)]
  simp [addP_len _ _ h, Nat.min_eq_left (Nat.le_of_lt hk), hk]
theorem mixK_set (o a : List Nat) (k : Nat) (h : o.length = a.length) (hk : k < o.length) : (mixK o a k).set k (o[k] ^^^ a[k]'(by omega)) = mixK o a (k + 1) := by
  unfold mixK
  rw [List.set_append_right _ _ (by simp [addP_len _ _ h]; omega)]
  have e : (addP o a).take (k + 1) = (addP o a).take k ++ [o[k] ^^^ a[k]'(by omega)] := by
    rw [take_snoc _ _ (by rw [addP_len _ _ h]; exact hk)]; simp [addP]
  rw [e, List.append_assoc]
  simp only [List.length_take, addP_len _ _ h, Nat.min_eq_left (Nat.le_of_lt hk), Nat.sub_self]
  rw [List.drop_eq_getElem_cons hk, List.set_cons_zero]
  rfl
theorem mixK_all (o a : List Nat) (h : o.length = a.length) : mixK o a o.length = addP o a := by
  unfold mixK
  rw [List.take_of_length_le (by rw [addP_len _ _ h]; exact Nat.le_refl _), List.drop_length, List.append_nil]
theorem mixK_zero (o a : List Nat) : mixK o a 0 = o := by simp [mixK]
theorem refInv_8 (a : Nat) (ha : a < 256) (w : World) : Calls Try.prog 90 #[.int .i64 8, .int .u64 a] w fun e w' => e = .returned (.int .u64 (inv 8 a)) ∧ w = w' := refInverse_any 8 (.inl rfl) a ha w
set_option maxRecDepth 100000 in
set_option maxHeartbeats 4000000 in
theorem Through_any (A A' : Option Addr) (n c c' : Nat) (ps : List (Nat × Nat)) (w : World) (hn : n ≤ 20) (hb : PtB ps) (hl : ps.length = n) (h : Rd w w.heap.size 1 A n (u8s (ps.map (·.1)))) (h' : Rd w w.heap.size 1 A' n (u8s (ps.map (·.2)))) :
    Calls Try.prog 63 #[.slice A n c, .slice A' n c'] w (RetOwn w 5 1 n (u8s (throughL ps)) id) := by
  have H := Lib.hid h; have H' := Lib.hid h'; have HB := Lib.hid hb; have HL := Lib.hid hl
  clear h h' hb hl
  have hmk := fun w => make_u8 w n (by omega)
  go_enter Try.func63, Try.ntmps63
  go_wp2_with fail
  clear hmk
  go_loopw [6] (fun vi wr => ∃ i : Nat, i ≤ n ∧ vi = .int .i64 i ∧ wr.heap[w.heap.size]? = some (.cells (u8s (lagS ps i)).toArray 5 (0, 0)) ∧ Below w.heap.size w wr) (fun vi _ => n - (intOf vi).toNat)
  case atStart => exact ⟨0, Nat.zero_le _, rfl, by rw [show u8s (lagS ps 0) = List.replicate n (.int .u8 0) by simp [lagS, u8s, HL.out]]; simpa using heap_alloc_new w _, (Below.refl _ _).alloc (Nat.le_refl _) _⟩
  case round =>
    obtain ⟨wp, rfl⟩ : ∃ wp : World, wp = wr := ⟨_, rfl⟩
    obtain ⟨i, hi, rfl, hblk, hbw⟩ := hrel
    have HBK := Lib.hid hblk
    have hsz : w.heap.size < wp.heap.size := (Array.getElem?_eq_some_iff.1 hblk).1
    clear hblk
    by_cases hlt : i < n
    · have hlt' : (i : Int) < (n : Int) := by omega
      have hil : i < ps.length := by rw [HL.out]; exact hlt
      obtain ⟨b, off, rfl, hbb, hcx⟩ := H.out.2 (by omega)
      obtain ⟨b', off', rfl, hbb', hcy⟩ := H'.out.2 (by omega)
      have HCX : Hid (∀ j (h : j < ps.length), w.cell? ⟨b, off + j, none⟩ = some (.int .u8 (ps[j]).1)) := Lib.hid (fun j h => hcx j _ (by simp [u8s, h]))
      have HCY : Hid (w.cell? ⟨b', off' + i, none⟩ = some (.int .u8 (ps[i]).2)) := Lib.hid (hcy i _ (by simp [u8s, hil]))
      have hpi := HB.out _ (List.getElem_mem hil)
      have HXI := Lib.hid (HCX.out i hil)
      have hg : ps.getD i (0, 0) = ps[i] := by simp [List.getD, List.getElem?_eq_getElem hil]
      have HSTEP : Hid (lagS ps (i + 1) = addP (lagS ps i) (mulP (lagP (others ps i)) (gm 8 (ps[i]).2 (inv 8 (lagU (ps[i]).1 (others ps i)))))) := Lib.hid (by rw [lagS, hg]; rfl)
      clear hcx hcy hg
      obtain ⟨hxb, hyb⟩ := hpi
      generalize (ps[i]).1 = xi at HXI HSTEP hxb
      generalize (ps[i]).2 = yi at HCY HSTEP hyb
      go_wp2_with fail
      obtain ⟨w0, hw0⟩ : ∃ w0, w0 = wp.alloc (.cells #[.int .u8 1] 5) := ⟨_, rfl⟩
      have hB0 : Below wp.heap.size wp w0 := by rw [hw0]; exact (Below.refl _ _).alloc (Nat.le_refl _) _
      have hP0 := own_new wp #[.int .u8 1] 5 1 rfl (by omega)
      rw [← hw0] at hP0 ⊢
      have hsz0 : w0.heap.size = wp.heap.size + 1 := by rw [hw0]; simp
      have P0 : Hid (w0.ownsRow wp.heap.size 5 1 (.slice (some ⟨wp.heap.size, 0, none⟩) 1 1) 1 (u8s (lagP (oth ps i 0)))) := Lib.hid (by simpa [oth, lagP, u8s] using hP0)
      clear hP0 hw0
      go_loopw [7, 8, 9] (fun vp vu vk wr => ∃ (k m cp : Nat) (Ap : Option Addr), k ≤ n ∧ vk = .int .i64 k ∧ vp = .slice Ap m cp ∧ m ≤ cp ∧ m = (oth ps i k).length + 1 ∧ wr.ownsRow wp.heap.size 5 1 (.slice Ap m cp) m (u8s (lagP (oth ps i k))) ∧ vu = .int .u64 (lagU xi (oth ps i k)) ∧ Below wp.heap.size wp wr) (fun _ _ vk _ => n - (intOf vk).toNat)
      case atStart => exact ⟨0, 1, 1, _, Nat.zero_le _, rfl, rfl, Nat.le_refl _, by simp [oth], P0.out, by simp [oth, lagU], hB0⟩
      case round =>
        obtain ⟨k, m, cp, Ap, hk, rfl, rfl, hmc, hm, hrp, rfl, hb1⟩ := hrel
        have OP := Lib.hid hrp; have RP := Lib.hid (Rd.own hrp)
        have s1 := hb1.size
        have HMM := Lib.hid hm
        have hm21 : m ≤ 21 := by have := oth_len ps i k (by have := HL.out; omega); omega
        have hu := lagU_lt xi (oth ps i k)
        clear hrp hm
        by_cases hlk : k < n
        · have hlk' : (k : Int) < (n : Int) := by omega
          by_cases hki : k = i
          · have hki' : ((k : Int) != (i : Int)) = false := by subst hki; simp
            have HE : Hid (oth ps i (k + 1) = oth ps i k) := Lib.hid (by subst hki; exact oth_skip ps k hil)
            clear hki
            go_wp2_with fail
            exact ⟨⟨k + 1, m, cp, Ap, hlk, by go_num, rfl, hmc, by rw [HE.out]; exact HMM.out, by rw [HE.out]; exact OP.out, by rw [HE.out], hb1⟩, by simp [intOf]; omega⟩
          · have hki' : ((k : Int) != (i : Int)) = true := by simp only [bne_iff_ne, ne_eq]; omega
            have hkl : k < ps.length := by rw [HL.out]; exact hlk
            have HE : Hid (oth ps i (k + 1) = oth ps i k ++ [(ps[k]).1]) := Lib.hid (oth_snoc ps i k hkl hki)
            have bw1 := hbw.trans (hb1.mono (by omega))
            have hxk := (bw1.cell (p := ⟨b, off + k, none⟩) hbb).trans (HCX.out k hkl)
            have hxkb := (HB.out _ (List.getElem_mem hkl)).1
            have hpb := (lagP_all (oth ps i k) (oth_bytes HB.out i k)).2.1
            generalize (ps[k]).1 = xk at HE hxk hxkb
            clear hkl hki
            have HPB := Lib.hid hpb
            clear hpb
            go_wp2_with fail
            refine (times_ref Ap m cp xk (lagP (oth ps i k)) _ (by omega) hxkb HPB.out RP.out).mono ?_
            rintro e w2 ⟨A2, c2, rfl, hc2, hown2, hb2⟩
            have O2 := Lib.hid (ownsRow_mono hown2 s1); clear hown2
            have bw2 := bw1.trans (hb2.mono (by omega))
            have hxk2 := (hb2.cell (p := ⟨b, off + k, none⟩) (by simp only; omega)).trans hxk
            have hxi2 := (bw2.cell (p := ⟨b, off + i, none⟩) hbb).trans HXI.out
            try dsimp only [id]
            have hxx : xi ^^^ xk < 256 := xor8_lt hxb hxkb
            have hxw : Go.bits .xor .u8 (xi : Int) (xk : Int) = ((xi ^^^ xk : Nat) : Int) := u8_xor_nat _ _ (by omega) (by omega)
            have hww : IntKind.u64.wrap ((xi ^^^ xk : Nat) : Int) = ((xi ^^^ xk : Nat) : Int) := by rw [IntKind.wrap_u64]; omega
            have hsb2 := hb2.size
            have hb2' := hb2
            clear hb2 hxk RP
            go_wp2_with fail
            go_quiet ((go_at_call 89; with_reducible exact quiet_e (refMul_nat 8 (lagU xi (oth ps i k)) (xi ^^^ xk) isW8 hu hxx _)))
            go_wp2_with fail
            go_roundw
            case rel => exact ⟨k + 1, m + 1, c2, A2, hlk, by go_num, rfl, hc2, by rw [HE.out, List.length_append, List.length_singleton, ← HMM.out], by rw [HE.out, lagP_snoc]; exact ownsRow_below O2.out ((Qw.drewN (Qw.refl w2) nq).below _) (Nat.le_refl _), by rw [HE.out, lagU_snoc], (hb1.trans (hb2'.mono s1)).trans ((Qw.drewN (Qw.refl w2) nq).below _)⟩
            case measure => simp [intOf]; omega
        · have hlk' : ¬ (k : Int) < (n : Int) := by omega
          obtain rfl : k = n := by omega
          have hal : oth ps i k = others ps i := by rw [← oth_all, HL.out]
          have hmn : m = k := by have h1 := HMM.out; rw [hal, others_len hil, HL.out] at h1; omega
          rw [hal] at RP OP hu
          rw [hal]
          have hlp := (lagP_all (others ps i) (others_bytes HB.out i))
          have LPL : Hid ((lagP (others ps i)).length = k) := Lib.hid (by rw [hlp.1, others_len hil, HL.out]; omega)
          have LPB := Lib.hid hlp.2.1
          have LSA := Lib.hid (lagS_all HB.out i (by rw [HL.out]; exact hi))
          obtain ⟨C, hC⟩ : ∃ C, C = gm 8 yi (inv 8 (lagU xi (others ps i))) := ⟨_, rfl⟩
          rw [← hC] at HSTEP
          have hCl : C < 256 := by rw [hC]; exact gm8_lt hyb
          have bw1 := hbw.trans (hb1.mono (by omega))
          have hyi := (bw1.cell (p := ⟨b', off' + i, none⟩) hbb').trans HCY.out
          have hB1 : wr.heap[w.heap.size]? = some (.cells (u8s (mixK (lagS ps i) (mulP (lagP (others ps i)) C) 0)).toArray 5 (0, 0)) := by rw [mixK_zero]; exact (hb1.block _ hsz).trans HBK.out
          have hiv := inv_lt isW8 (lagU xi (others ps i))
          have hyw : IntKind.u64.wrap (yi : Int) = (yi : Int) := by rw [IntKind.wrap_u64]; omega
          have HCC := Lib.hid hC
          have HB1 := Lib.hid hB1
          subst hmn
          generalize lagU xi (others ps i) = U at hu HCC hiv
          generalize lagP (others ps i) = PL at RP OP LPL LPB HSTEP HB1
          generalize lagS ps i = LS at HSTEP LSA HB1 HBK
          clear hlp hal HMM hC hB1 hil
          go_wp2_with fail
          go_quiet ((first
            | (go_at_call 90; with_reducible exact quiet_e (refInv_8 U hu _))
            | (go_at_call 89; with_reducible exact quiet_e (refMul_nat 8 yi (inv 8 U) isW8 hyb hiv _))))
          rw [← HCC.out]
          clear HCC hiv hyw hyi
          go_wp2_with fail
          obtain ⟨w3, hw3⟩ : ∃ w3, w3 = wr.drewN nq := ⟨_, rfl⟩
          have hb3 : Below wr.heap.size wr w3 := by rw [hw3]; exact (Qw.drewN (Qw.refl wr) nq).below _
          have B3 := bw1.trans (hb3.mono (by omega))
          have R3 := Lib.hid (ownsRow_below OP.out hb3 (Nat.le_refl _))
          have BL3 : Hid (w3.heap[w.heap.size]? = some (.cells (u8s (mixK LS (mulP PL C) 0)).toArray 5 (0, 0))) := Lib.hid (by rw [hw3]; exact HB1.out)
          have hwz : w.heap.size < wr.heap.size := by omega
          rw [← hw3]
          clear hw3 RP OP HB1 hb1 hbw HBK
          go_loopw [11] (fun vk wx => ∃ k : Nat, k ≤ m ∧ vk = .int .i64 k ∧ wx.heap[w.heap.size]? = some (.cells (u8s (mixK LS (mulP PL C) k)).toArray 5 (0, 0)) ∧ Below w.heap.size w wx ∧ wx.ownsRow wp.heap.size 5 1 (.slice Ap m cp) m (u8s PL)) (fun vk _ => m - (intOf vk).toNat)
          case atStart => exact ⟨0, Nat.zero_le _, rfl, BL3.out, B3, R3.out⟩
          case round =>
            obtain ⟨k, hk, rfl, hbk, hbx, hpx⟩ := hrel
            by_cases hlk : k < m
            · have hlk2 : (k : Int) < (m : Int) := by omega
              have hkL : k < LS.length := by rw [LSA.out.1, HL.out]; exact hlk
              have hkP : k < PL.length := by rw [LPL.out]; exact hlk
              have hMl : LS.length = (mulP PL C).length := by rw [mulP_len, LPL.out, LSA.out.1, HL.out]
              obtain ⟨pb, po, rfl, hpb, hpc⟩ := (Rd.own hpx).2 (by omega)
              have cP : wr.cell? ⟨pb, po + k, none⟩ = some (.int .u8 (PL[k] : Nat)) := hpc k _ (by simp [u8s, hkP])
              have cO : wr.cell? ⟨w.heap.size, k, none⟩ = some (.int .u8 (LS[k] : Nat)) := by rw [cell_of_row _ _ _ _ _ _ hbk]; simp [u8s, mixK_get _ _ _ hMl hkL]
              have fO : wr.frozen? ⟨w.heap.size, k, none⟩ = false := by simp [World.frozen?, hbk]
              have HMS := Lib.hid (mixK_set LS (mulP PL C) k hMl hkL)
              have hmg : (mulP PL C)[k]'(by rw [mulP_len]; exact hkP) = gm 8 PL[k] C := by simp [mulP]
              rw [hmg] at HMS
              have hpl := LPB.out _ (List.getElem_mem hkP)
              have hls := LSA.out.2 _ (List.getElem_mem hkL)
              have HBX := Lib.hid hbk; have HPX := Lib.hid hpx
              clear hmg hbk hpx hpc
              generalize PL[k] = y at cP HMS hpl
              generalize LS[k] = z at cO HMS hls
              clear hkL hkP hMl
              have hgy : gm 8 y C < 256 := gm8_lt hpl
              have hwy : IntKind.u64.wrap (y : Int) = (y : Int) := by rw [IntKind.wrap_u64]; omega
              have hwg : IntKind.u8.wrap ((gm 8 y C : Nat) : Int) = ((gm 8 y C : Nat) : Int) := by rw [IntKind.wrap_u8]; omega
              go_wp2_with fail
              refine wp_region_quiet_tail 16 (by kernel_rfl) (by kernel_rfl) ?_
              simp only [List.take_succ_cons, List.take_zero, List.drop_succ_cons, List.drop_zero]
              repeat (quiet_step ((go_at_call 89; with_reducible exact quiet_e (refMul_nat 8 y C isW8 hpl hCl _))))
              refine wpQuiet_nil ?_
              intro _ hw'
              obtain ⟨nr, hw''⟩ := hw'
              subst hw''
              go_wp2_with fail
              rw [u8_xor_nat _ _ (by omega) (by omega)]
              go_roundw
              case rel =>
                refine ⟨k + 1, hlk, by go_num, by rw [← HMS.out]; exact row_set (w := wr.drewN nr) HBX.out k _ _ rfl, (hbx.trans ((Qw.drewN (Qw.refl wr) nr).below _)).setCell (Nat.le_refl _) _, ?_⟩
                exact ownsRow_grown (r := some w.heap.size) HPX.out (grown_set (grown_drewN (World.grownBy.refl _ _) nr) k _) (fun g hg e => by have h1 := (HPX.out.lt g hg).1; have h2 := Option.some.inj e; omega)
              case measure => simp [intOf]; omega
            · have hlk2 : ¬ (k : Int) < (m : Int) := by omega
              obtain rfl : k = m := by omega
              have hbk2 := hbk
              have hMl : LS.length = (mulP PL C).length := by rw [mulP_len, LPL.out, LSA.out.1, HL.out]
              rw [show mixK LS (mulP PL C) k = lagS ps (i + 1) by rw [HSTEP.out, ← mixK_all _ _ hMl, LSA.out.1, HL.out]] at hbk2
              have HBX := Lib.hid hbk2
              clear hbk hbk2 hMl
              go_wp2_with fail
              exact ⟨⟨i + 1, hlt, by go_num, HBX.out, hbx⟩, by simp [intOf]; omega⟩
    · have hlt' : ¬ (i : Int) < (n : Int) := by omega
      obtain rfl : i = n := by omega
      have hr := HBK.out
      rw [show lagS ps i = throughL ps by unfold throughL; rw [HL.out]] at hr
      have hlen := (lagS_all HB.out ps.length (Nat.le_refl _)).1
      have HLN : Hid ((throughL ps).length = i) := Lib.hid (by unfold throughL; rw [hlen, HL.out])
      have HR := Lib.hid hr
      clear hr hlen
      go_wp2_with fail
      go_ret
      exact RetOwn.of (mk := id) (own_of_row HR.out (by simp [u8s, HLN.out]) (Nat.le_refl _) (by unfold maxLen; omega)) hbw
end Go.Proofs.Ythmooplhhkafcaa
