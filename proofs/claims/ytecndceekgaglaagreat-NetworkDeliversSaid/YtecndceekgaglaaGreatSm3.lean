/- The contract of Small. Conditions: as the statement says. -/
import Derived.Test.YtecndceekgaglaaGreatNet35
import Derived.Laws.Rows
namespace Go.Proofs.YtecndceekgaglaaGreat
open Go.RowKit
set_option linter.unusedVariables false
theorem lit64 : (#[.int .i64 0, .int .i64 0, .int .i64 0, .int .i64 0, .int .i64 0, .int .i64 0, .int .i64 0, .int .i64 0, .int .i64 0, .int .i64 0, .int .i64 0, .int .i64 0, .int .i64 0, .int .i64 0, .int .i64 0, .int .i64 0, .int .i64 0, .int .i64 0, .int .i64 0, .int .i64 0, .int .i64 0, .int .i64 0, .int .i64 0, .int .i64 0, .int .i64 0, .int .i64 0, .int .i64 0, .int .i64 0, .int .i64 0, .int .i64 0, .int .i64 0, .int .i64 0, .int .i64 0, .int .i64 0, .int .i64 0, .int .i64 0, .int .i64 0, .int .i64 0, .int .i64 0, .int .i64 0, .int .i64 0, .int .i64 0, .int .i64 0, .int .i64 0, .int .i64 0, .int .i64 0, .int .i64 0, .int .i64 0, .int .i64 0, .int .i64 0, .int .i64 0, .int .i64 0, .int .i64 0, .int .i64 0, .int .i64 0, .int .i64 0, .int .i64 0, .int .i64 0, .int .i64 0, .int .i64 0, .int .i64 0, .int .i64 0, .int .i64 0, .int .i64 0] : Array Value) = stV (List.replicate 64 0) := rfl
def SmallP (l : List PrN) (w : World) (e : Ending) (w' : World) : Prop := ∃ N bn bl, e = .returned (.tuple #[.pointer (some ⟨N, 0, none⟩), .agg (stV (smallG l).2), .bool true]) ∧ NetNew w (smallG l).1 N bn bl w'
theorem NetNew.blk {w : World} {s : NS} {N bn bl : Nat} {W W' : World} {L : List Nat} {b : Nat} {cs : Array Value} {t : TypeId} (h : NetNew w s N bn bl W) (hk : KeepL L W W') (hL : L = [bn] ∨ L = [bl]) (hb : Bk W b cs t) : Bk W' b cs t := by
  rcases hL with rfl | rfl
  · exact hb.keepL hk (by simpa using hb.nmapL h.1.nodes)
  · exact hb.keepL hk (by simpa using hb.nmapL h.1.links)
theorem smT_comm (st : List Int) (a b : Nat) (v : Int) : (st.set (b * 8 + a) v).set (a * 8 + b) v = smT st a b v := by
  unfold smT
  by_cases h : a * 8 + b = b * 8 + a
  · rw [h]
  · rw [List.set_comm _ _ (fun e => h e.symm)]
theorem results_tct {fn : Func} {p q r : Tmp} {ty : TypeId} (h : fn.results = #[.tmp p, .cell q ty, .tmp r]) (tmps : Array Value) (w : World) (g : Nat) (v : Value)
    (hp : tmps.getD q undef = .pointer (some ⟨g, 0, none⟩)) (hrun : (loadVar ty ⟨g, 0, none⟩).run Tryz.prog w = .ok v w) :
    (results fn tmps).run Tryz.prog w = .ok (.tuple #[tmps.getD p undef, v, tmps.getD r undef]) w := by
  have hp' : tmps[q]?.getD undef = .pointer (some ⟨g, 0, none⟩) := by simpa using hp
  simp [results, h, hp', asAddr, hrun]
theorem keepL_setRow (w : World) (g : Nat) (cs : Array Value) : KeepL [g] w (w.setRow g cs) := ⟨rfl, rfl, rfl, by simp [World.setRow], fun k hk hL => by
  simp only [World.setRow, Array.getElem?_modify]
  rw [if_neg (fun e => hL (by simp [e]))]⟩
theorem stV_one (st : List Int) : (stV st).all (·.oneCell') = true := by
  unfold stV
  rw [Array.all_eq_true']
  intro x hx
  simp only [List.mem_toArray, List.mem_map] at hx
  obtain ⟨i, _, rfl⟩ := hx
  rfl
theorem table_twice {w : World} {b : Nat} {cs : Array Value} {t : TypeId} (h : Bk w b cs t) (i j : Nat) (u : Value) : KeepL [b] w ((w.setCell ⟨b, i, none⟩ u).setCell ⟨b, j, none⟩ u).drew := ((KeepL.set _ _ _ _).trans (KeepL.set _ _ _ _)).trans (KeepL.q ⟨1, rfl⟩)
theorem Bk.tne {w : World} {b : Nat} {cs cs' : Array Value} {t t' : TypeId} (h : Bk w b cs t) (h' : Bk w b cs' t') : t' = t := by
  unfold Bk at h h'
  rw [h] at h'
  simp at h'
  exact h'.2.symm
theorem NetNew.table {w : World} {s : NS} {N bn bl b : Nat} {W W' : World} {cs : Array Value} (h : NetNew w s N bn bl W) (hb : Bk W b cs 26) (hk : KeepL [b] W W') (hle : w.heap.size ≤ b) : NetNew w s N bn bl W' := by
  have hc : CK (fun t => t ≠ 26) W W' := CK.keepL hk (fun k hk' cs' t ht hx => by
    rw [List.mem_singleton] at hk'
    subst hk'
    exact ht (hb.tne hx))
  obtain ⟨⟨h1, h2, h3, h4, h5, h6, h7⟩, h8, h9⟩ := h
  refine ⟨⟨hc _ _ _ (by decide) h1, h2.keep (hk.block _ h2.lt (by simpa using (hb.nmapL h2).symm)), h3.keep (hk.block _ h3.lt (by simpa using (hb.nmapL h3).symm)), h4.ck hc (by decide) (by decide), h5.ck hc (by decide) (by decide) (by decide) (by decide) (by decide), h6, h7⟩, h8.trans (hk.below h8.size (by simpa using hle)), h9⟩
theorem names_fact {W W' : World} (h : W' = W.alloc (.cells n8V 9)) : (∀ a, a < 8 → W'.cell? ⟨W.heap.size, a, none⟩ = some (encS (nm a))) ∧ Below W.heap.size W W' := by
  subst h
  exact ⟨fun a ha => n8_cell W a ha, below_alloc _ _⟩
/-- The state of Small behind k links. -/
structure SmS (w : World) (l : List PrN) (N bn bl k : Nat) (W : World) : Prop where
  net : NetNew w ((l.take k).foldl smallStep (smN 8, List.replicate 64 0)).1 N bn bl W
  tab : Bk W (w.heap.size + 1) (stV ((l.take k).foldl smallStep (smN 8, List.replicate 64 0)).2) 26
  res : Bk W w.heap.size (stV (List.replicate 64 0)) 26
theorem SmS.far {w : World} {l : List PrN} {N bn bl k : Nat} {W W' : World} (h : SmS w l N bn bl k W) (hb : Below W.heap.size W W') : SmS w l N bn bl k W' := ⟨h.net.far hb, h.tab.past hb h.tab.lt, h.res.past hb h.res.lt⟩
set_option maxRecDepth 100000 in
set_option maxHeartbeats 8000000 in
theorem Small_any {w : World} {B n c : Nat} {A : Option Addr} (l : List PrN) (hr : Rd w B 3 A n (prCells l)) (hB : B ≤ w.heap.size) (hn : n ≤ 9223372036854775807) (hl : ∀ p ∈ l, p.a < 256 ∧ p.b < 256 ∧ p.bits < 256) :
    Calls Tryz.prog 7 #[.slice A n c] w (SmallP l w) := by
  have hln : l.length = n := by
    have := hr.1
    have e : ∀ l : List PrN, (prCells l).length = l.length * 3 := fun l => by
      induction l with
      | nil => rfl
      | cons a l ih => simp only [prCells, List.flatMap_cons, List.length_append, List.length_cons, List.length_nil] at ih ⊢; omega
    rw [e] at this; omega
  have HR := Lib.hid hr; have HL := Lib.hid hl
  have HB := Lib.hid hB
  clear hr hl hB
  go_enter Tryz.func7, Tryz.ntmps7
  go_wp2_with fail
  obtain ⟨w1, hw1⟩ : ∃ z, z = (w.alloc (.cells (stV (List.replicate 64 0)) 26)).alloc (.cells (stV (List.replicate 64 0)) 26) := ⟨_, rfl⟩
  have HW1 : Hid (Bk w1 w.heap.size (stV (List.replicate 64 0)) 26 ∧ Bk w1 (w.heap.size + 1) (stV (List.replicate 64 0)) 26 ∧ Below w.heap.size w w1) := Lib.hid (by
    rw [hw1]
    obtain ⟨k0, k1⟩ := boxes2 w (stV (List.replicate 64 0)) (stV (List.replicate 64 0)) 26 26
    exact ⟨k0, k1, alloc2_below _ _ _⟩)
  rw [lit64]
  rw [← hw1]
  clear hw1
  refine (newNet_any _).mono ?_
  rintro e w2 ⟨rfl, rfl⟩
  have HI : Hid (NetNew w ns0 (w1.heap.size + 1 + 1) w1.heap.size (w1.heap.size + 1) (newW w1) ∧ Bk (newW w1) w.heap.size (stV (List.replicate 64 0)) 26 ∧ Bk (newW w1) (w.heap.size + 1) (stV (List.replicate 64 0)) 26) := Lib.hid
    ⟨⟨new_at w1, bnextK HW1.out.2.2 (newW_below w1), HW1.out.2.2.size, by have := HW1.out.2.2.size; omega, by have := HW1.out.2.2.size; omega⟩, HW1.out.1.past (newW_below w1) HW1.out.1.lt, HW1.out.2.1.past (newW_below w1) HW1.out.2.1.lt⟩
  obtain ⟨w2, hw2⟩ : ∃ z, z = newW w1 := ⟨_, rfl⟩
  rw [← hw2] at HI ⊢
  clear hw2 HW1
  generalize hN : w1.heap.size + 1 + 1 = N at HI ⊢
  generalize hbl : w1.heap.size + 1 = bl at HI
  generalize hbn : w1.heap.size = bn at HI
  clear hN hbn hbl
  go_wp2_with fail
  go_loopw [7] (fun i wr => ∃ k : Nat, k ≤ 8 ∧ i = .int .i64 k ∧ NetNew w (smN k) N bn bl wr ∧ Bk wr w.heap.size (stV (List.replicate 64 0)) 26 ∧ Bk wr (w.heap.size + 1) (stV (List.replicate 64 0)) 26) (fun i _ => 8 - (intOf i).toNat)
  case atStart => exact ⟨0, by omega, rfl, HI.out⟩
  case round =>
    obtain ⟨k, hk, rfl, hn1, hn2, hn3⟩ := hrel
    obtain ⟨wa, rfl⟩ : ∃ z : World, z = wr := ⟨_, rfl⟩
    have HN := Lib.hid hn1; have HT := Lib.hid hn2; have HU := Lib.hid hn3
    clear hn1 hn2 hn3 HI
    by_cases hlt : k < 8
    · have hki : (k : Int) < 8 := by omega
      have hc := n8_cell wa k hlt
      have HBA := Lib.hid (below_alloc wa (.cells n8V 9))
      obtain ⟨w3, hw3⟩ : ∃ z, z = wa.alloc (.cells n8V 9) := ⟨_, rfl⟩
      rw [← hw3] at hc HBA
      have HW3 := Lib.hid hw3
      clear hw3
      have HN3 := Lib.hid (HN.out.far HBA.out)
      have HT3 := Lib.hid (HT.out.past HBA.out HT.out.lt); have HU3 := Lib.hid (HU.out.past HBA.out HU.out.lt)
      have HP := Lib.hid (Node_any HN3.out.1 (nm k) (by have := (named_len (nm_named k hlt)).2; unfold maxLen; omega))
      have HST := Lib.hid (smN_step k hlt)
      have HSS : Hid (nodeS (smN k) (nm k) = smN (k + 1)) := Lib.hid (by unfold nodeS; rw [if_pos (smN_step k hlt)]; rfl)
      generalize nm k = y at *
      go_wp2_with fail
      refine (names_any _).mono ?_
      rintro e w4 ⟨rfl, rfl⟩
      rw [← HW3.out]
      clear HW3
      go_wp2_with fail
      refine HP.out.mono ?_
      clear HP
      rintro e w4 hp
      have HQ := Lib.hid (HN3.out.node hp)
      rw [HSS.out] at HQ
      have HT4 := Lib.hid (HN3.out.blk HQ.out.2 (.inl rfl) HT3.out); have HU4 := Lib.hid (HN3.out.blk HQ.out.2 (.inl rfl) HU3.out)
      obtain ⟨z, hz, rfl⟩ := hp.1
      rw [HST.out] at hz
      subst hz
      clear hp
      go_wp2_with fail
      go_roundw
      case rel => exact ⟨k + 1, by omega, by go_num, HQ.out.1, HT4.out, HU4.out⟩
      case measure => simp [intOf]; omega
    · have hki : ¬ (k : Int) < 8 := by omega
      obtain rfl : k = 8 := by omega
      have HS0 : Hid (SmS w l N bn bl 0 wa) := Lib.hid ⟨HN.out, HU.out, HT.out⟩
      clear HN HU HT
      go_wp2_with fail
      go_loopg [8, 9, 10, 11] (n + 1) (fun g i _ _ _ wr => ∃ k : Nat, k ≤ n ∧ k ≤ 60 ∧ n - k < g ∧ i = .int .i64 k ∧ SmS w l N bn bl k wr)
      case atStart => exact ⟨0, by omega, by omega, by omega, rfl, HS0.out⟩
      case round =>
        obtain ⟨k, hkn, hk60, hgk, rfl, hs⟩ := hrel
        obtain ⟨g', rfl⟩ : ∃ g', gk = g' + 1 := ⟨gk - 1, by omega⟩
        obtain ⟨wi, rfl⟩ : ∃ z : World, z = wr := ⟨_, rfl⟩
        have HS := Lib.hid hs
        clear hs HS0
        by_cases hlt : k < n
        · have hki : (k : Int) < (n : Int) := by omega
          by_cases hlt2 : k < 60
          · have hki2 : (k : Int) < 60 := by omega
            have hkl : k < l.length := by omega
            obtain ⟨b0, off, rfl, hb0, hcell⟩ := HR.out.2 (by omega)
            have hlow := HS.out.net.2.1
            obtain ⟨q0, q1, q2⟩ := prCells_get l k hkl
            have c0 := (hlow.cell (p := ⟨b0, off + k * 3, none⟩) (by have := HB.out; show b0 < _; omega)).trans (hcell _ _ q0)
            have c1 := (hlow.cell (p := ⟨b0, off + k * 3 + 1, none⟩) (by have := HB.out; show b0 < _; omega)).trans (hcell (k * 3 + 1) _ q1)
            have c2 := (hlow.cell (p := ⟨b0, off + k * 3 + 2, none⟩) (by have := HB.out; show b0 < _; omega)).trans (hcell (k * 3 + 2) _ q2)
            obtain ⟨l1, l2, l3⟩ := HL.out l[k] (List.getElem_mem hkl)
            have HX : Hid ((l.take (k + 1)).foldl smallStep (smN 8, List.replicate 64 0) = smallStep ((l.take k).foldl smallStep (smN 8, List.replicate 64 0)) l[k]) := Lib.hid (by
              rw [List.take_succ_eq_append_getElem hkl, List.foldl_append]; rfl)
            generalize l[k] = p at c0 c1 c2 l1 l2 l3 HX
            obtain ⟨pa, pb, pv⟩ := p
            simp only at c0 c1 c2 l1 l2 l3
            clear hcell hlow q0 q1 q2
            have hps : smallStep ((l.take k).foldl smallStep (smN 8, List.replicate 64 0)) ⟨pa, pb, pv⟩ = if pa % 8 = pb % 8 ∨ 0 < stG ((l.take k).foldl smallStep (smN 8, List.replicate 64 0)).2 (pa % 8) (pb % 8) then (l.take k).foldl smallStep (smN 8, List.replicate 64 0) else (smL ((l.take k).foldl smallStep (smN 8, List.replicate 64 0)).1 (pa % 8) (pb % 8) (1 + (pv : Int)), smT ((l.take k).foldl smallStep (smN 8, List.replicate 64 0)).2 (pa % 8) (pb % 8) (1 + (pv : Int))) := rfl
            rw [hps] at HX
            have ra : Int.tmod (pa : Int) 8 = ((pa % 8 : Nat) : Int) := by rw [Int.tmod_eq_emod_of_nonneg (by omega)]; omega
            have rb : Int.tmod (pb : Int) 8 = ((pb % 8 : Nat) : Int) := by rw [Int.tmod_eq_emod_of_nonneg (by omega)]; omega
            have ha8 : pa % 8 < 8 := Nat.mod_lt _ (by omega)
            have hb8 : pb % 8 < 8 := Nat.mod_lt _ (by omega)
            clear hps
            generalize pa % 8 = a at HX ra ha8
            generalize pb % 8 = b at HX rb hb8
            obtain ⟨v, hv⟩ : ∃ v : Int, v = 1 + (pv : Int) := ⟨_, rfl⟩
            rw [← hv] at HX
            have hv1 : 1 ≤ v ∧ v ≤ 256 := by omega
            have hai : (a : Int) < 8 := by omega
            have hbi : (b : Int) < 8 := by omega
            have hsm : SmI ((l.take k).foldl smallStep (smN 8, List.replicate 64 0)).1 ((l.take k).foldl smallStep (smN 8, List.replicate 64 0)).2 := fold_small _ _ SmI.start (fun p hp => (HL.out p (List.mem_of_mem_take hp)).2.2)
            obtain ⟨⟨sN, st⟩, hx⟩ : ∃ x, x = (l.take k).foldl smallStep (smN 8, List.replicate 64 0) := ⟨_, rfl⟩
            obtain ⟨hnet, htab, hres⟩ := HS.out
            rw [← hx] at HX hsm hnet htab
            simp only at HX hsm hnet htab
            have HXX := Lib.hid hx
            have HSM := Lib.hid hsm; have HNT := Lib.hid hnet; have HTB := Lib.hid htab; have HRS := Lib.hid hres
            have HV := Lib.hid hv
            clear hx hsm hnet htab hres HS
            have hv2 : (1 : Int) + (pv : Int) = v := hv.symm
            clear hv
            have ct : wi.cell? ⟨w.heap.size + 1, a * 8 + b, none⟩ = some (.int .i64 (stG st a b)) := by
              rw [HTB.out.cell, stV_get _ _ (by rw [HSM.out.len]; omega)]; rfl
            have HSKIP : Hid (a = b ∨ 0 < stG st a b → ∀ W, Below wi.heap.size wi W → SmS w l N bn bl (k + 1) W) := Lib.hid fun h W hW => SmS.far (W := wi) ⟨by rw [HX.out, if_pos h]; exact HNT.out, by rw [HX.out, if_pos h]; exact HTB.out, HRS.out⟩ hW
            by_cases hab : a = b
            · have hq : ((a : Int) == (b : Int)) = true := by simp [hab]
              go_wp2_with fail
              go_quiet (fail)
              go_wp2_with fail
              go_roundg g'
              case measure => omega
              case rel => exact ⟨k + 1, by omega, by omega, by omega, by go_num, HSKIP.out (.inl hab) _ (Qw.below ⟨_, rfl⟩ _)⟩
            · have hq : ((a : Int) == (b : Int)) = false := by simp; omega
              by_cases hp0 : 0 < stG st a b
              · generalize stG st a b = sv at *
                go_wp2_with fail
                go_quiet (fail)
                go_wp2_with fail
                go_roundg g'
                case measure => omega
                case rel => exact ⟨k + 1, by omega, by omega, by omega, by go_num, HSKIP.out (.inr hp0) _ (Qw.below ⟨_, rfl⟩ _)⟩
              · have hz0 : stG st a b = 0 := by have := HSM.out.nonneg ha8 hb8; omega
                rw [hz0] at ct
                obtain ⟨hle, hnot⟩ := HSM.out.linkE ha8 hb8 hab hz0 v hv1
                have HLE := Lib.hid hle
                have HLS : Hid (linkS sN (nm a) (nm b) v v 0 0 = smL sN a b v) := Lib.hid (by unfold linkS; rw [if_pos hle]; rfl)
                have HX2 : Hid ((l.take (k + 1)).foldl smallStep (smN 8, List.replicate 64 0) = (smL sN a b v, smT st a b v)) := Lib.hid (by rw [HX.out, if_neg (by rw [not_or]; exact ⟨hab, hp0⟩)])
                have HLA : Hid ((nm a).length ≤ maxLen) := Lib.hid (by have := (named_len (nm_named a ha8)).2; unfold maxLen; omega)
                have HLB : Hid ((nm b).length ≤ maxLen) := Lib.hid (by have := (named_len (nm_named b hb8)).2; unfold maxLen; omega)
                clear hp0 hle hnot HSKIP hz0
                go_wp2_with fail
                go_quiet (fail)
                go_wp2_with fail
                have HNT0 := Lib.hid (HNT.out.far (Qw.below (⟨nq, rfl⟩ : Qw wi (wi.drewN nq)) _))
                have HTB0 : Hid (Bk (wi.drewN nq) (w.heap.size + 1) (stV st) 26) := Lib.hid HTB.out
                have HRS0 : Hid (Bk (wi.drewN nq) w.heap.size (stV (List.replicate 64 0)) 26) := Lib.hid HRS.out
                clear ct c0 c1 c2
                generalize wi.drewN nq = w0 at HNT0 HTB0 HRS0 ⊢
                have HNT0 := Lib.hid (HNT0.out.far (Qw.below (⟨1, rfl⟩ : Qw w0 w0.drew) _))
                have HTB0 : Hid (Bk w0.drew (w.heap.size + 1) (stV st) 26) := Lib.hid HTB0.out
                have HRS0 : Hid (Bk w0.drew w.heap.size (stV (List.replicate 64 0)) 26) := Lib.hid HRS0.out
                go_cut [8, 9, 10, 11, 80] from 25 to 91 (fun v8 v9 v10 v11 v80 wc => v8 = .int .i64 k ∧ v9 = .int .i64 a ∧ v10 = .int .i64 b ∧ v11 = .int .i64 v ∧ v80 = .bool false ∧ NetNew w (smL sN a b v) N bn bl wc ∧ Bk wc (w.heap.size + 1) (stV st) 26 ∧ Bk wc w.heap.size (stV (List.replicate 64 0)) 26)
                case first =>
                  refine wp_region_held_drew (S := (fun _ => True)) (by kernel_rfl) ?_ (fun hHeld => ?_)
                  · (try dsimp only); all_goals trivial
                  refine wpAnyH_take (i := 0) (oi := ⟨some 67, _, _, _, _, _⟩) (v := ?_) rfl (by kernel_rfl) (by kernel_rfl) (by kernel_rfl) (fun _ _ _ h => h) (Or.inl ⟨by rfl, ?_⟩) (by assumption) ?_
                  rotate_left
                  · (intro w hSw; (try dsimp only at hSw); go_simp; try with_reducible rfl)
                  try simp only [Act.put, List.setIfInBounds_toArray, List.set_cons_zero, List.set_cons_succ]
                  refine wpAnyH_take (i := 2) (oi := ⟨some 69, _, _, _, _, _⟩) (v := ?_) rfl (by kernel_rfl) (by kernel_rfl) (by kernel_rfl) (fun _ _ _ h => h) (Or.inl ⟨by rfl, ?_⟩) (by assumption) ?_
                  rotate_left
                  · (intro w hSw; (try dsimp only at hSw); go_simp; try with_reducible rfl)
                  try simp only [Act.put, List.setIfInBounds_toArray, List.set_cons_zero, List.set_cons_succ]
                  refine wpAnyH_take (i := 6) (oi := ⟨some 73, _, _, _, _, _⟩) (v := ?_) rfl (by kernel_rfl) (by kernel_rfl) (by kernel_rfl) (fun _ _ _ h => h) (Or.inl ⟨by rfl, ?_⟩) (by assumption) ?_
                  rotate_left
                  · (intro w hSw; (try dsimp only at hSw); go_simp; try with_reducible rfl)
                  try simp only [Act.put, List.setIfInBounds_toArray, List.set_cons_zero, List.set_cons_succ]
                  refine wpAnyH_take (i := 9) (oi := ⟨some 76, _, _, _, _, _⟩) (v := ?_) rfl (by kernel_rfl) (by kernel_rfl) (by kernel_rfl) (fun _ _ _ h => h) (Or.inl ⟨by rfl, ?_⟩) (by assumption) ?_
                  rotate_left
                  · (intro w hSw; (try dsimp only at hSw); go_simp; try with_reducible rfl)
                  try simp only [Act.put, List.setIfInBounds_toArray, List.set_cons_zero, List.set_cons_succ]
                  refine wpAnyH_take (i := 10) (oi := ⟨some 77, _, _, _, _, _⟩) (v := ?_) rfl (by kernel_rfl) (by kernel_rfl) (by kernel_rfl) (fun _ _ _ h => h) (Or.inl ⟨by rfl, ?_⟩) (by assumption) ?_
                  rotate_left
                  · (intro w hSw; (try dsimp only at hSw); go_simp; try with_reducible rfl)
                  try simp only [Act.put, List.setIfInBounds_toArray, List.set_cons_zero, List.set_cons_succ]
                  refine wpAnyH_take (i := 11) (oi := ⟨some 78, _, _, _, _, _⟩) (v := ?_) rfl (by kernel_rfl) (by kernel_rfl) (by kernel_rfl) (fun _ _ _ h => h) (Or.inl ⟨by rfl, ?_⟩) (by assumption) ?_
                  rotate_left
                  · (intro w hSw; (try dsimp only at hSw); go_simp; try with_reducible rfl)
                  try simp only [Act.put, List.setIfInBounds_toArray, List.set_cons_zero, List.set_cons_succ]
                  refine wpAnyH_ready (rs := [1]) (by kernel_rfl) (by simp) ?_
                  refine AllReadyH.cons (o := ⟨some 68, _, _, _, _, _⟩) rfl (fun K hK => ?_) AllReadyH.nil
                  go_simp
                  refine (names_any _).mono ?_
                  rintro e w3 ⟨rfl, hw3⟩
                  obtain ⟨f3, b3⟩ := names_fact hw3
                  have x3 : w3.cell? ⟨w0.heap.size, a, none⟩ = some (encS (nm a)) := f3 a ha8
                  have NT := HNT0.out.far b3
                  have TB := HTB0.out.past b3 HTB0.out.lt
                  have RS := HRS0.out.past b3 HRS0.out.lt
                  clear hw3 f3
                  go_wp2_with fail
                  refine hK.out _ _ ?_ (fun hHeld => ?_)
                  · (try dsimp only); all_goals trivial
                  clear hK K
                  try simp only [Act.put, List.setIfInBounds_toArray, List.set_cons_zero, List.set_cons_succ]
                  refine wpAnyH_take (i := 3) (oi := ⟨some 70, _, _, _, _, _⟩) (v := ?_) rfl (by kernel_rfl) (by kernel_rfl) (by kernel_rfl) (fun _ _ _ h => h) (Or.inl ⟨by rfl, ?_⟩) (by assumption) ?_
                  rotate_left
                  · (intro w hSw; (try dsimp only at hSw); go_simp; try with_reducible rfl)
                  try simp only [Act.put, List.setIfInBounds_toArray, List.set_cons_zero, List.set_cons_succ]
                  refine wpAnyH_ready (rs := [4, 5]) (by kernel_rfl) (by simp) ?_
                  refine AllReadyH.cons (o := ⟨some 71, _, _, _, _, _⟩) rfl (fun K hK => ?_) ?_
                  · skip
                    go_simp
                    refine hK.out _ _ ?_ (fun hHeld => ?_)
                    · (try dsimp only); all_goals trivial
                    clear hK K
                    try simp only [Act.put, List.setIfInBounds_toArray, List.set_cons_zero, List.set_cons_succ]
                    refine wpAnyH_ready (rs := [5]) (by kernel_rfl) (by simp) ?_
                    refine AllReadyH.cons (o := ⟨some 72, _, _, _, _, _⟩) rfl (fun K hK => ?_) AllReadyH.nil
                    go_simp
                    refine (names_any _).mono ?_
                    rintro e w4 ⟨rfl, hw4⟩
                    obtain ⟨f4, b4⟩ := names_fact hw4
                    have x4 := f4 b hb8
                    have x3 : w4.cell? ⟨w0.heap.size, a, none⟩ = some (encS (nm a)) := (b4.cell (p := ⟨w0.heap.size, a, none⟩) (cell_ltO x3)).trans x3
                    have NT := NT.far b4
                    have TB := TB.past b4 TB.lt
                    have RS := RS.past b4 RS.lt
                    clear hw4 f4
                    go_wp2_with fail
                    refine hK.out _ _ ?_ (fun hHeld => ?_)
                    · (try dsimp only); all_goals trivial
                    clear hK K
                    try simp only [Act.put, List.setIfInBounds_toArray, List.set_cons_zero, List.set_cons_succ]
                    refine wpAnyH_take (i := 7) (oi := ⟨some 74, _, _, _, _, _⟩) (v := ?_) rfl (by kernel_rfl) (by kernel_rfl) (by kernel_rfl) (fun _ _ _ h => h) (Or.inl ⟨by rfl, ?_⟩) (by assumption) ?_
                    rotate_left
                    · (intro w hSw; (try dsimp only at hSw); go_simp; try with_reducible rfl)
                    try simp only [Act.put, List.setIfInBounds_toArray, List.set_cons_zero, List.set_cons_succ]
                    refine wpAnyH_ready (rs := [8]) (by kernel_rfl) (by simp) ?_
                    refine AllReadyH.cons (o := ⟨some 75, _, _, _, _, _⟩) rfl (fun K hK => ?_) AllReadyH.nil
                    go_simp
                    refine hK.out _ _ ?_ (fun hHeld => ?_)
                    · (try dsimp only); all_goals trivial
                    clear hK K
                    try simp only [Act.put, List.setIfInBounds_toArray, List.set_cons_zero, List.set_cons_succ]
                    refine wpAnyH_ready (rs := [12]) (by kernel_rfl) (by simp) ?_
                    refine AllReadyH.cons (o := ⟨some 79, _, _, _, _, _⟩) rfl (fun K hK => ?_) AllReadyH.nil
                    go_simp
                    refine (Link_any NT.1 (nm a) (nm b) v v 0 0 HLA.out HLB.out).mono ?_
                    rintro e w5 hp
                    have NT5 := NT.link hp
                    have TB5 := NT.blk NT5.2 (.inr rfl) TB
                    have RS5 := NT.blk NT5.2 (.inr rfl) RS
                    rw [HLS.out] at NT5
                    obtain ⟨z, hz, rfl⟩ := hp.1
                    rw [HLE.out] at hz
                    subst hz
                    clear hp
                    go_wp2_with fail
                    refine hK.out _ _ ?_ (fun hHeld => ?_)
                    · (try dsimp only); all_goals trivial
                    clear hK K
                    try simp only [Act.put, List.setIfInBounds_toArray, List.set_cons_zero, List.set_cons_succ]
                    refine wpAnyH_take (i := 13) (oi := ⟨some 80, _, _, _, _, _⟩) (v := ?_) rfl (by kernel_rfl) (by kernel_rfl) (by kernel_rfl) (fun _ _ _ h => h) (Or.inl ⟨by rfl, ?_⟩) (by assumption) ?_
                    rotate_left
                    · (intro w hSw; (try dsimp only at hSw); go_simp; try with_reducible rfl)
                    try simp only [Act.put, List.setIfInBounds_toArray, List.set_cons_zero, List.set_cons_succ]
                    refine wpAnyH_done (by kernel_rfl) ?_ _
                    go_wp2_with fail
                    go_meet
                    exact ⟨rfl, rfl, rfl, rfl, rfl, NT5.1, TB5, RS5⟩
                  refine AllReadyH.cons (o := ⟨some 72, _, _, _, _, _⟩) rfl (fun K hK => ?_) AllReadyH.nil
                  go_simp
                  refine (names_any _).mono ?_
                  rintro e w4 ⟨rfl, hw4⟩
                  obtain ⟨f4, b4⟩ := names_fact hw4
                  have x4 := f4 b hb8
                  have x3 : w4.cell? ⟨w0.heap.size, a, none⟩ = some (encS (nm a)) := (b4.cell (p := ⟨w0.heap.size, a, none⟩) (cell_ltO x3)).trans x3
                  have NT := NT.far b4
                  have TB := TB.past b4 TB.lt
                  have RS := RS.past b4 RS.lt
                  clear hw4 f4
                  go_wp2_with fail
                  refine hK.out _ _ ?_ (fun hHeld => ?_)
                  · (try dsimp only); all_goals trivial
                  clear hK K
                  try simp only [Act.put, List.setIfInBounds_toArray, List.set_cons_zero, List.set_cons_succ]
                  refine wpAnyH_take (i := 7) (oi := ⟨some 74, _, _, _, _, _⟩) (v := ?_) rfl (by kernel_rfl) (by kernel_rfl) (by kernel_rfl) (fun _ _ _ h => h) (Or.inl ⟨by rfl, ?_⟩) (by assumption) ?_
                  rotate_left
                  · (intro w hSw; (try dsimp only at hSw); go_simp; try with_reducible rfl)
                  try simp only [Act.put, List.setIfInBounds_toArray, List.set_cons_zero, List.set_cons_succ]
                  refine wpAnyH_ready (rs := [4, 8]) (by kernel_rfl) (by simp) ?_
                  refine AllReadyH.cons (o := ⟨some 71, _, _, _, _, _⟩) rfl (fun K hK => ?_) ?_
                  · skip
                    go_simp
                    refine hK.out _ _ ?_ (fun hHeld => ?_)
                    · (try dsimp only); all_goals trivial
                    clear hK K
                    try simp only [Act.put, List.setIfInBounds_toArray, List.set_cons_zero, List.set_cons_succ]
                    refine wpAnyH_ready (rs := [8]) (by kernel_rfl) (by simp) ?_
                    refine AllReadyH.cons (o := ⟨some 75, _, _, _, _, _⟩) rfl (fun K hK => ?_) AllReadyH.nil
                    go_simp
                    refine hK.out _ _ ?_ (fun hHeld => ?_)
                    · (try dsimp only); all_goals trivial
                    clear hK K
                    try simp only [Act.put, List.setIfInBounds_toArray, List.set_cons_zero, List.set_cons_succ]
                    refine wpAnyH_ready (rs := [12]) (by kernel_rfl) (by simp) ?_
                    refine AllReadyH.cons (o := ⟨some 79, _, _, _, _, _⟩) rfl (fun K hK => ?_) AllReadyH.nil
                    go_simp
                    refine (Link_any NT.1 (nm a) (nm b) v v 0 0 HLA.out HLB.out).mono ?_
                    rintro e w5 hp
                    have NT5 := NT.link hp
                    have TB5 := NT.blk NT5.2 (.inr rfl) TB
                    have RS5 := NT.blk NT5.2 (.inr rfl) RS
                    rw [HLS.out] at NT5
                    obtain ⟨z, hz, rfl⟩ := hp.1
                    rw [HLE.out] at hz
                    subst hz
                    clear hp
                    go_wp2_with fail
                    refine hK.out _ _ ?_ (fun hHeld => ?_)
                    · (try dsimp only); all_goals trivial
                    clear hK K
                    try simp only [Act.put, List.setIfInBounds_toArray, List.set_cons_zero, List.set_cons_succ]
                    refine wpAnyH_take (i := 13) (oi := ⟨some 80, _, _, _, _, _⟩) (v := ?_) rfl (by kernel_rfl) (by kernel_rfl) (by kernel_rfl) (fun _ _ _ h => h) (Or.inl ⟨by rfl, ?_⟩) (by assumption) ?_
                    rotate_left
                    · (intro w hSw; (try dsimp only at hSw); go_simp; try with_reducible rfl)
                    try simp only [Act.put, List.setIfInBounds_toArray, List.set_cons_zero, List.set_cons_succ]
                    refine wpAnyH_done (by kernel_rfl) ?_ _
                    go_wp2_with fail
                    go_meet
                    exact ⟨rfl, rfl, rfl, rfl, rfl, NT5.1, TB5, RS5⟩
                  refine AllReadyH.cons (o := ⟨some 75, _, _, _, _, _⟩) rfl (fun K hK => ?_) AllReadyH.nil
                  go_simp
                  refine hK.out _ _ ?_ (fun hHeld => ?_)
                  · (try dsimp only); all_goals trivial
                  clear hK K
                  try simp only [Act.put, List.setIfInBounds_toArray, List.set_cons_zero, List.set_cons_succ]
                  refine wpAnyH_ready (rs := [4]) (by kernel_rfl) (by simp) ?_
                  refine AllReadyH.cons (o := ⟨some 71, _, _, _, _, _⟩) rfl (fun K hK => ?_) AllReadyH.nil
                  go_simp
                  refine hK.out _ _ ?_ (fun hHeld => ?_)
                  · (try dsimp only); all_goals trivial
                  clear hK K
                  try simp only [Act.put, List.setIfInBounds_toArray, List.set_cons_zero, List.set_cons_succ]
                  refine wpAnyH_ready (rs := [12]) (by kernel_rfl) (by simp) ?_
                  refine AllReadyH.cons (o := ⟨some 79, _, _, _, _, _⟩) rfl (fun K hK => ?_) AllReadyH.nil
                  go_simp
                  refine (Link_any NT.1 (nm a) (nm b) v v 0 0 HLA.out HLB.out).mono ?_
                  rintro e w5 hp
                  have NT5 := NT.link hp
                  have TB5 := NT.blk NT5.2 (.inr rfl) TB
                  have RS5 := NT.blk NT5.2 (.inr rfl) RS
                  rw [HLS.out] at NT5
                  obtain ⟨z, hz, rfl⟩ := hp.1
                  rw [HLE.out] at hz
                  subst hz
                  clear hp
                  go_wp2_with fail
                  refine hK.out _ _ ?_ (fun hHeld => ?_)
                  · (try dsimp only); all_goals trivial
                  clear hK K
                  try simp only [Act.put, List.setIfInBounds_toArray, List.set_cons_zero, List.set_cons_succ]
                  refine wpAnyH_take (i := 13) (oi := ⟨some 80, _, _, _, _, _⟩) (v := ?_) rfl (by kernel_rfl) (by kernel_rfl) (by kernel_rfl) (fun _ _ _ h => h) (Or.inl ⟨by rfl, ?_⟩) (by assumption) ?_
                  rotate_left
                  · (intro w hSw; (try dsimp only at hSw); go_simp; try with_reducible rfl)
                  try simp only [Act.put, List.setIfInBounds_toArray, List.set_cons_zero, List.set_cons_succ]
                  refine wpAnyH_done (by kernel_rfl) ?_ _
                  go_wp2_with fail
                  go_meet
                  exact ⟨rfl, rfl, rfl, rfl, rfl, NT5.1, TB5, RS5⟩
                case rest =>
                  obtain ⟨w6, rfl⟩ : ∃ z : World, z = wc := ⟨_, rfl⟩
                  obtain ⟨rfl, rfl, rfl, rfl, rfl, hnt, htb, hrs⟩ := hcut
                  have HNT6 := Lib.hid hnt; have HTB6 := Lib.hid htb; have HRS6 := Lib.hid hrs
                  have ct := htb.cell (a * 8 + b); have ct' := htb.cell (b * 8 + a)
                  have ft := htb.froz (a * 8 + b); have ft' := htb.froz (b * 8 + a)
                  clear hnt htb hrs
                  rw [stV_get _ _ (by rw [HSM.out.len]; omega)] at ct ct'
                  have ne1 : ¬ a * 8 + b = b * 8 + a := by omega
                  have ne2 : ¬ b * 8 + a = a * 8 + b := by omega
                  generalize st.getD (a * 8 + b) 0 = y1 at ct
                  generalize st.getD (b * 8 + a) 0 = y2 at ct'
                  have HTN : Hid (w.heap.size ≤ w.heap.size + 1) := Lib.hid (by omega)
                  go_wp2_with fail
                  refine wp_region_held_drew (S := (fun _ => True)) (by kernel_rfl) ?_ (fun hHeld => ?_)
                  · (try dsimp only); all_goals trivial
                  refine wpAnyH_take (i := 0) (oi := ⟨some 82, _, _, _, _, _⟩) (v := ?_) rfl (by kernel_rfl) (by kernel_rfl) (by kernel_rfl) (fun _ _ _ h => h) (Or.inl ⟨by rfl, ?_⟩) (by assumption) ?_
                  rotate_left
                  · (intro w hSw; (try dsimp only at hSw); go_simp; try with_reducible rfl)
                  try simp only [Act.put, List.setIfInBounds_toArray, List.set_cons_zero, List.set_cons_succ]
                  refine wpAnyH_take (i := 1) (oi := ⟨some 83, _, _, _, _, _⟩) (v := ?_) rfl (by kernel_rfl) (by kernel_rfl) (by kernel_rfl) (fun _ _ _ h => h) (Or.inl ⟨by rfl, ?_⟩) (by assumption) ?_
                  rotate_left
                  · (intro w hSw; (try dsimp only at hSw); go_simp; try with_reducible rfl)
                  try simp only [Act.put, List.setIfInBounds_toArray, List.set_cons_zero, List.set_cons_succ]
                  refine wpAnyH_take (i := 2) (oi := ⟨some 84, _, _, _, _, _⟩) (v := ?_) rfl (by kernel_rfl) (by kernel_rfl) (by kernel_rfl) (fun _ _ _ h => h) (Or.inl ⟨by rfl, ?_⟩) (by assumption) ?_
                  rotate_left
                  · (intro w hSw; (try dsimp only at hSw); go_simp; try with_reducible rfl)
                  try simp only [Act.put, List.setIfInBounds_toArray, List.set_cons_zero, List.set_cons_succ]
                  refine wpAnyH_take (i := 3) (oi := ⟨some 85, _, _, _, _, _⟩) (v := ?_) rfl (by kernel_rfl) (by kernel_rfl) (by kernel_rfl) (fun _ _ _ h => h) (Or.inl ⟨by rfl, ?_⟩) (by assumption) ?_
                  rotate_left
                  · (intro w hSw; (try dsimp only at hSw); go_simp; try with_reducible rfl)
                  try simp only [Act.put, List.setIfInBounds_toArray, List.set_cons_zero, List.set_cons_succ]
                  refine wpAnyH_take (i := 4) (oi := ⟨some 86, _, _, _, _, _⟩) (v := ?_) rfl (by kernel_rfl) (by kernel_rfl) (by kernel_rfl) (fun _ _ _ h => h) (Or.inl ⟨by rfl, ?_⟩) (by assumption) ?_
                  rotate_left
                  · (intro w hSw; (try dsimp only at hSw); go_simp; try with_reducible rfl)
                  try simp only [Act.put, List.setIfInBounds_toArray, List.set_cons_zero, List.set_cons_succ]
                  refine wpAnyH_take (i := 5) (oi := ⟨some 87, _, _, _, _, _⟩) (v := ?_) rfl (by kernel_rfl) (by kernel_rfl) (by kernel_rfl) (fun _ _ _ h => h) (Or.inl ⟨by rfl, ?_⟩) (by assumption) ?_
                  rotate_left
                  · (intro w hSw; (try dsimp only at hSw); go_simp; try with_reducible rfl)
                  try simp only [Act.put, List.setIfInBounds_toArray, List.set_cons_zero, List.set_cons_succ]
                  refine wpAnyH_take (i := 6) (oi := ⟨some 88, _, _, _, _, _⟩) (v := ?_) rfl (by kernel_rfl) (by kernel_rfl) (by kernel_rfl) (fun _ _ _ h => h) (Or.inl ⟨by rfl, ?_⟩) (by assumption) ?_
                  rotate_left
                  · (intro w hSw; (try dsimp only at hSw); go_simp; try with_reducible rfl)
                  try simp only [Act.put, List.setIfInBounds_toArray, List.set_cons_zero, List.set_cons_succ]
                  refine wpAnyH_take (i := 7) (oi := ⟨some 89, _, _, _, _, _⟩) (v := ?_) rfl (by kernel_rfl) (by kernel_rfl) (by kernel_rfl) (fun _ _ _ h => h) (Or.inl ⟨by rfl, ?_⟩) (by assumption) ?_
                  rotate_left
                  · (intro w hSw; (try dsimp only at hSw); go_simp; try with_reducible rfl)
                  try simp only [Act.put, List.setIfInBounds_toArray, List.set_cons_zero, List.set_cons_succ]
                  refine wpAnyH_take (i := 9) (oi := ⟨some 90, _, _, _, _, _⟩) (v := ?_) rfl (by kernel_rfl) (by kernel_rfl) (by kernel_rfl) (fun _ _ _ h => h) (Or.inl ⟨by rfl, ?_⟩) (by assumption) ?_
                  rotate_left
                  · (intro w hSw; (try dsimp only at hSw); go_simp; try with_reducible rfl)
                  try simp only [Act.put, List.setIfInBounds_toArray, List.set_cons_zero, List.set_cons_succ]
                  refine wpAnyH_ready (rs := [8]) (by kernel_rfl) (by simp) ?_
                  refine AllReadyH.cons (o := ⟨none, _, _, _, _, _⟩) rfl (fun K hK => ?_) AllReadyH.nil
                  go_simp
                  refine hK.out _ _ ?_ (fun hHeld => ?_)
                  · (try dsimp only); all_goals trivial
                  clear hK K
                  try simp only [Act.put, List.setIfInBounds_toArray, List.set_cons_zero, List.set_cons_succ]
                  refine wpAnyH_take (i := 10) (oi := ⟨some 91, _, _, _, _, _⟩) (v := ?_) rfl (by kernel_rfl) (by kernel_rfl) (by kernel_rfl) (fun _ _ _ h => h) (Or.inl ⟨by rfl, ?_⟩) (by assumption) ?_
                  rotate_left
                  · (intro w hSw; (try dsimp only at hSw); go_simp; try with_reducible rfl)
                  try simp only [Act.put, List.setIfInBounds_toArray, List.set_cons_zero, List.set_cons_succ]
                  refine wpAnyH_ready (rs := [11]) (by kernel_rfl) (by simp) ?_
                  refine AllReadyH.cons (o := ⟨none, _, _, _, _, _⟩) rfl (fun K hK => ?_) AllReadyH.nil
                  go_simp
                  refine hK.out _ _ ?_ (fun hHeld => ?_)
                  · (try dsimp only); all_goals trivial
                  clear hK K
                  try simp only [Act.put, List.setIfInBounds_toArray, List.set_cons_zero, List.set_cons_succ]
                  refine wpAnyH_done (by kernel_rfl) ?_ _
                  have BF := (HTB6.out.set (a * 8 + b) (.int .i64 v)).set (b * 8 + a) (.int .i64 v)
                  rw [stV_set, stV_set] at BF
                  have CF := Lib.hid (table_twice HTB6.out (a * 8 + b) (b * 8 + a) (.int .i64 v))
                  go_wp2_with fail
                  go_roundg g'
                  case measure => omega
                  case rel => exact ⟨k + 1, by omega, by omega, by omega, by go_num, ⟨by rw [HX2.out]; exact HNT6.out.table HTB6.out CF.out HTN.out, by rw [HX2.out]; exact BF, HRS6.out.keepL CF.out (by simp)⟩⟩
          · have hki2 : ¬ (k : Int) < 60 := by omega
            have HTAKE : Hid (l.take k = l.take 60) := Lib.hid (by rw [show k = 60 by omega])
            · skip
              have HFIN : Hid ((l.take k).foldl smallStep (smN 8, List.replicate 64 0) = smallG l) := Lib.hid (by unfold smallG; rw [HTAKE.out])
              have HNTF : Hid (NetNew w (smallG l).1 N bn bl wi.drew) := Lib.hid (by rw [← HFIN.out]; exact HS.out.net.far (Qw.below ⟨1, rfl⟩ _))
              have HTBF : Hid (Bk wi.drew (w.heap.size + 1) (stV (smallG l).2) 26) := Lib.hid (by rw [← HFIN.out]; exact HS.out.tab)
              have HRSF : Hid (Bk wi.drew w.heap.size (stV (List.replicate 64 0)) 26) := Lib.hid HS.out.res
              have hl64 : (smallG l).2.length = 64 := (smallG_ok l (fun p hp => (HL.out p hp).2.2)).len
              have HIN : Hid ((Tryz.prog.info? 26).map (·.size) = some (stV (smallG l).2).size) := Lib.hid (by rw [show (stV (smallG l).2).size = 64 by unfold stV; simp [hl64]]; kernel_rfl)
              have HSZ : Hid ((stV (List.replicate 64 0)).size = (stV (smallG l).2).size) := Lib.hid (by unfold stV; simp [hl64])
              have HONE : Hid ((stV (smallG l).2).all (·.oneCell') = true) := Lib.hid (stV_one _)
              clear hl64
              go_wp2_with fail
              refine wp_region_held_drew (S := (fun _ => True)) (by kernel_rfl) ?_ (fun hHeld => ?_)
              · (try dsimp only); all_goals trivial
              refine wpAnyH_take (i := 0) (oi := ⟨some 92, _, _, _, _, _⟩) (v := ?_) rfl (by kernel_rfl) (by kernel_rfl) (by kernel_rfl) (fun _ _ _ h => h) (Or.inl ⟨by rfl, ?_⟩) (by assumption) ?_
              rotate_left
              · (intro w hSw; (try dsimp only at hSw); go_simp; try with_reducible rfl)
              try simp only [Act.put, List.setIfInBounds_toArray, List.set_cons_zero, List.set_cons_succ]
              refine wpAnyH_take (i := 2) (oi := ⟨some 2, _, _, _, _, _⟩) (v := ?_) rfl (by kernel_rfl) (by kernel_rfl) (by kernel_rfl) (fun _ _ _ h => h) (Or.inl ⟨by rfl, ?_⟩) (by assumption) ?_
              rotate_left
              · (intro w hSw; (try dsimp only at hSw); go_simp; try with_reducible rfl)
              try simp only [Act.put, List.setIfInBounds_toArray, List.set_cons_zero, List.set_cons_succ]
              refine wpAnyH_ready (rs := [1]) (by kernel_rfl) (by simp) ?_
              refine AllReadyH.cons (o := ⟨some 93, _, _, _, _, _⟩) rfl (fun K hK => ?_) AllReadyH.nil
              rw [if_pos (by simp [Region.wanted])]
              refine wp_load_row 26 _ rfl (w.heap.size + 1) rfl _ _ (0, 0) _ HTBF.out Tryz.underlying26 rfl HIN.out ?_
              refine hK.out _ _ ?_ (fun hHeld => ?_)
              · (try dsimp only); all_goals trivial
              clear hK K
              try simp only [Act.put, List.setIfInBounds_toArray, List.set_cons_zero, List.set_cons_succ]
              refine wpAnyH_ready (rs := [3]) (by kernel_rfl) (by simp) ?_
              refine AllReadyH.cons (o := ⟨none, _, _, _, _, _⟩) rfl (fun K hK => ?_) AllReadyH.nil
              refine step_store_row 26 _ _ rfl rfl w.heap.size (stV (smallG l).2) rfl rfl _ _ HRSF.out HIN.out HSZ.out HONE.out ?_
              have HRR : Hid (Bk (wi.drew.setRow w.heap.size (stV (smallG l).2)) w.heap.size (stV (smallG l).2) 26) := Lib.hid (Bk.setRow HRSF.out _)
              have HNF : Hid (NetNew w (smallG l).1 N bn bl (wi.drew.setRow w.heap.size (stV (smallG l).2))) := Lib.hid (HNTF.out.table HRSF.out (keepL_setRow _ _ _) (Nat.le_refl _))
              refine hK.out _ _ ?_ (fun hHeld => ?_)
              · (try dsimp only); all_goals trivial
              clear hK K
              try simp only [Act.put, List.setIfInBounds_toArray, List.set_cons_zero, List.set_cons_succ]
              refine wpAnyH_take (i := 4) (oi := ⟨some 4, _, _, _, _, _⟩) (v := ?_) rfl (by kernel_rfl) (by kernel_rfl) (by kernel_rfl) (fun _ _ _ h => h) (Or.inl ⟨by rfl, ?_⟩) (by assumption) ?_
              rotate_left
              · (intro w hSw; (try dsimp only at hSw); go_simp; try with_reducible rfl)
              try simp only [Act.put, List.setIfInBounds_toArray, List.set_cons_zero, List.set_cons_succ]
              refine wpAnyH_done (by kernel_rfl) ?_ _
              go_wp2_with fail
              refine bodyPost_ret (a := Act.mk _ _) (results_tct (p := 2) (q := 3) (r := 4) rfl _ _ w.heap.size _ rfl (run_loadVar_row _ _ _ _ _ _ _ HRR.out Tryz.underlying26 rfl HIN.out)) rfl ?_
              exact ⟨N, bn, bl, rfl, HNF.out⟩
        · have hki : ¬ (k : Int) < (n : Int) := by omega
          have HTAKE : Hid (l.take k = l.take 60) := Lib.hid (by rw [List.take_of_length_le (by omega), List.take_of_length_le (by omega)])
          · skip
            · skip
              have HFIN : Hid ((l.take k).foldl smallStep (smN 8, List.replicate 64 0) = smallG l) := Lib.hid (by unfold smallG; rw [HTAKE.out])
              have HNTF : Hid (NetNew w (smallG l).1 N bn bl wi.drew) := Lib.hid (by rw [← HFIN.out]; exact HS.out.net.far (Qw.below ⟨1, rfl⟩ _))
              have HTBF : Hid (Bk wi.drew (w.heap.size + 1) (stV (smallG l).2) 26) := Lib.hid (by rw [← HFIN.out]; exact HS.out.tab)
              have HRSF : Hid (Bk wi.drew w.heap.size (stV (List.replicate 64 0)) 26) := Lib.hid HS.out.res
              have hl64 : (smallG l).2.length = 64 := (smallG_ok l (fun p hp => (HL.out p hp).2.2)).len
              have HIN : Hid ((Tryz.prog.info? 26).map (·.size) = some (stV (smallG l).2).size) := Lib.hid (by rw [show (stV (smallG l).2).size = 64 by unfold stV; simp [hl64]]; kernel_rfl)
              have HSZ : Hid ((stV (List.replicate 64 0)).size = (stV (smallG l).2).size) := Lib.hid (by unfold stV; simp [hl64])
              have HONE : Hid ((stV (smallG l).2).all (·.oneCell') = true) := Lib.hid (stV_one _)
              clear hl64
              go_wp2_with fail
              refine wp_region_held_drew (S := (fun _ => True)) (by kernel_rfl) ?_ (fun hHeld => ?_)
              · (try dsimp only); all_goals trivial
              refine wpAnyH_take (i := 0) (oi := ⟨some 92, _, _, _, _, _⟩) (v := ?_) rfl (by kernel_rfl) (by kernel_rfl) (by kernel_rfl) (fun _ _ _ h => h) (Or.inl ⟨by rfl, ?_⟩) (by assumption) ?_
              rotate_left
              · (intro w hSw; (try dsimp only at hSw); go_simp; try with_reducible rfl)
              try simp only [Act.put, List.setIfInBounds_toArray, List.set_cons_zero, List.set_cons_succ]
              refine wpAnyH_take (i := 2) (oi := ⟨some 2, _, _, _, _, _⟩) (v := ?_) rfl (by kernel_rfl) (by kernel_rfl) (by kernel_rfl) (fun _ _ _ h => h) (Or.inl ⟨by rfl, ?_⟩) (by assumption) ?_
              rotate_left
              · (intro w hSw; (try dsimp only at hSw); go_simp; try with_reducible rfl)
              try simp only [Act.put, List.setIfInBounds_toArray, List.set_cons_zero, List.set_cons_succ]
              refine wpAnyH_ready (rs := [1]) (by kernel_rfl) (by simp) ?_
              refine AllReadyH.cons (o := ⟨some 93, _, _, _, _, _⟩) rfl (fun K hK => ?_) AllReadyH.nil
              rw [if_pos (by simp [Region.wanted])]
              refine wp_load_row 26 _ rfl (w.heap.size + 1) rfl _ _ (0, 0) _ HTBF.out Tryz.underlying26 rfl HIN.out ?_
              refine hK.out _ _ ?_ (fun hHeld => ?_)
              · (try dsimp only); all_goals trivial
              clear hK K
              try simp only [Act.put, List.setIfInBounds_toArray, List.set_cons_zero, List.set_cons_succ]
              refine wpAnyH_ready (rs := [3]) (by kernel_rfl) (by simp) ?_
              refine AllReadyH.cons (o := ⟨none, _, _, _, _, _⟩) rfl (fun K hK => ?_) AllReadyH.nil
              refine step_store_row 26 _ _ rfl rfl w.heap.size (stV (smallG l).2) rfl rfl _ _ HRSF.out HIN.out HSZ.out HONE.out ?_
              have HRR : Hid (Bk (wi.drew.setRow w.heap.size (stV (smallG l).2)) w.heap.size (stV (smallG l).2) 26) := Lib.hid (Bk.setRow HRSF.out _)
              have HNF : Hid (NetNew w (smallG l).1 N bn bl (wi.drew.setRow w.heap.size (stV (smallG l).2))) := Lib.hid (HNTF.out.table HRSF.out (keepL_setRow _ _ _) (Nat.le_refl _))
              refine hK.out _ _ ?_ (fun hHeld => ?_)
              · (try dsimp only); all_goals trivial
              clear hK K
              try simp only [Act.put, List.setIfInBounds_toArray, List.set_cons_zero, List.set_cons_succ]
              refine wpAnyH_take (i := 4) (oi := ⟨some 4, _, _, _, _, _⟩) (v := ?_) rfl (by kernel_rfl) (by kernel_rfl) (by kernel_rfl) (fun _ _ _ h => h) (Or.inl ⟨by rfl, ?_⟩) (by assumption) ?_
              rotate_left
              · (intro w hSw; (try dsimp only at hSw); go_simp; try with_reducible rfl)
              try simp only [Act.put, List.setIfInBounds_toArray, List.set_cons_zero, List.set_cons_succ]
              refine wpAnyH_done (by kernel_rfl) ?_ _
              go_wp2_with fail
              refine bodyPost_ret (a := Act.mk _ _) (results_tct (p := 2) (q := 3) (r := 4) rfl _ _ w.heap.size _ rfl (run_loadVar_row _ _ _ _ _ _ _ HRR.out Tryz.underlying26 rfl HIN.out)) rfl ?_
              exact ⟨N, bn, bl, rfl, HNF.out⟩
#print axioms Small_any
end Go.Proofs.YtecndceekgaglaaGreat
