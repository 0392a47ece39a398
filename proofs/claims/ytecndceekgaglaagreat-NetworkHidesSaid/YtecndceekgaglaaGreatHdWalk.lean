/- NetworkHides: the walk. Conditions: as the statement says. -/
import Derived.Test.YtecndceekgaglaaGreatDl1
import Derived.Test.YtecndceekgaglaaGreatOpenPrs
namespace Go.Proofs.YtecndceekgaglaaGreat
open Go.RowKit
set_option linter.unusedVariables false
def TrueH (w : World) (e : Ending) (w' : World) : Prop := e = .returned (.bool true) ∧ Below w.heap.size w w'
set_option maxRecDepth 100000 in
set_option maxHeartbeats 8000000 in
theorem NetworkHides_walk (v0 : Value) (i0 : PrsArg) (a1 a2 : Nat) (v3 : Value) (i3 : BytesArg) (v4 : Value) (i4 : BytesArg) (a5 a6 : Nat) (v7 : Value) (i7 : BytesArg) (a8 : Nat) (w : World) (hx0 : IsPrs w v0 i0) (h1 : a1 < 256) (h2 : a2 < 256) (hx3 : IsBytes w v3 i3) (hx4 : IsBytes w v4 i4) (h5 : a5 < 256) (h6 : a6 < 256) (hx7 : IsBytes w v7 i7) (h8 : a8 < 256) :
    Calls Tryz.prog 4 #[v0, .int .u8 (a1 : Int), .int .u8 (a2 : Int), v3, v4, .int .u8 (a5 : Int), .int .u8 (a6 : Int), v7, .int .u8 (a8 : Int)] w (TrueH w) := by
  obtain ⟨A0, n0, c0, l0⟩ := i0
  obtain ⟨A3, n3, c3, l3⟩ := i3
  obtain ⟨A4, n4, c4, l4⟩ := i4
  obtain ⟨A6, n6, c6, l6⟩ := i7
  obtain ⟨rfl, hnc0, hc0, hln0, hrd0, hlt0⟩ := hx0
  obtain ⟨rfl, hnc3, hc3, hln3, hb3, hrd3⟩ := hx3
  obtain ⟨rfl, hnc4, hc4, hln4, hb4, hrd4⟩ := hx4
  obtain ⟨rfl, hnc6, hc6, hln6, hb6, hrd6⟩ := hx7
  simp only at hnc0 hc0 hln0 hrd0 hlt0 hnc3 hc3 hln3 hb3 hrd3 hnc4 hc4 hln4 hb4 hrd4 hnc6 hc6 hln6 hb6 hrd6 ⊢
  have HSM := Lib.hid (smallG_ok l0 (fun p hp => (hlt0 p hp).2.2))
  have HSA : Hid (∀ W, Below w.heap.size w W → Calls Tryz.prog 7 #[.slice A0 n0 c0] W (SmallP l0 W)) := Lib.hid fun W hW => Small_any (c := c0) l0 (hrd0.below hW) hW.size (by omega) hlt0
  obtain ⟨⟨sN, st⟩, hx⟩ : ∃ x, x = smallG l0 := ⟨_, rfl⟩
  have HX := Lib.hid hx
  rw [← hx] at HSM
  simp only at HSM
  have HIN : Hid ((Tryz.prog.info? 26).map (·.size) = some (stV st).size) := Lib.hid (by rw [show (stV st).size = 64 by unfold stV; simp [HSM.out.len]]; kernel_rfl)
  have HSZ : Hid ((stV (List.replicate 64 0)).size = (stV st).size) := Lib.hid (by unfold stV; simp [HSM.out.len])
  have HONE : Hid ((stV st).all (·.oneCell') = true) := Lib.hid (stV_one _)
  obtain ⟨a, ha⟩ : ∃ a, a = a1 % 8 := ⟨_, rfl⟩
  obtain ⟨b, hb⟩ : ∃ b, b = a2 % 8 := ⟨_, rfl⟩
  obtain ⟨sec, hsec⟩ : ∃ z, z = shortL l3 := ⟨_, rfl⟩
  obtain ⟨K, hK⟩ : ∃ z, z = a5 % 4 + 1 := ⟨_, rfl⟩
  obtain ⟨q, hq⟩ : ∃ z, z = a6 % K := ⟨_, rfl⟩
  obtain ⟨co, hco⟩ : ∃ z, z = coinL (sec.length * q) l6 := ⟨_, rfl⟩
  have ra : Int.tmod (a1 : Int) 8 = (a : Int) := by rw [Int.tmod_eq_emod_of_nonneg (by omega)]; omega
  have rb : Int.tmod (a2 : Int) 8 = (b : Int) := by rw [Int.tmod_eq_emod_of_nonneg (by omega)]; omega
  have ha8 : a < 8 := by omega
  have hb8 : b < 8 := by omega
  have hai : (a : Int) < 8 := by omega
  have hbi : (b : Int) < 8 := by omega
  have HSEC := Lib.hid hsec
  have HSND : Hid (∀ (N bn bl : Nat) W, NetNew w sN N bn bl W → Calls Tryz.prog 8 #[.pointer (some ⟨N, 0, none⟩), .int .u8 (a1 : Int), .int .u8 (a2 : Int), .slice A3 n3 c3, .int .u8 (a5 : Int), .int .u8 (a6 : Int), .slice A6 n6 c6] W (SndP N sN bn bl a b sec co K q W)) := Lib.hid fun N bn bl W hW => by
    rw [hco, hq, hK, hsec, ha, hb]
    exact sendL_any hW.1 HSM.out.sents A3 A6 n3 c3 n6 c6 l3 l6 a1 a2 a5 a6 h1 h2 h5 h6 hnc3 hc3 hnc6 hc6 hb3 hb6 ((hrd3.below hW.2.1).mono hW.2.1.size) ((hrd6.below hW.2.1).mono hW.2.1.size)
  have HSHT : Hid (∀ W, Below w.heap.size w W → Calls Tryz.prog 12 #[.slice A3 n3 c3] W (ShortP l3 W)) := Lib.hid fun W hW => short_any A3 n3 c3 l3 W hnc3 hc3 ((hrd3.below hW).mono hW.size)
  have HR4 := Lib.hid hrd4
  have HB4 := Lib.hid hb4
  have HL4 := Lib.hid hln4
  have HSL := Lib.hid (by rw [hsec]; exact shortL_len l3 : 1 ≤ sec.length ∧ sec.length ≤ 12)
  have HW := Lib.hid (fun W => works09_any W)
  clear hx hrd0 hlt0 hnc0 hc0 hln0 hnc3 hc3 hln3 hb3 hrd3 hnc6 hc6 hln6 hb6 hrd6 hnc4 hc4 hln4 hb4 hrd4 ha hb hsec hK hq hco h1 h2 h5 h6
  go_enter Tryz.func4, Tryz.ntmps4
  go_wp2_with fail
  refine (HSA.out _ (Below.refl _ _)).mono ?_
  rintro e w1 ⟨N, bn, bl, rfl, hnet⟩
  rw [← HX.out] at hnet ⊢
  simp only at hnet ⊢
  have HNT := Lib.hid hnet
  clear hnet
  have hsz64 : (stV st).size = 64 := by unfold stV; simp [HSM.out.len]
  go_wp2_with fail
  rw [lit64, run_storeCells_new w1 26 _ _ HIN.out HSZ.out HONE.out]
  go_wp2_with fail
  obtain ⟨w2, hw2⟩ : ∃ z, z = w1.alloc (.cells (stV st) 26) := ⟨_, rfl⟩
  have HNT2 : Hid (NetNew w sN N bn bl w2) := Lib.hid (by rw [hw2]; exact HNT.out.far (below_alloc _ _))
  rw [← hw2]
  clear hw2 HNT
  generalize w1.heap.size = X
  refine (HSA.out _ HNT2.out.2.1).mono ?_
  clear HSA
  rintro e w3 ⟨N', bn', bl', rfl, hnet⟩
  rw [← HX.out] at hnet ⊢
  simp only at hnet ⊢
  have HNM := Lib.hid hnet
  clear hnet
  go_wp2_with fail
  rw [lit64, run_storeCells_new w3 26 _ _ HIN.out HSZ.out HONE.out]
  go_wp2_with fail
  obtain ⟨w4, hw4⟩ : ∃ z, z = w3.alloc (.cells (stV st) 26) := ⟨_, rfl⟩
  have HNM4 : Hid (NetNew w2 sN N' bn' bl' w4) := Lib.hid (by rw [hw4]; exact HNM.out.far (below_alloc _ _))
  have HNT4 : Hid (NetNew w sN N bn bl w4) := Lib.hid (HNT2.out.far HNM4.out.2.1)
  have HLT : Hid (N < w2.heap.size ∧ bl < w2.heap.size) := Lib.hid ⟨HNT2.out.1.blk.lt, HNT2.out.1.links.lt⟩
  rw [← hw4]
  clear hw4 HNM hsz64
  generalize w3.heap.size = Y
  refine (HSND.out _ _ _ _ HNT4.out).mono ?_
  clear HSND
  intro e w5 hq5
  rcases hq5 with ⟨rfl, hb5⟩ | ⟨rfl, hs, vs', hN5, hk5, _⟩
  · have HB5 := Lib.hid (bnextK HNT4.out.2.1 hb5)
    clear hb5
    go_wp2_with fail
    refine (HW.out _).mono ?_
    rintro e w6 ⟨rfl, hb6⟩
    have HB6 := Lib.hid (bnextK HB5.out hb6)
    clear hb6
    go_wp2_with fail
    go_ret
    exact ⟨rfl, HB6.out⟩
  · have HONES := Lib.hid (OneSent.of HSM.out hs)
    have HS := Lib.hid hs
    have HN5 := Lib.hid hN5
    have HM5 : Hid (NetAt w5 N' sN bn' bl' (.slice none 0 0) (.slice none 0 0)) := Lib.hid (HNM4.out.1.keepNil hk5 (by
        have := HLT.out; have := HNM4.out.2.2.2.2
        simp only [List.mem_cons, List.not_mem_nil, or_false]; omega) (by
        have := HLT.out; have := HNM4.out.2.2.1
        simp only [List.mem_cons, List.not_mem_nil, or_false]; omega) (by
        have := HLT.out; have := HNM4.out.2.2.2.1
        simp only [List.mem_cons, List.not_mem_nil, or_false]; omega) HSM.out.holds HSM.out.sents)
    have HLO : Hid (w.heap.size ≤ N' ∧ w.heap.size ≤ bl') := Lib.hid ⟨Nat.le_trans HNT2.out.2.1.size HNM4.out.2.2.2.2, Nat.le_trans HNT2.out.2.1.size HNM4.out.2.2.2.1⟩
    have HB5 : Hid (Below w.heap.size w w5) := Lib.hid (HNT4.out.2.1.trans (hk5.below HNT4.out.2.1.size (by
      intro k hk
      simp only [List.mem_cons, List.not_mem_nil, or_false] at hk
      rcases hk with rfl | rfl
      · exact HNT4.out.2.2.2.2
      · exact HNT4.out.2.2.2.1)))
    have hK4 := hs.k4
    have hqK := hs.q1
    generalize hS : sendN sN (nm a) (nm b) sec co sec.length K q = S at HN5 HONES
    clear hs hN5 hk5 hS HNT2 HNT4 HNM4 HLT
    have HI0 : Hid (w5.ownsRow w5.heap.size 9 1 (.slice none 0 0) (grpL a8 0).length ((grpL a8 0).map encS) ∧ Below w5.heap.size w5 w5) := Lib.hid ⟨World.ownsRow_nil _ _ _ _, Below.refl _ _⟩
    go_wp2_with fail
    go_loopw [28, 29] (fun v i wr => ∃ k : Nat, k ≤ 8 ∧ i = .int .i64 k ∧ wr.ownsRow w5.heap.size 9 1 v (grpL a8 k).length ((grpL a8 k).map encS) ∧ Below w5.heap.size w5 wr) (fun _ i _ => 8 - (intOf i).toNat)
    case atStart => exact ⟨0, by omega, rfl, HI0.out⟩
    case round =>
      obtain ⟨k, hk, rfl, ho, hb⟩ := hrel
      obtain ⟨wj, rfl⟩ : ∃ z : World, z = wr := ⟨_, rfl⟩
      have HOJ := Lib.hid ho; have HBJ := Lib.hid hb
      have hgl := grpL_len a8 k
      obtain ⟨oA, oc, rfl, hoc⟩ := own_form ho
      clear ho hb HI0
      by_cases hlt : k < 8
      · have hki : (k : Int) < 8 := by omega
        have hbits := u8_shr_and a8 k h8
        have hst := grpL_step a8 k
        by_cases ht : a8.testBit k = true
        · rw [if_pos ht] at hbits hst
          have HST := Lib.hid hst
          clear hst ht
          have hsz := HBJ.out.size
          go_wp2_with fail
          refine (names_any _).mono ?_
          rintro e w6 ⟨rfl, hw6⟩
          obtain ⟨f6, b6⟩ := names_fact hw6
          have y6 := f6 k hlt
          have HO6 : Hid (w6.ownsRow w5.heap.size 9 1 (.slice oA (grpL a8 k).length oc) (grpL a8 k).length ((grpL a8 k).map encS)) := Lib.hid (ownsRow_below HOJ.out b6 (Nat.le_refl _))
          have HB6 := Lib.hid (HBJ.out.trans (b6.mono HBJ.out.size))
          have hsz6 := HB6.out.size
          clear hw6 f6 b6
          go_wp2_with (at_builtin
                       refine wpList_push elB_str (.tmp 81) (.tmp 86) rfl rfl w5.heap.size (grpL a8 k).length _ rfl HO6.out rfl rfl (one_cell1 rfl) (by omega) (by decide) hsz6 ?_
                       intro v9 w9 hown9 hb9 hg9
                       obtain ⟨A9, d9, rfl, hd9⟩ := own_form hown9
                       have HO9 : Hid (w9.ownsRow w5.heap.size 9 1 (.slice A9 ((grpL a8 k).length + 1) d9) (grpL a8 (k + 1)).length ((grpL a8 (k + 1)).map encS)) := Lib.hid (by rw [HST.out, List.length_append, List.map_append]; exact hown9)
                       have HB9 := Lib.hid (HB6.out.trans hb9)
                       clear hown9 hb9 hg9)
          go_roundw
          case rel => exact ⟨k + 1, by omega, by go_num, HO9.out, HB9.out⟩
          case measure => simp [intOf]; omega
        · rw [if_neg ht] at hbits hst
          have HST := Lib.hid hst
          clear hst ht
          go_wp2_with fail
          go_roundw
          case rel => exact ⟨k + 1, by omega, by go_num, by rw [HST.out]; exact HOJ.out, HBJ.out⟩
          case measure => simp [intOf]; omega
      · have hki : ¬ (k : Int) < 8 := by omega
        obtain rfl : k = 8 := by omega
        have HNJ := Lib.hid (HN5.out.far HBJ.out)
        have HMJ := Lib.hid (HM5.out.far HBJ.out)
        have HBWJ := Lib.hid (bnextK HB5.out HBJ.out)
        have HVW := Lib.hid (view_ok (c := oc) HONES.out HNJ.out oA (grpL a8 8).length (grpL a8 8) grpL_mem (by omega) (Rd.own HOJ.out))
        clear HN5 HM5 HB5
        go_wp2_with fail
        refine HVW.out.mono ?_
        clear HVW
        rintro e w7 ⟨vA, vc, L, rfl, hvc, hvo, hLv, hb7⟩
        have HVO := Lib.hid hvo
        have HLV := Lib.hid hLv
        have HB7 := Lib.hid (bnextK HBWJ.out hb7)
        have HM7 := Lib.hid (HMJ.out.far hb7)
        have HO7 : Hid (w7.ownsRow w5.heap.size 9 1 (.slice oA (grpL a8 8).length oc) (grpL a8 8).length ((grpL a8 8).map encS)) := Lib.hid (ownsRow_below HOJ.out hb7 (Nat.le_refl _))
        have hLK : L.length ≤ K := by
          have e1 := congrArg List.length hLv
          rw [List.length_map] at e1
          have := HS.out.seen_len (grpL a8 8)
          omega
        clear hvo hLv hb7 HNJ HMJ HBWJ HOJ HBJ
        by_cases hqL : q + 1 ≤ L.length
        · have hqi : (q : Int) + 1 ≤ (L.length : Int) := by omega
          clear HLV HVO
          go_wp2_with fail
          refine (HW.out _).mono ?_
          rintro e w8 ⟨rfl, hb8⟩
          have HB8 := Lib.hid (bnextK HB7.out hb8)
          clear hb8
          go_wp2_with fail
          go_ret
          exact ⟨rfl, HB8.out⟩
        · have hqi : ¬ (q : Int) + 1 ≤ (L.length : Int) := by omega
          have HSH2 := Lib.hid (HSHT.out w7 HB7.out)
          go_wp2_with fail
          refine HSH2.out.mono ?_
          clear HSH2 HSHT
          rintro e w8 ⟨tA, tc, rfl, htc, _, hb8⟩
          rw [← HSEC.out] at htc ⊢
          have HB8 := Lib.hid (bnextK HB7.out hb8)
          have HM8 := Lib.hid (HM7.out.far hb8)
          have HVO8 := Lib.hid (HVO.out.past hb8)
          have HO8 := Lib.hid (ownsRow_below HO7.out hb8 (Nat.le_refl _))
          clear hb8 HM7 HVO HO7 HB7
          obtain ⟨o, ho⟩ : ∃ o, o = coinL sec.length l4 := ⟨_, rfl⟩
          have hol : o.length = sec.length := by rw [ho, coinL_len]
          have HOL := Lib.hid hol
          have HOB : Hid (Bytes o) := Lib.hid (by rw [ho]; exact coinL_bytes HB4.out)
          obtain ⟨M, hM⟩ : ∃ M, M = sec.length := ⟨_, rfl⟩
          have hM12 : M ≤ 12 := by rw [hM]; exact HSL.out.2
          obtain ⟨cs, hcs⟩ : ∃ cs, cs = u8s (l4.take M) := ⟨_, rfl⟩
          have hcl : cs.length = Nat.min n4 M := by rw [hcs]; unfold u8s; rw [List.length_map, List.length_take, HL4.out]; exact Nat.min_comm _ _
          have hsp : splice (List.replicate M (Value.int .u8 0)) 0 cs = u8s o := by rw [ho, ← hM]; exact splice_c9 M l4 cs hcs (by rw [HL4.out]; exact hcl)
          have hmk := fun w => make_u8 w M (Nat.le_trans hM12 (by decide))
          have HCS := Lib.hid hcs; have HCL := Lib.hid hcl; have HSP := Lib.hid hsp; have HM := Lib.hid hM
          rw [← hM] at htc ⊢
          have hpos : 0 < cs.length → ∃ ad, A4 = some ad ∧ ∀ j v, cs[j]? = some v → (w8.alloc (.cells (Array.replicate M (.int .u8 0)) 5)).cell? (ad.add j) = some v := fun h0 => by
            have h2 := ((HR4.out.below HB8.out).mono HB8.out.size).alloc (Nat.le_refl _) (.cells (Array.replicate M (.int .u8 0)) 5)
            obtain ⟨b, off, hA, _, hcc⟩ := h2.2 (by have h1 := HCL.out; change _ = min n4 M at h1; omega)
            refine ⟨_, hA, fun j v hj => ?_⟩
            rw [addr_add]
            refine hcc j v ?_
            rw [HCS.out] at hj
            unfold u8s at hj
            rw [List.map_take, List.getElem?_take] at hj
            split at hj
            · exact hj
            · cases hj
          have hfit : 0 + cs.length ≤ (List.replicate M (Value.int .u8 0)).length := by
            have h1 := HCL.out; change _ = min n4 M at h1; rw [List.length_replicate]; omega
          have hone : ∀ v ∈ cs, v.oneCell' = true := by rw [HCS.out]; intro u hu; unfold u8s at hu; obtain ⟨_, _, rfl⟩ := List.mem_map.1 hu; rfl
          have HP := Lib.hid hpos; have HF := Lib.hid hfit; have HO := Lib.hid hone
          have HML := Lib.hid hM12
          have HQL := Lib.hid hqL
          clear hpos hfit hone hcs hcl hsp hM ho hol hM12 hqL hLK
          go_wp2_with (with_reducible refine wpList_copy_splice rfl _ _ _ _ rfl 5 (by kernel_rfl) (by kernel_rfl) _ _ _ _ _ _ rfl rfl w8.heap.size 0 (List.replicate M (.int .u8 0)) 5 (by simpa using heap_alloc_new w8 (.cells (Array.replicate M (.int .u8 0)) 5)) cs HCL.out (fun h0 => ⟨rfl, HP.out h0⟩) HF.out HO.out w8.heap.size w8 ((Below.refl _ _).alloc (Nat.le_refl _) _) (Nat.le_refl _) ?_; intro w9 HG hb9)
          have hgs := HG.out
          rw [HSP.out] at hgs
          have HOO : Hid (w9.ownsRow w8.heap.size 5 1 (.slice (some ⟨w8.heap.size, 0, none⟩) M M) M (u8s o)) := Lib.hid (own_blk9 hgs (by unfold u8s; rw [List.length_map, HOL.out, HM.out]) (by have := HML.out; omega) (Nat.le_refl _))
          have HB9 := Lib.hid (bnextK HB8.out hb9)
          have HM9 := Lib.hid (HM8.out.far hb9)
          have HVO9 := Lib.hid (HVO8.out.past hb9)
          have HO9 := Lib.hid (ownsRow_below HO8.out hb9 (Nat.le_refl _))
          have HZ9 := Lib.hid hb9.size
          clear hb9 hgs HG HP HF HO HM8 HVO8 HO8 HSP HB8
          generalize w8.heap.size = zo at *
          obtain ⟨eE, hS2, hseen⟩ := HS.out.hides HVO9.out.rd.lens HLV.out (by have := HQL.out; omega) HOB.out (by rw [HOL.out])
          have HS2 := Lib.hid hS2; have HSE := Lib.hid hseen
          obtain ⟨cc, hcc⟩ : ∃ cc, cc = explS L ((q : Int) + 1) o := ⟨_, rfl⟩
          rw [← hcc] at HS2 HSE
          have HEX : Hid (Calls Tryz.prog 17 #[.slice vA L.length vc, .int .i64 ((q : Int) + 1), .slice (some ⟨zo, 0, none⟩) M M] w9 (RetES w9 0 cc)) := Lib.hid (by
            have := Expl_any vA (some ⟨zo, 0, none⟩) L.length vc M M ((q : Int) + 1) L o w9 (by have := HQL.out; omega) HVO9.out.rd HOB.out (Rd.own HOO.out)
            rw [HOL.out, eE, ← hcc] at this
            exact this)
          clear eE hS2 hseen hcc
          have HLL : Hid (∃ ll, ll = L.length) := Lib.hid ⟨_, rfl⟩
          obtain ⟨ll, hll⟩ := HLL.out
          have HLLE := Lib.hid hll
          rw [← hll] at HEX hvc hqi ⊢
          clear hll HLL
          go_wp2_with fail
          refine HEX.out.mono ?_
          clear HEX
          rintro e w10 ⟨cA, cm, ccap, rfl, hcm, hcl, hcr, hb10⟩
          have HCR := Lib.hid hcr
          have HCL2 := Lib.hid hcl
          have HB10 := Lib.hid (bnextK HB9.out hb10)
          have HM10 := Lib.hid (HM9.out.far hb10)
          have HVO10 := Lib.hid (HVO9.out.past hb10)
          have HO10 := Lib.hid (ownsRow_below HO9.out hb10 (Nat.le_refl _))
          have HOO10 := Lib.hid (ownsRow_below HOO.out hb10 (Nat.le_refl _))
          clear hcr hcl hb10 HM9 HVO9 HO9 HOO HB9
          have HSEND : Hid (∀ W, Below w10.heap.size w10 W → Calls Tryz.prog 18 #[.pointer (some ⟨N', 0, none⟩), encS (nm a), encS (nm b), .slice (some ⟨zo, 0, none⟩) M M, .int .i64 (K : Int), .int .i64 ((q : Int) + 1), .slice cA cm ccap] W (SendOk N' sN bn' bl' (nm a) (nm b) o cc M K q W)) := Lib.hid fun W hW => by
            have h2 := ownsRow_below HOO10.out hW (Nat.le_refl _)
            have hs2 := HS2.out
            rw [← HM.out] at hs2
            exact sendM_ok hs2 HSM.out.sents (HM10.out.far hW) (some ⟨zo, 0, none⟩) cA M cm ccap (by rw [← HCL2.out]; exact hs2.cl) (Nat.le_refl _) hcm (nm_len a ha8) (nm_len b hb8) (Rd.own h2) ((HCR.out.below hW).mono hW.size)
          go_wp2_with fail
          try simp only [Act.put, List.setIfInBounds_toArray, List.set_cons_zero, List.set_cons_succ]
          go_cut [31, 35] from 119 to 170 (fun v31 v35 wc => v31 = .int .i64 0 ∧ v35 = .int .i64 1 ∧ ∃ W, Below w10.heap.size w10 W ∧ ∃ vs', NetAt wc N' (sendN sN (nm a) (nm b) o cc M K q) bn' bl' (.slice none 0 0) vs' ∧ KeepL [N', bl'] W wc ∧ NetAt W N' sN bn' bl' (.slice none 0 0) (.slice none 0 0))
          case first =>
            refine wp_region_held_drew (S := (fun _ => True)) (by kernel_rfl) ?_ (fun hHeld => ?_)
            · (try dsimp only); all_goals trivial
            refine wpAnyH_take (i := 0) (oi := ⟨some 120, _, _, _, _, _⟩) (v := ?_) rfl (by kernel_rfl) (by kernel_rfl) (by kernel_rfl) (fun _ _ _ h => h) (Or.inl ⟨by rfl, ?_⟩) (by assumption) ?_
            rotate_left
            · (intro w hSw; (try dsimp only at hSw); go_simp; try with_reducible rfl)
            try simp only [Act.put, List.setIfInBounds_toArray, List.set_cons_zero, List.set_cons_succ]
            refine wpAnyH_take (i := 2) (oi := ⟨some 122, _, _, _, _, _⟩) (v := ?_) rfl (by kernel_rfl) (by kernel_rfl) (by kernel_rfl) (fun _ _ _ h => h) (Or.inl ⟨by rfl, ?_⟩) (by assumption) ?_
            rotate_left
            · (intro w hSw; (try dsimp only at hSw); go_simp; try with_reducible rfl)
            try simp only [Act.put, List.setIfInBounds_toArray, List.set_cons_zero, List.set_cons_succ]
            refine wpAnyH_take (i := 3) (oi := ⟨some 123, _, _, _, _, _⟩) (v := ?_) rfl (by kernel_rfl) (by kernel_rfl) (by kernel_rfl) (fun _ _ _ h => h) (Or.inl ⟨by rfl, ?_⟩) (by assumption) ?_
            rotate_left
            · (intro w hSw; (try dsimp only at hSw); go_simp; try with_reducible rfl)
            try simp only [Act.put, List.setIfInBounds_toArray, List.set_cons_zero, List.set_cons_succ]
            refine wpAnyH_take (i := 7) (oi := ⟨some 127, _, _, _, _, _⟩) (v := ?_) rfl (by kernel_rfl) (by kernel_rfl) (by kernel_rfl) (fun _ _ _ h => h) (Or.inl ⟨by rfl, ?_⟩) (by assumption) ?_
            rotate_left
            · (intro w hSw; (try dsimp only at hSw); go_simp; try with_reducible rfl)
            try simp only [Act.put, List.setIfInBounds_toArray, List.set_cons_zero, List.set_cons_succ]
            refine wpAnyH_take (i := 8) (oi := ⟨some 128, _, _, _, _, _⟩) (v := ?_) rfl (by kernel_rfl) (by kernel_rfl) (by kernel_rfl) (fun _ _ _ h => h) (Or.inl ⟨by rfl, ?_⟩) (by assumption) ?_
            rotate_left
            · (intro w hSw; (try dsimp only at hSw); go_simp; try with_reducible rfl)
            try simp only [Act.put, List.setIfInBounds_toArray, List.set_cons_zero, List.set_cons_succ]
            refine wpAnyH_take (i := 11) (oi := ⟨some 131, _, _, _, _, _⟩) (v := ?_) rfl (by kernel_rfl) (by kernel_rfl) (by kernel_rfl) (fun _ _ _ h => h) (Or.inl ⟨by rfl, ?_⟩) (by assumption) ?_
            rotate_left
            · (intro w hSw; (try dsimp only at hSw); go_simp; try with_reducible rfl)
            try simp only [Act.put, List.setIfInBounds_toArray, List.set_cons_zero, List.set_cons_succ]
            refine wpAnyH_take (i := 12) (oi := ⟨some 132, _, _, _, _, _⟩) (v := ?_) rfl (by kernel_rfl) (by kernel_rfl) (by kernel_rfl) (fun _ _ _ h => h) (Or.inl ⟨by rfl, ?_⟩) (by assumption) ?_
            rotate_left
            · (intro w hSw; (try dsimp only at hSw); go_simp; try with_reducible rfl)
            try simp only [Act.put, List.setIfInBounds_toArray, List.set_cons_zero, List.set_cons_succ]
            refine wpAnyH_take (i := 13) (oi := ⟨some 133, _, _, _, _, _⟩) (v := ?_) rfl (by kernel_rfl) (by kernel_rfl) (by kernel_rfl) (fun _ _ _ h => h) (Or.inl ⟨by rfl, ?_⟩) (by assumption) ?_
            rotate_left
            · (intro w hSw; (try dsimp only at hSw); go_simp; try with_reducible rfl)
            try simp only [Act.put, List.setIfInBounds_toArray, List.set_cons_zero, List.set_cons_succ]
            refine wpAnyH_take (i := 14) (oi := ⟨some 134, _, _, _, _, _⟩) (v := ?_) rfl (by kernel_rfl) (by kernel_rfl) (by kernel_rfl) (fun _ _ _ h => h) (Or.inl ⟨by rfl, ?_⟩) (by assumption) ?_
            rotate_left
            · (intro w hSw; (try dsimp only at hSw); go_simp; try with_reducible rfl)
            try simp only [Act.put, List.setIfInBounds_toArray, List.set_cons_zero, List.set_cons_succ]
            refine wpAnyH_ready (rs := [1]) (by kernel_rfl) (by simp) ?_
            refine AllReadyH.cons (o := ⟨some 121, _, _, _, _, _⟩) rfl (fun K hK => ?_) AllReadyH.nil
            go_simp
            refine (names_any _).mono ?_
            rintro e w4' ⟨rfl, hw3⟩
            obtain ⟨f3, b3⟩ := names_fact hw3
            have x3 : w4'.cell? ⟨w10.heap.size, a, none⟩ = some (encS (nm a)) := f3 a ha8
            have BI : Below w10.heap.size w10 w4' := bnextK (Qw.below ⟨1, rfl⟩ _) b3
            clear hw3 f3
            go_wp2_with fail
            refine hK.out _ _ ?_ (fun hHeld => ?_)
            · (try dsimp only); all_goals trivial
            clear hK K
            try simp only [Act.put, List.setIfInBounds_toArray, List.set_cons_zero, List.set_cons_succ]
            refine wpAnyH_take (i := 4) (oi := ⟨some 124, _, _, _, _, _⟩) (v := ?_) rfl (by kernel_rfl) (by kernel_rfl) (by kernel_rfl) (fun _ _ _ h => h) (Or.inl ⟨by rfl, ?_⟩) (by assumption) ?_
            rotate_left
            · (intro w hSw; (try dsimp only at hSw); go_simp; try with_reducible rfl)
            try simp only [Act.put, List.setIfInBounds_toArray, List.set_cons_zero, List.set_cons_succ]
            refine wpAnyH_ready (rs := [5, 6]) (by kernel_rfl) (by simp) ?_
            refine AllReadyH.cons (o := ⟨some 125, _, _, _, _, _⟩) rfl (fun K hK => ?_) ?_
            · skip
              go_simp
              refine hK.out _ _ ?_ (fun hHeld => ?_)
              · (try dsimp only); all_goals trivial
              clear hK K
              try simp only [Act.put, List.setIfInBounds_toArray, List.set_cons_zero, List.set_cons_succ]
              refine wpAnyH_ready (rs := [6]) (by kernel_rfl) (by simp) ?_
              refine AllReadyH.cons (o := ⟨some 126, _, _, _, _, _⟩) rfl (fun K hK => ?_) AllReadyH.nil
              go_simp
              refine (names_any _).mono ?_
              rintro e wq ⟨rfl, hw4⟩
              obtain ⟨f4, b4⟩ := names_fact hw4
              have y4 := f4 b hb8
              have x3 : wq.cell? ⟨w10.heap.size, a, none⟩ = some (encS (nm a)) := (b4.cell (p := ⟨w10.heap.size, a, none⟩) (cell_ltO x3)).trans x3
              have BI := bnextK BI b4
              clear hw4 f4
              go_wp2_with fail
              refine hK.out _ _ ?_ (fun hHeld => ?_)
              · (try dsimp only); all_goals trivial
              clear hK K
              try simp only [Act.put, List.setIfInBounds_toArray, List.set_cons_zero, List.set_cons_succ]
              refine wpAnyH_take (i := 9) (oi := ⟨some 129, _, _, _, _, _⟩) (v := ?_) rfl (by kernel_rfl) (by kernel_rfl) (by kernel_rfl) (fun _ _ _ h => h) (Or.inl ⟨by rfl, ?_⟩) (by assumption) ?_
              rotate_left
              · (intro w hSw; (try dsimp only at hSw); go_simp; try with_reducible rfl)
              try simp only [Act.put, List.setIfInBounds_toArray, List.set_cons_zero, List.set_cons_succ]
              refine wpAnyH_ready (rs := [10]) (by kernel_rfl) (by simp) ?_
              refine AllReadyH.cons (o := ⟨some 130, _, _, _, _, _⟩) rfl (fun K hK => ?_) AllReadyH.nil
              go_simp
              refine hK.out _ _ ?_ (fun hHeld => ?_)
              · (try dsimp only); all_goals trivial
              clear hK K
              try simp only [Act.put, List.setIfInBounds_toArray, List.set_cons_zero, List.set_cons_succ]
              refine wpAnyH_ready (rs := [15]) (by kernel_rfl) (by simp) ?_
              refine AllReadyH.cons (o := ⟨some 135, _, _, _, _, _⟩) rfl (fun K hK => ?_) AllReadyH.nil
              go_simp
              refine (HSEND.out _ BI).mono ?_
              rintro e w5' ⟨vs2, rfl, hn5, hk5⟩
              have HN5' := Lib.hid hn5; have HK5' := Lib.hid hk5
              have HNB := Lib.hid (HM10.out.far BI)
              clear hn5 hk5
              go_wp2_with fail
              refine hK.out _ _ ?_ (fun hHeld => ?_)
              · (try dsimp only); all_goals trivial
              clear hK K
              try simp only [Act.put, List.setIfInBounds_toArray, List.set_cons_zero, List.set_cons_succ]
              refine wpAnyH_take (i := 16) (oi := ⟨some 119, _, _, _, _, _⟩) (v := ?_) rfl (by kernel_rfl) (by kernel_rfl) (by kernel_rfl) (fun _ _ _ h => h) (Or.inl ⟨by rfl, ?_⟩) (by assumption) ?_
              rotate_left
              · (intro w hSw; (try dsimp only at hSw); go_simp; try with_reducible rfl)
              try simp only [Act.put, List.setIfInBounds_toArray, List.set_cons_zero, List.set_cons_succ]
              refine wpAnyH_take (i := 17) (oi := ⟨some 136, _, _, _, _, _⟩) (v := ?_) rfl (by kernel_rfl) (by kernel_rfl) (by kernel_rfl) (fun _ _ _ h => h) (Or.inl ⟨by rfl, ?_⟩) (by assumption) ?_
              rotate_left
              · (intro w hSw; (try dsimp only at hSw); go_simp; try with_reducible rfl)
              try simp only [Act.put, List.setIfInBounds_toArray, List.set_cons_zero, List.set_cons_succ]
              refine wpAnyH_take (i := 18) (oi := ⟨some 137, _, _, _, _, _⟩) (v := ?_) rfl (by kernel_rfl) (by kernel_rfl) (by kernel_rfl) (fun _ _ _ h => h) (Or.inl ⟨by rfl, ?_⟩) (by assumption) ?_
              rotate_left
              · (intro w hSw; (try dsimp only at hSw); go_simp; try with_reducible rfl)
              try simp only [Act.put, List.setIfInBounds_toArray, List.set_cons_zero, List.set_cons_succ]
              refine wpAnyH_take (i := 19) (oi := ⟨some 35, _, _, _, _, _⟩) (v := ?_) rfl (by kernel_rfl) (by kernel_rfl) (by kernel_rfl) (fun _ _ _ h => h) (Or.inl ⟨by rfl, ?_⟩) (by assumption) ?_
              rotate_left
              · (intro w hSw; (try dsimp only at hSw); go_simp; try with_reducible rfl)
              try simp only [Act.put, List.setIfInBounds_toArray, List.set_cons_zero, List.set_cons_succ]
              refine wpAnyH_take (i := 20) (oi := ⟨some 31, _, _, _, _, _⟩) (v := ?_) rfl (by kernel_rfl) (by kernel_rfl) (by kernel_rfl) (fun _ _ _ h => h) (Or.inl ⟨by rfl, ?_⟩) (by assumption) ?_
              rotate_left
              · (intro w hSw; (try dsimp only at hSw); go_simp; try with_reducible rfl)
              try simp only [Act.put, List.setIfInBounds_toArray, List.set_cons_zero, List.set_cons_succ]
              refine wpAnyH_done (by kernel_rfl) ?_ _
              go_wp2_with fail
              go_meet
              exact ⟨rfl, rfl, _, BI, vs2, HN5'.out, HK5'.out, HNB.out⟩
            refine AllReadyH.cons (o := ⟨some 126, _, _, _, _, _⟩) rfl (fun K hK => ?_) AllReadyH.nil
            go_simp
            refine (names_any _).mono ?_
            rintro e wq ⟨rfl, hw4⟩
            obtain ⟨f4, b4⟩ := names_fact hw4
            have y4 := f4 b hb8
            have x3 : wq.cell? ⟨w10.heap.size, a, none⟩ = some (encS (nm a)) := (b4.cell (p := ⟨w10.heap.size, a, none⟩) (cell_ltO x3)).trans x3
            have BI := bnextK BI b4
            clear hw4 f4
            go_wp2_with fail
            refine hK.out _ _ ?_ (fun hHeld => ?_)
            · (try dsimp only); all_goals trivial
            clear hK K
            try simp only [Act.put, List.setIfInBounds_toArray, List.set_cons_zero, List.set_cons_succ]
            refine wpAnyH_take (i := 9) (oi := ⟨some 129, _, _, _, _, _⟩) (v := ?_) rfl (by kernel_rfl) (by kernel_rfl) (by kernel_rfl) (fun _ _ _ h => h) (Or.inl ⟨by rfl, ?_⟩) (by assumption) ?_
            rotate_left
            · (intro w hSw; (try dsimp only at hSw); go_simp; try with_reducible rfl)
            try simp only [Act.put, List.setIfInBounds_toArray, List.set_cons_zero, List.set_cons_succ]
            refine wpAnyH_ready (rs := [5, 10]) (by kernel_rfl) (by simp) ?_
            refine AllReadyH.cons (o := ⟨some 125, _, _, _, _, _⟩) rfl (fun K hK => ?_) ?_
            · skip
              go_simp
              refine hK.out _ _ ?_ (fun hHeld => ?_)
              · (try dsimp only); all_goals trivial
              clear hK K
              try simp only [Act.put, List.setIfInBounds_toArray, List.set_cons_zero, List.set_cons_succ]
              refine wpAnyH_ready (rs := [10]) (by kernel_rfl) (by simp) ?_
              refine AllReadyH.cons (o := ⟨some 130, _, _, _, _, _⟩) rfl (fun K hK => ?_) AllReadyH.nil
              go_simp
              refine hK.out _ _ ?_ (fun hHeld => ?_)
              · (try dsimp only); all_goals trivial
              clear hK K
              try simp only [Act.put, List.setIfInBounds_toArray, List.set_cons_zero, List.set_cons_succ]
              refine wpAnyH_ready (rs := [15]) (by kernel_rfl) (by simp) ?_
              refine AllReadyH.cons (o := ⟨some 135, _, _, _, _, _⟩) rfl (fun K hK => ?_) AllReadyH.nil
              go_simp
              refine (HSEND.out _ BI).mono ?_
              rintro e w5' ⟨vs2, rfl, hn5, hk5⟩
              have HN5' := Lib.hid hn5; have HK5' := Lib.hid hk5
              have HNB := Lib.hid (HM10.out.far BI)
              clear hn5 hk5
              go_wp2_with fail
              refine hK.out _ _ ?_ (fun hHeld => ?_)
              · (try dsimp only); all_goals trivial
              clear hK K
              try simp only [Act.put, List.setIfInBounds_toArray, List.set_cons_zero, List.set_cons_succ]
              refine wpAnyH_take (i := 16) (oi := ⟨some 119, _, _, _, _, _⟩) (v := ?_) rfl (by kernel_rfl) (by kernel_rfl) (by kernel_rfl) (fun _ _ _ h => h) (Or.inl ⟨by rfl, ?_⟩) (by assumption) ?_
              rotate_left
              · (intro w hSw; (try dsimp only at hSw); go_simp; try with_reducible rfl)
              try simp only [Act.put, List.setIfInBounds_toArray, List.set_cons_zero, List.set_cons_succ]
              refine wpAnyH_take (i := 17) (oi := ⟨some 136, _, _, _, _, _⟩) (v := ?_) rfl (by kernel_rfl) (by kernel_rfl) (by kernel_rfl) (fun _ _ _ h => h) (Or.inl ⟨by rfl, ?_⟩) (by assumption) ?_
              rotate_left
              · (intro w hSw; (try dsimp only at hSw); go_simp; try with_reducible rfl)
              try simp only [Act.put, List.setIfInBounds_toArray, List.set_cons_zero, List.set_cons_succ]
              refine wpAnyH_take (i := 18) (oi := ⟨some 137, _, _, _, _, _⟩) (v := ?_) rfl (by kernel_rfl) (by kernel_rfl) (by kernel_rfl) (fun _ _ _ h => h) (Or.inl ⟨by rfl, ?_⟩) (by assumption) ?_
              rotate_left
              · (intro w hSw; (try dsimp only at hSw); go_simp; try with_reducible rfl)
              try simp only [Act.put, List.setIfInBounds_toArray, List.set_cons_zero, List.set_cons_succ]
              refine wpAnyH_take (i := 19) (oi := ⟨some 35, _, _, _, _, _⟩) (v := ?_) rfl (by kernel_rfl) (by kernel_rfl) (by kernel_rfl) (fun _ _ _ h => h) (Or.inl ⟨by rfl, ?_⟩) (by assumption) ?_
              rotate_left
              · (intro w hSw; (try dsimp only at hSw); go_simp; try with_reducible rfl)
              try simp only [Act.put, List.setIfInBounds_toArray, List.set_cons_zero, List.set_cons_succ]
              refine wpAnyH_take (i := 20) (oi := ⟨some 31, _, _, _, _, _⟩) (v := ?_) rfl (by kernel_rfl) (by kernel_rfl) (by kernel_rfl) (fun _ _ _ h => h) (Or.inl ⟨by rfl, ?_⟩) (by assumption) ?_
              rotate_left
              · (intro w hSw; (try dsimp only at hSw); go_simp; try with_reducible rfl)
              try simp only [Act.put, List.setIfInBounds_toArray, List.set_cons_zero, List.set_cons_succ]
              refine wpAnyH_done (by kernel_rfl) ?_ _
              go_wp2_with fail
              go_meet
              exact ⟨rfl, rfl, _, BI, vs2, HN5'.out, HK5'.out, HNB.out⟩
            refine AllReadyH.cons (o := ⟨some 130, _, _, _, _, _⟩) rfl (fun K hK => ?_) AllReadyH.nil
            go_simp
            refine hK.out _ _ ?_ (fun hHeld => ?_)
            · (try dsimp only); all_goals trivial
            clear hK K
            try simp only [Act.put, List.setIfInBounds_toArray, List.set_cons_zero, List.set_cons_succ]
            refine wpAnyH_ready (rs := [5]) (by kernel_rfl) (by simp) ?_
            refine AllReadyH.cons (o := ⟨some 125, _, _, _, _, _⟩) rfl (fun K hK => ?_) AllReadyH.nil
            go_simp
            refine hK.out _ _ ?_ (fun hHeld => ?_)
            · (try dsimp only); all_goals trivial
            clear hK K
            try simp only [Act.put, List.setIfInBounds_toArray, List.set_cons_zero, List.set_cons_succ]
            refine wpAnyH_ready (rs := [15]) (by kernel_rfl) (by simp) ?_
            refine AllReadyH.cons (o := ⟨some 135, _, _, _, _, _⟩) rfl (fun K hK => ?_) AllReadyH.nil
            go_simp
            refine (HSEND.out _ BI).mono ?_
            rintro e w5' ⟨vs2, rfl, hn5, hk5⟩
            have HN5' := Lib.hid hn5; have HK5' := Lib.hid hk5
            have HNB := Lib.hid (HM10.out.far BI)
            clear hn5 hk5
            go_wp2_with fail
            refine hK.out _ _ ?_ (fun hHeld => ?_)
            · (try dsimp only); all_goals trivial
            clear hK K
            try simp only [Act.put, List.setIfInBounds_toArray, List.set_cons_zero, List.set_cons_succ]
            refine wpAnyH_take (i := 16) (oi := ⟨some 119, _, _, _, _, _⟩) (v := ?_) rfl (by kernel_rfl) (by kernel_rfl) (by kernel_rfl) (fun _ _ _ h => h) (Or.inl ⟨by rfl, ?_⟩) (by assumption) ?_
            rotate_left
            · (intro w hSw; (try dsimp only at hSw); go_simp; try with_reducible rfl)
            try simp only [Act.put, List.setIfInBounds_toArray, List.set_cons_zero, List.set_cons_succ]
            refine wpAnyH_take (i := 17) (oi := ⟨some 136, _, _, _, _, _⟩) (v := ?_) rfl (by kernel_rfl) (by kernel_rfl) (by kernel_rfl) (fun _ _ _ h => h) (Or.inl ⟨by rfl, ?_⟩) (by assumption) ?_
            rotate_left
            · (intro w hSw; (try dsimp only at hSw); go_simp; try with_reducible rfl)
            try simp only [Act.put, List.setIfInBounds_toArray, List.set_cons_zero, List.set_cons_succ]
            refine wpAnyH_take (i := 18) (oi := ⟨some 137, _, _, _, _, _⟩) (v := ?_) rfl (by kernel_rfl) (by kernel_rfl) (by kernel_rfl) (fun _ _ _ h => h) (Or.inl ⟨by rfl, ?_⟩) (by assumption) ?_
            rotate_left
            · (intro w hSw; (try dsimp only at hSw); go_simp; try with_reducible rfl)
            try simp only [Act.put, List.setIfInBounds_toArray, List.set_cons_zero, List.set_cons_succ]
            refine wpAnyH_take (i := 19) (oi := ⟨some 35, _, _, _, _, _⟩) (v := ?_) rfl (by kernel_rfl) (by kernel_rfl) (by kernel_rfl) (fun _ _ _ h => h) (Or.inl ⟨by rfl, ?_⟩) (by assumption) ?_
            rotate_left
            · (intro w hSw; (try dsimp only at hSw); go_simp; try with_reducible rfl)
            try simp only [Act.put, List.setIfInBounds_toArray, List.set_cons_zero, List.set_cons_succ]
            refine wpAnyH_take (i := 20) (oi := ⟨some 31, _, _, _, _, _⟩) (v := ?_) rfl (by kernel_rfl) (by kernel_rfl) (by kernel_rfl) (fun _ _ _ h => h) (Or.inl ⟨by rfl, ?_⟩) (by assumption) ?_
            rotate_left
            · (intro w hSw; (try dsimp only at hSw); go_simp; try with_reducible rfl)
            try simp only [Act.put, List.setIfInBounds_toArray, List.set_cons_zero, List.set_cons_succ]
            refine wpAnyH_done (by kernel_rfl) ?_ _
            go_wp2_with fail
            go_meet
            exact ⟨rfl, rfl, _, BI, vs2, HN5'.out, HK5'.out, HNB.out⟩
          case rest =>
            obtain ⟨w11, rfl⟩ : ∃ z : World, z = wc := ⟨_, rfl⟩
            obtain ⟨rfl, rfl, W, hbW, vs2, hnet2, hkeep, hnetW⟩ := hcut
            have hck := hnetW.ckS hkeep
            have HVO11 : Hid (ShOwn w11 _ (.slice vA L.length vc) L.length L) := Lib.hid ((HVO10.out.past hbW).ck hck (by decide) (by decide))
            have HO11 := Lib.hid (ownsRow_ck (ownsRow_below HO10.out hbW (Nat.le_refl _)) hck (by decide))
            have HOO11 := Lib.hid (ownsRow_ck (ownsRow_below HOO10.out hbW (Nat.le_refl _)) hck (by decide))
            have HB11 : Hid (Below w.heap.size w w11) := Lib.hid ((bnextK HB10.out hbW).trans (hkeep.below (bnextK HB10.out hbW).size (by
              intro k hk
              simp only [List.mem_cons, List.not_mem_nil, or_false] at hk
              rcases hk with rfl | rfl
              · exact HLO.out.1
              · exact HLO.out.2)))
            have hs2 := HS2.out
            rw [← HM.out] at hs2
            have HONE2 := Lib.hid (OneSent.of HSM.out hs2)
            have HN11 := Lib.hid hnet2
            have hse := HSE.out
            rw [← HM.out] at hse
            have HSE2 := Lib.hid hse
            clear hck hkeep hnetW hbW hnet2 hs2 hse HM10 HVO10 HO10 HOO10 HSEND HSE HS2 HCR HB10
            generalize sendN sN (nm a) (nm b) o cc M K q = S2 at *
            have HVW := Lib.hid (view_ok (c := oc) HONE2.out HN11.out oA (grpL a8 8).length (grpL a8 8) grpL_mem (by omega) (Rd.own HO11.out))
            go_wp2_with fail
            refine HVW.out.mono ?_
            clear HVW
            rintro e w12 ⟨uA, uc, L2, rfl, huc, huo, hLv2, hb12⟩
            have HVE : Hid (L.map ShareV.view = L2.map ShareV.view) := Lib.hid (by rw [hLv2]; exact HSE2.out.symm)
            have hl2 : L2.length = L.length := by
              have := congrArg List.length HVE.out
              rw [List.length_map, List.length_map] at this
              exact this.symm
            rw [hl2] at huc huo ⊢
            have HVO12 := Lib.hid (HVO11.out.past hb12)
            have HSHS := Lib.hid (shares09_yes vA uA L.length vc uc L L2 w12 w12.heap.size (by have := HQL.out; have := HLLE.out; omega) HVO12.out.rd huo.rd HVE.out)
            have HB12 := Lib.hid (bnextK HB11.out hb12)
            have HN12 := Lib.hid (HN11.out.far hb12)
            have HOO12 := Lib.hid (ownsRow_below HOO11.out hb12 (Nat.le_refl _))
            rw [← HLLE.out] at HSHS huc ⊢
            clear huo hLv2 hb12 HN11 HVO11 HOO11 HB11 HVO12 HVE hl2
            go_wp2_with fail
            refine HSHS.out.mono ?_
            clear HSHS
            rintro e w13 ⟨rfl, hq13⟩
            have HB13 := Lib.hid (bnextK HB12.out (hq13.below w12.heap.size))
            have HN13 := Lib.hid (HN12.out.far (hq13.below w12.heap.size))
            have HOO13 := Lib.hid (ownsRow_below HOO12.out (hq13.below w12.heap.size) (Nat.le_refl _))
            clear hq13
            go_wp2_with fail
            refine (deliver_ok HONE2.out HN13.out).mono ?_
            rintro e w14 ⟨dA, dc, rfl, hdc, hdr, hb14⟩
            have HOO14 := Lib.hid (ownsRow_below HOO13.out hb14 (Nat.le_refl _))
            have HBY := Lib.hid (bytes09_yes dA (some ⟨zo, 0, none⟩) o.length M dc M o w14 w14.heap.size HOB.out hdr (Rd.own HOO14.out))
            have HB14 := Lib.hid (bnextK HB13.out hb14)
            clear hdr hb14
            generalize o.length = ol at *
            go_wp2_with fail
            refine HBY.out.mono ?_
            clear HBY
            rintro e w15 ⟨rfl, rfl⟩
            go_wp2_with fail
            refine (HW.out _).mono ?_
            rintro e w16 ⟨rfl, hb16⟩
            have HB16 := Lib.hid (bnextK HB14.out hb16)
            clear hb16
            go_wp2_with fail
            go_ret
            exact ⟨rfl, HB16.out⟩
#print axioms NetworkHides_walk
end Go.Proofs.YtecndceekgaglaaGreat
