/- NetworkDelivers: the walk. Conditions: as the statement says. -/
import Derived.Test.YtecndceekgaglaaGreatDl1
import Derived.Test.YtecndceekgaglaaGreatOpenPrs
namespace Go.Proofs.YtecndceekgaglaaGreat
open Go.RowKit
set_option linter.unusedVariables false
def TrueD (w : World) (e : Ending) (w' : World) : Prop := e = .returned (.bool true) ∧ Below w.heap.size w w'
set_option maxRecDepth 100000 in
set_option maxHeartbeats 8000000 in
theorem NetworkDelivers_walk (v0 : Value) (i0 : PrsArg) (a1 a2 : Nat) (v3 : Value) (i3 : BytesArg) (a4 a5 : Nat) (v6 : Value) (i6 : BytesArg) (a7 : Nat) (w : World) (hx0 : IsPrs w v0 i0) (h1 : a1 < 256) (h2 : a2 < 256) (hx3 : IsBytes w v3 i3) (h4 : a4 < 256) (h5 : a5 < 256) (hx6 : IsBytes w v6 i6) (h7 : a7 < 256) :
    Calls Tryz.prog 3 #[v0, .int .u8 (a1 : Int), .int .u8 (a2 : Int), v3, .int .u8 (a4 : Int), .int .u8 (a5 : Int), v6, .int .u8 (a7 : Int)] w (TrueD w) := by
  obtain ⟨A0, n0, c0, l0⟩ := i0
  obtain ⟨A3, n3, c3, l3⟩ := i3
  obtain ⟨A6, n6, c6, l6⟩ := i6
  obtain ⟨rfl, hnc0, hc0, hln0, hrd0, hlt0⟩ := hx0
  obtain ⟨rfl, hnc3, hc3, hln3, hb3, hrd3⟩ := hx3
  obtain ⟨rfl, hnc6, hc6, hln6, hb6, hrd6⟩ := hx6
  simp only at hnc0 hc0 hln0 hrd0 hlt0 hnc3 hc3 hln3 hb3 hrd3 hnc6 hc6 hln6 hb6 hrd6 ⊢
  have HSM := Lib.hid (smallG_ok l0 (fun p hp => (hlt0 p hp).2.2))
  have HSA := Lib.hid (Small_any (c := c0) l0 hrd0 (Nat.le_refl _) (by omega) hlt0)
  obtain ⟨⟨sN, st⟩, hx⟩ : ∃ x, x = smallG l0 := ⟨_, rfl⟩
  have HX := Lib.hid hx
  rw [← hx] at HSM
  simp only at HSM
  have HIN : Hid ((Tryz.prog.info? 26).map (·.size) = some (stV st).size) := Lib.hid (by rw [show (stV st).size = 64 by unfold stV; simp [HSM.out.len]]; kernel_rfl)
  have HSZ : Hid ((stV (List.replicate 64 0)).size = (stV st).size) := Lib.hid (by unfold stV; simp [HSM.out.len])
  have HONE : Hid ((stV st).all (·.oneCell') = true) := Lib.hid (stV_one _)
  obtain ⟨a, ha⟩ : ∃ a, a = a1 % 8 := ⟨_, rfl⟩
  obtain ⟨b, hb⟩ : ∃ b, b = a2 % 8 := ⟨_, rfl⟩
  obtain ⟨sec, hsec⟩ : ∃ z, z = shortL l3 := ⟨_, rfl⟩
  obtain ⟨K, hK⟩ : ∃ z, z = a4 % 4 + 1 := ⟨_, rfl⟩
  obtain ⟨q, hq⟩ : ∃ z, z = a5 % K := ⟨_, rfl⟩
  obtain ⟨co, hco⟩ : ∃ z, z = coinL (sec.length * q) l6 := ⟨_, rfl⟩
  have HSEC := Lib.hid hsec
  have HSND : Hid (∀ (N bn bl : Nat) W, NetNew w sN N bn bl W → Calls Tryz.prog 8 #[.pointer (some ⟨N, 0, none⟩), .int .u8 (a1 : Int), .int .u8 (a2 : Int), .slice A3 n3 c3, .int .u8 (a4 : Int), .int .u8 (a5 : Int), .slice A6 n6 c6] W (SndP N sN bn bl a b sec co K q W)) := Lib.hid fun N bn bl W hW => by
    rw [hco, hq, hK, hsec, ha, hb]
    exact sendL_any hW.1 HSM.out.sents A3 A6 n3 c3 n6 c6 l3 l6 a1 a2 a4 a5 h1 h2 h4 h5 hnc3 hc3 hnc6 hc6 hb3 hb6 ((hrd3.below hW.2.1).mono hW.2.1.size) ((hrd6.below hW.2.1).mono hW.2.1.size)
  have HSHT : Hid (∀ W, Below w.heap.size w W → Calls Tryz.prog 12 #[.slice A3 n3 c3] W (ShortP l3 W)) := Lib.hid fun W hW => short_any A3 n3 c3 l3 W hnc3 hc3 ((hrd3.below hW).mono hW.size)
  have HSB : Hid (Bytes sec) := Lib.hid (by rw [hsec]; exact shortL_bytes hb3)
  have HW := Lib.hid (fun W => works09_any W)
  clear hx hrd0 hlt0 hnc0 hc0 hln0 hnc3 hc3 hln3 hb3 hrd3 hnc6 hc6 hln6 hb6 hrd6 ha hb hsec hK hq hco h1 h2 h4 h5
  go_enter Tryz.func3, Tryz.ntmps3
  go_wp2_with fail
  refine HSA.out.mono ?_
  clear HSA
  rintro e w1 ⟨N, bn, bl, rfl, hnet⟩
  rw [← HX.out] at hnet ⊢
  simp only at hnet ⊢
  have HNT := Lib.hid hnet
  clear hnet
  have hsz64 : (stV st).size = 64 := by unfold stV; simp [HSM.out.len]
  go_wp2_with fail
  rw [lit64, run_storeCells_new w1 26 _ _ HIN.out HSZ.out HONE.out]
  go_wp2_with fail
  obtain ⟨w2, hw2⟩ : ∃ z, z = w1.alloc (.cells (stV st) 26) := ⟨_, rfl⟩
  have HNT2 : Hid (NetNew w sN N bn bl w2) := Lib.hid (by rw [hw2]; exact HNT.out.far (below_alloc _ _))
  rw [← hw2]
  clear hw2 HNT hsz64
  refine (HSND.out _ _ _ _ HNT2.out).mono ?_
  clear HSND
  intro e w3 hq3
  generalize w1.heap.size = X
  rcases hq3 with ⟨rfl, hb3⟩ | ⟨rfl, hs, vs', hN3, hk3, _⟩
  · have HB3 := Lib.hid (bnextK HNT2.out.2.1 hb3)
    clear hb3
    go_wp2_with fail
    refine (HW.out _).mono ?_
    rintro e w4 ⟨rfl, hb4⟩
    have HB4 := Lib.hid (bnextK HB3.out hb4)
    clear hb4
    go_wp2_with fail
    go_ret
    exact ⟨rfl, HB4.out⟩
  · have HONES := Lib.hid (OneSent.of HSM.out hs)
    have HS := Lib.hid hs
    have HN3 := Lib.hid hN3
    have HB3 : Hid (Below w.heap.size w w3) := Lib.hid (HNT2.out.2.1.trans (hk3.below HNT2.out.2.1.size (by
      intro k hk
      simp only [List.mem_cons, List.not_mem_nil, or_false] at hk
      rcases hk with rfl | rfl
      · exact HNT2.out.2.2.2.2
      · exact HNT2.out.2.2.2.1)))
    have hK4 := hs.k4
    have hqK := hs.q1
    generalize hS : sendN sN (nm a) (nm b) sec co sec.length K q = S at HN3 HONES
    clear hs hN3 hk3 hS HNT2
    go_wp2_with fail
    refine (deliver_ok HONES.out HN3.out).mono ?_
    rintro e w4 ⟨sA, sc, rfl, hsc, hsr, hb4⟩
    have HSR := Lib.hid hsr; have HB4 := Lib.hid (bnextK HB3.out hb4)
    have HN4 := Lib.hid (HN3.out.far hb4)
    clear hsr hb4 HN3
    have HSHT2 := Lib.hid (HSHT.out w4 HB4.out)
    go_wp2_with fail
    refine HSHT2.out.mono ?_
    clear HSHT2 HSHT
    rintro e w5 ⟨tA, tc, rfl, htc, hto, hb5⟩
    rw [← HSEC.out] at htc hto ⊢
    have HB5 := Lib.hid (bnextK HB4.out hb5)
    have HN5 := Lib.hid (HN4.out.far hb5)
    have HSR5 := Lib.hid ((HSR.out.below hb5).mono hb5.size)
    have HBY := Lib.hid (bytes09_any sA tA sec.length sec.length sc tc sec sec w5 w5.heap.size HSB.out HSB.out HSR5.out (Rd.own hto))
    rw [decide_eq_true rfl] at HBY
    clear hto hb5 HN4 HB4 HSR
    go_wp2_with fail
    refine HBY.out.mono ?_
    clear HBY
    rintro e w6 ⟨rfl, rfl⟩
    go_wp2_with fail
    go_loopw [25, 26, 27] (fun i _ _ wr => ∃ k : Nat, k ≤ 8 ∧ i = .int .i64 k ∧ Below w5.heap.size w5 wr) (fun i _ _ _ => 8 - (intOf i).toNat)
    case atStart => exact ⟨0, by omega, rfl, Below.refl _ _⟩
    case round =>
      obtain ⟨k, hk, rfl, hb⟩ := hrel
      obtain ⟨wi, rfl⟩ : ∃ z : World, z = wr := ⟨_, rfl⟩
      have HBI := Lib.hid hb
      clear hb
      by_cases hlt : k < 8
      · have hki : (k : Int) < 8 := by omega
        go_wp2_with fail
        refine (names_any _).mono ?_
        rintro e w6 ⟨rfl, hw6⟩
        obtain ⟨f6, b6⟩ := names_fact hw6
        have y6 := f6 k hlt
        have HB6 := Lib.hid (bnextK HBI.out b6)
        have HVW : Hid (Calls Tryz.prog 13 #[.pointer (some ⟨N, 0, none⟩), .int .i64 1, .slice (some ⟨w6.heap.size, 0, none⟩) 1 1] (w6.alloc (.cells #[encS (nm k)] 9)) (ViewOk sN (nm a) (nm b) sec co sec.length K q [nm k] (w6.alloc (.cells #[encS (nm k)] 9)))) := Lib.hid (by
          have hr := Rd.new w6 #[encS (nm k)] 9 1 1 rfl
          exact view_ok HONES.out ((HN5.out.far HB6.out).far (below_alloc _ _)) _ 1 1 [nm k] (fun x hx => ⟨k, hlt, by simpa using hx⟩) (by decide) (by simpa using hr))
        clear hw6 f6 b6
        go_wp2_with fail
        refine HVW.out.mono ?_
        clear HVW
        rintro e w7 ⟨vA, vc, L, rfl, hvc, _, hLv, hb7⟩
        have hL1 : L.length ≤ 1 := by
          have e1 := congrArg List.length hLv
          rw [List.length_map] at e1
          have := HS.out.seen_one (nm k)
          omega
        have hL2 : (L.length : Int) ≤ 1 := by omega
        have HB7 := Lib.hid (bnextK (bnextK HB6.out (below_alloc _ _)) hb7)
        clear hLv hb7 y6
        generalize L.length = ll at *
        go_wp2_with fail
        go_roundw
        case rel => exact ⟨k + 1, by omega, by go_num, HB7.out⟩
        case measure => simp [intOf]; omega
      · have hki : ¬ (k : Int) < 8 := by omega
        obtain rfl : k = 8 := by omega
        have HI0 : Hid (wi.ownsRow wi.heap.size 9 1 (.slice none 0 0) (grpL a7 0).length ((grpL a7 0).map encS) ∧ Below wi.heap.size wi wi) := Lib.hid ⟨World.ownsRow_nil _ _ _ _, Below.refl _ _⟩
        have HNI := Lib.hid (HN5.out.far HBI.out)
        have HBWI := Lib.hid (bnextK HB5.out HBI.out)
        have HSRI := Lib.hid ((HSR5.out.below HBI.out).mono HBI.out.size)
        clear HN5 HB5 HSR5 HBI
        go_wp2_with fail
        go_loopw [28, 29] (fun v i wr => ∃ k : Nat, k ≤ 8 ∧ i = .int .i64 k ∧ wr.ownsRow wi.heap.size 9 1 v (grpL a7 k).length ((grpL a7 k).map encS) ∧ Below wi.heap.size wi wr) (fun _ i _ => 8 - (intOf i).toNat)
        case atStart => exact ⟨0, by omega, rfl, HI0.out⟩
        case round =>
          obtain ⟨k, hk, rfl, ho, hb⟩ := hrel
          obtain ⟨wj, rfl⟩ : ∃ z : World, z = wr := ⟨_, rfl⟩
          have HOJ := Lib.hid ho; have HBJ := Lib.hid hb
          have hgl := grpL_len a7 k
          obtain ⟨oA, oc, rfl, hoc⟩ := own_form ho
          clear ho hb HI0
          by_cases hlt : k < 8
          · have hki : (k : Int) < 8 := by omega
            have hbits := u8_shr_and a7 k h7
            have hst := grpL_step a7 k
            by_cases ht : a7.testBit k = true
            · rw [if_pos ht] at hbits hst
              have HST := Lib.hid hst
              clear hst ht
              have hsz := HBJ.out.size
              go_wp2_with fail
              refine (names_any _).mono ?_
              rintro e w6 ⟨rfl, hw6⟩
              obtain ⟨f6, b6⟩ := names_fact hw6
              have y6 := f6 k hlt
              have HO6 : Hid (w6.ownsRow wi.heap.size 9 1 (.slice oA (grpL a7 k).length oc) (grpL a7 k).length ((grpL a7 k).map encS)) := Lib.hid (ownsRow_below HOJ.out b6 (Nat.le_refl _))
              have HB6 := Lib.hid (HBJ.out.trans (b6.mono HBJ.out.size))
              have hsz6 := HB6.out.size
              clear hw6 f6 b6
              go_wp2_with (at_builtin
                           refine wpList_push elB_str (.tmp 105) (.tmp 110) rfl rfl wi.heap.size (grpL a7 k).length _ rfl HO6.out rfl rfl (one_cell1 rfl) (by omega) (by decide) hsz6 ?_
                           intro v9 w9 hown9 hb9 hg9
                           obtain ⟨A9, d9, rfl, hd9⟩ := own_form hown9
                           have HO9 : Hid (w9.ownsRow wi.heap.size 9 1 (.slice A9 ((grpL a7 k).length + 1) d9) (grpL a7 (k + 1)).length ((grpL a7 (k + 1)).map encS)) := Lib.hid (by rw [HST.out, List.length_append, List.map_append]; exact hown9)
                           have HB9 := Lib.hid (HB6.out.trans hb9)
                           clear hown9 hb9 hg9)
              go_roundw
              case rel => exact ⟨k + 1, by omega, by go_num, HO9.out, HB9.out⟩
              case measure => simp [intOf]; omega
            · rw [if_neg ht] at hbits hst
              have HST := Lib.hid hst
              clear hst ht
              go_wp2_with fail
              go_roundw
              case rel => exact ⟨k + 1, by omega, by go_num, by rw [HST.out]; exact HOJ.out, HBJ.out⟩
              case measure => simp [intOf]; omega
          · have hki : ¬ (k : Int) < 8 := by omega
            obtain rfl : k = 8 := by omega
            have HNJ := Lib.hid (HNI.out.far HBJ.out)
            have HBWJ := Lib.hid (bnextK HBWI.out HBJ.out)
            have HSRJ := Lib.hid ((HSRI.out.below HBJ.out).mono HBJ.out.size)
            have HVW := Lib.hid (view_ok (c := oc) HONES.out HNJ.out oA (grpL a7 8).length (grpL a7 8) grpL_mem (by omega) (Rd.own HOJ.out))
            clear HNI HBWI HSRI
            go_wp2_with fail
            refine HVW.out.mono ?_
            clear HVW
            rintro e w7 ⟨vA, vc, L, rfl, hvc, hvo, hLv, hb7⟩
            have HVO := Lib.hid hvo
            have HLV := Lib.hid hLv
            have hlen : (seenL (sendPs sN (nm a) (nm b) sec.length K) (sendSh sec co q sec.length K) (grpL a7 8)).length = L.length := by rw [← hLv, List.length_map]
            have hLK : (L.length : Int) ≤ (K : Int) := by
              have := HS.out.seen_len (grpL a7 8)
              omega
            have HEX := Lib.hid (exposed_ok (c := oc) HONES.out (HNJ.out.far hb7) oA (grpL a7 8).length (grpL a7 8) grpL_mem (by omega) ((Rd.own HOJ.out).below hb7 |>.mono hb7.size))
            have HB7 := Lib.hid hb7
            clear hvo hLv hb7
            go_wp2_with fail
            refine HEX.out.mono ?_
            clear HEX
            rintro e w8 ⟨xA, xc, rfl, hb8⟩
            rw [hlen]
            have HB8 := Lib.hid (bnextK HB7.out hb8)
            have HBW8 := Lib.hid (bnextK HBWJ.out HB8.out)
            have HVO8 := Lib.hid (HVO.out.past hb8)
            clear hlen hb8 HBWJ HVO
            by_cases hqL : q + 1 ≤ L.length
            · rw [if_pos hqL]
              have hqi : (q : Int) + 1 ≤ (L.length : Int) := by omega
              have hqi2 : decide ((q : Int) + 1 ≤ (L.length : Int)) = true := by simpa using hqi
              obtain ⟨e1, e2⟩ := HS.out.some (HVO8.out.rd.lens) HLV.out hqL
              have HJ : Hid (Calls Tryz.prog 16 #[.slice vA L.length vc, .int .i64 ((q : Int) + 1)] w8 (RetES w8 0 sec)) := Lib.hid (by
                have := Join_any vA L.length vc ((q : Int) + 1) L w8 (by omega) hvc HVO8.out.rd
                rw [e1, e2] at this
                exact this)
              have HSR8 := Lib.hid ((HSRJ.out.below HB8.out).mono HB8.out.size)
              clear e1 e2 HLV HVO8 hqL HSRJ
              generalize L.length = ll at *
              go_wp2_with fail
              refine HJ.out.mono ?_
              clear HJ
              rintro e w9 ⟨jA, jm, jc, rfl, hjc, hjm, hjr, hb9⟩
              have HBY := Lib.hid (bytes09_any jA sA jm sec.length jc sc sec sec w9 w9.heap.size HSB.out HSB.out hjr ((HSR8.out.below hb9).mono hb9.size))
              rw [decide_eq_true rfl] at HBY
              have HB9 := Lib.hid (bnextK HBW8.out hb9)
              clear hjr hb9 hjm
              go_wp2_with fail
              refine HBY.out.mono ?_
              clear HBY
              rintro e w10 ⟨rfl, rfl⟩
              go_wp2_with fail
              refine (HW.out _).mono ?_
              rintro e w11 ⟨rfl, hb11⟩
              have HB11 := Lib.hid (bnextK HB9.out hb11)
              clear hb11
              go_wp2_with fail
              go_ret
              exact ⟨rfl, HB11.out⟩
            · rw [if_neg hqL]
              have hqi : ¬ (q : Int) + 1 ≤ (L.length : Int) := by omega
              have hqi2 : decide ((q : Int) + 1 ≤ (L.length : Int)) = false := by simp; omega
              clear hqL HLV HVO8
              generalize L.length = ll at *
              go_wp2_with fail
              refine (HW.out _).mono ?_
              rintro e w11 ⟨rfl, hb11⟩
              have HB11 := Lib.hid (bnextK HBW8.out hb11)
              clear hb11
              go_wp2_with fail
              go_ret
              exact ⟨rfl, HB11.out⟩
#print axioms NetworkDelivers_walk
end Go.Proofs.YtecndceekgaglaaGreat
