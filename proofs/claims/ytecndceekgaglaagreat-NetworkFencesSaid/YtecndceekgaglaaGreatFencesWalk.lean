/- NetworkFences: the walk. Conditions: as the statement says. -/
import Derived.Test.YtecndceekgaglaaGreatNet68
import Derived.Test.YtecndceekgaglaaGreatNet35
import Derived.Test.YtecndceekgaglaaGreatOpenPrs
import Derived.Deep.CutBlock
namespace Go.Proofs.YtecndceekgaglaaGreat
open Go.RowKit
set_option linter.unusedVariables false
def TrueF (w : World) (e : Ending) (w' : World) : Prop := e = .returned (.bool true) ∧ Below w.heap.size w w'
def LI (w : World) (N : Nat) (s0 : NS) (wr : World) : Prop := ∃ s, NetB w.heap.size wr N s ∧ Step s0 s ∧ Below w.heap.size w wr
set_option maxRecDepth 100000 in
set_option maxHeartbeats 4000000 in
theorem NetworkFences_walk (v0 : Value) (i0 : PrsArg) (v1 : Value) (i1 : ActsArg) (v2 : Value) (i2 : ActsArg) (a3 : Nat) (w : World) (hx0 : IsPrs w v0 i0) (hx1 : IsActs w v1 i1) (hx2 : IsActs w v2 i2) (h3 : a3 < 256) :
    Calls Tryz.prog 6 #[v0, v1, v2, .int .u8 (a3 : Int)] w (TrueF w) := by
  obtain ⟨A0, n0, c0, l0⟩ := i0
  obtain ⟨A1, n1, c1, l1⟩ := i1
  obtain ⟨A2, n2, c2, l2⟩ := i2
  obtain ⟨rfl, hnc0, hc0, hln0, hrd0, hlt0⟩ := hx0
  obtain ⟨rfl, hnc1, hc1, hln1, hrd1, hraw1⟩ := hx1
  obtain ⟨rfl, hnc2, hc2, hln2, hrd2, hraw2⟩ := hx2
  simp only at hnc0 hc0 hln0 hrd0 hlt0 hnc1 hc1 hln1 hrd1 hraw1 hnc2 hc2 hln2 hrd2 hraw2 ⊢
  have HSM := Lib.hid (smallG_ok l0 (fun p hp => (hlt0 p hp).2.2))
  have HSA := Lib.hid (Small_any (c := c0) l0 hrd0 (Nat.le_refl _) (by omega) hlt0)
  have HRD1 := Lib.hid hrd1; have HRD2 := Lib.hid hrd2; have HRAW1 := Lib.hid hraw1; have HRAW2 := Lib.hid hraw2
  obtain ⟨⟨sN, st⟩, hx⟩ : ∃ x, x = smallG l0 := ⟨_, rfl⟩
  have HX := Lib.hid hx
  rw [← hx] at HSM
  simp only at HSM
  have HIN : Hid ((Tryz.prog.info? 26).map (·.size) = some (stV st).size) := Lib.hid (by rw [show (stV st).size = 64 by unfold stV; simp [HSM.out.len]]; kernel_rfl)
  have HSZ : Hid ((stV (List.replicate 64 0)).size = (stV st).size) := Lib.hid (by unfold stV; simp [HSM.out.len])
  have HONE : Hid ((stV st).all (·.oneCell') = true) := Lib.hid (stV_one _)
  obtain ⟨f, hf⟩ : ∃ f, f = a3 % 8 := ⟨_, rfl⟩
  have hf8 : f < 8 := by omega
  have hr1 : Int.tmod (a3 : Int) 8 = (f : Int) := by rw [Int.tmod_eq_emod_of_nonneg (by omega)]; omega
  have hr2 : (a3 : Int) % 8 = (f : Int) := by omega
  have hr3 : IntKind.u8.wrap (f : Int) = (f : Int) := by simp [IntKind.wrap, IntKind.bits, IntKind.signed]; omega
  have HF8 := Lib.hid hf8
  have HW := Lib.hid (fun W => works09_any W)
  have hl1 : l1.length = n1 := hln1
  have hl2 : l2.length = n2 := hln2
  have hm1 : n1 ≤ 9223372036854775807 := by omega
  have hm2 : n2 ≤ 9223372036854775807 := by omega
  clear hx hrd0 hlt0 hnc0 hc0 hln0 hrd1 hraw1 hnc1 hc1 hln1 hrd2 hraw2 hnc2 hc2 hln2 hf h3
  go_enter Tryz.func6, Tryz.ntmps6
  go_wp2_with fail
  refine HSA.out.mono ?_
  clear HSA
  rintro e w1 ⟨N, bn, bl, rfl, hnet⟩
  rw [← HX.out] at hnet ⊢
  simp only at hnet ⊢
  have HNT := Lib.hid hnet
  clear hnet
  have hsz64 : (stV st).size = 64 := by unfold stV; simp [HSM.out.len]
  go_wp2_with fail
  rw [lit64, run_storeCells_new w1 26 _ _ HIN.out HSZ.out HONE.out]
  go_upto_block 0 with fail
  obtain ⟨w2, hw2⟩ : ∃ z, z = w1.alloc (.cells (stV st) 26) := ⟨_, rfl⟩
  have HNT2 : Hid (NetNew w sN N bn bl w2) := Lib.hid (by rw [hw2]; exact HNT.out.far (below_alloc _ _))
  rw [← hw2]
  clear hw2 HNT hsz64
  generalize w1.heap.size = X0
  have HI0 : Hid (LI w N sN w2) := Lib.hid ⟨sN, HNT2.out.netB HSM.out.ni, Step.refl _, HNT2.out.2.1⟩
  clear HNT2
  go_cut [12] from 12 to 188 (fun _ wc => LI w N sN wc)
  case first =>
    go_wp2_with fail
    go_loopw [12] (fun i wr => ∃ k : Nat, k ≤ n1 ∧ k ≤ 40 ∧ i = .int .i64 k ∧ LI w N sN wr) (fun i _ => 40 - (intOf i).toNat)
    case atStart => exact ⟨0, Nat.zero_le _, by omega, rfl, HI0.out⟩
    case round =>
      obtain ⟨k, hk, hk40, rfl, s, hnb, hst, hbw⟩ := hrel
      obtain ⟨wi, rfl⟩ : ∃ z : World, z = wr := ⟨_, rfl⟩
      have HNB := Lib.hid hnb; have HST := Lib.hid hst; have HBW := Lib.hid hbw
      clear hnb hst hbw HI0
      by_cases hkn : k < n1
      · have hki : (k : Int) < (n1 : Int) := by omega
        by_cases hk4 : k < 40
        · have hki4 : (k : Int) < 40 := by omega
          obtain ⟨x, hx⟩ : ∃ x, l1[k]? = some x := ⟨_, List.getElem?_eq_getElem (by omega)⟩
          obtain ⟨b9, off9, rfl, c0, c1, c2, c3, c4, c5, c6, c7, c8, c9, c10, c11, c12⟩ := acts_at ((HRD1.out.below HBW.out)) hx hkn
          have HCA : Hid (Calls Tryz.prog 24 #[.pointer (some ⟨N, 0, none⟩), .agg #[.int .u8 (x.d : Int), encS x.a, encS x.b, x.l1, x.l2, x.l3, x.l4, .int .i64 x.n, .int .i64 x.k, .int .i64 x.need, .int .i64 x.til, .slice x.s.A x.s.n x.s.c, .slice x.c.A x.c.n x.c.c]] wi (CallP w.heap.size N s wi)) := Lib.hid (call_any HNB.out x ((HRAW1.out x (List.mem_of_getElem? hx)).far HBW.out))
          clear hx
          go_wp2_with fail
          refine HCA.out.mono ?_
          clear HCA c0 c1 c2 c3 c4 c5 c6 c7 c8 c9 c10 c11 c12
          rintro e w3 ⟨rfl, s', hst', hnx⟩
          have HNB3 := Lib.hid hnx.1; have HST3 := Lib.hid (HST.out.trans hst'); have HBW3 : Hid (Below w.heap.size w w3) := Lib.hid (HBW.out.trans hnx.2.1)
          clear hst' hnx
          go_wp2_with fail
          go_roundw
          case rel => exact ⟨k + 1, by omega, by omega, by go_num, s', HNB3.out, HST3.out, HBW3.out⟩
          case measure => simp [intOf]; omega
        · have hki4 : ¬ (k : Int) < 40 := by omega
          go_wp2_with fail
          go_meet
          exact ⟨s, HNB.out, HST.out, HBW.out⟩
      · have hki : ¬ (k : Int) < (n1 : Int) := by omega
        go_wp2_with fail
        go_meet
        exact ⟨s, HNB.out, HST.out, HBW.out⟩
  case rest =>
    obtain ⟨wi, rfl⟩ : ∃ z : World, z = wc := ⟨_, rfl⟩
    obtain ⟨s, hnb, hst, hbw⟩ := hcut
    have HNB := Lib.hid hnb; have HST := Lib.hid hst; have HBW := Lib.hid hbw
    clear hnb hst hbw HI0
    have HS8 : Hid (s.nodes = names8) := Lib.hid (by rw [HST.out.nodes]; exact HSM.out.nodes)
    obtain ⟨xn, hxn⟩ : ∃ xn, xn = nm f := ⟨_, rfl⟩
    have HXN := Lib.hid hxn
    have HXM : Hid (xn ∈ s.nodes ∧ namedB xn = true) := Lib.hid ⟨by rw [HS8.out, hxn]; exact nm_mem HF8.out, by rw [hxn]; exact nm_named f HF8.out⟩
    obtain ⟨fx, hfx⟩ : ∃ fx, fx = s.fen xn := ⟨_, rfl⟩
    obtain ⟨rv, hrv⟩ : ∃ rv : Int, rv = if s.fen xn = true then (10 : Int) else 0 := ⟨_, rfl⟩
    have HRV := Lib.hid hrv
    have hrx : ((rv == 0) == fx) = false := by rw [hfx, hrv]; cases s.fen xn <;> rfl
    have HFN : Hid (∀ W, Below wi.heap.size wi W → Calls Tryz.prog 27 #[.pointer (some ⟨N, 0, none⟩), encS xn] W fun e w' => e = .returned (.tuple #[.bool fx, .int .i64 0]) ∧ Below W.heap.size W w') := Lib.hid fun W hW => by rw [hfx]; exact fenced_net (HNB.out.far hW) xn HXM.out.1 HXM.out.2
    have HFE : Hid (∀ W, Below wi.heap.size wi W → Calls Tryz.prog 28 #[.pointer (some ⟨N, 0, none⟩), encS xn] W (FenN w.heap.size N s xn W)) := Lib.hid fun W hW => fence_net (HNB.out.far hW) xn HXM.out.1 HXM.out.2
    clear hxn hfx hrv
    go_wp2_with fail
    refine (names_any _).mono ?_
    rintro e w6 ⟨rfl, hw6⟩
    obtain ⟨f6, b6⟩ := names_fact hw6
    have y6 := f6 f HF8.out
    rw [← HXN.out] at y6
    have HB6 := Lib.hid b6
    have hfi : (f : Int) < 8 := by have := HF8.out; omega
    clear hw6 f6 b6
    go_wp2_with fail
    refine (HFN.out _ HB6.out).mono ?_
    clear HFN
    rintro e w7 ⟨rfl, hb7⟩
    have HB7 := Lib.hid (bnextK HB6.out hb7)
    have HFE7 := Lib.hid (HFE.out w7 HB7.out)
    clear hb7 HFE y6
    unfold FenN at HFE7
    rw [← HRV.out] at HFE7
    go_wp2_with fail
    refine HFE7.out.mono ?_
    clear HFE7
    rintro e w8 ⟨rfl, s1, hst1, hfen1, hnx1⟩
    have HST1 := Lib.hid (HST.out.trans hst1); have HFEN := Lib.hid hfen1; have HNB1 := Lib.hid hnx1.1
    have HBW1 : Hid (Below w.heap.size w w8) := Lib.hid ((bnextK HBW.out HB7.out).trans hnx1.2.1)
    have HXM1 : Hid (xn ∈ s1.nodes) := Lib.hid (by rw [hst1.nodes]; exact HXM.out.1)
    have HTR := Lib.hid (trans_net HNB1.out)
    clear hst1 hfen1 hnx1
    obtain ⟨tl, htl⟩ : ∃ tl, tl = s1.sents.length := ⟨_, rfl⟩
    have HTL := Lib.hid htl
    have ht256 : tl ≤ 256 := by rw [htl]; exact HNB1.out.ni.sl
    unfold TransP at HTR
    rw [← htl] at HTR
    clear htl
    go_wp2_with fail
    refine HTR.out.mono ?_
    clear HTR
    rintro e w9 ⟨⟨tA, tc, rfl, htc, _⟩, hb9⟩
    have HI1 : Hid (LI w N s1 w9) := Lib.hid ⟨s1, HNB1.out.far hb9, Step.refl _, bnextK HBW1.out hb9⟩
    clear hb9 htc
    go_upto_block 2 with fail
    go_cut [17, 18, 19] from 17 to 188 (fun _ _ _ wc => LI w N s1 wc)
    case first =>
      go_wp2_with fail
      go_loopw [17, 18, 19] (fun i _ _ wr => ∃ k : Nat, k ≤ n2 ∧ k ≤ 40 ∧ i = .int .i64 k ∧ LI w N s1 wr) (fun i _ _ _ => 40 - (intOf i).toNat)
      case atStart => exact ⟨0, Nat.zero_le _, by omega, rfl, HI1.out⟩
      case round =>
        clear HST HNB HBW HB6 HB7 HXM HS8
        obtain ⟨k, hk, hk40, rfl, s, hnb, hst, hbw⟩ := hrel
        obtain ⟨wi, rfl⟩ : ∃ z : World, z = wr := ⟨_, rfl⟩
        have HNB := Lib.hid hnb; have HST := Lib.hid hst; have HBW := Lib.hid hbw
        clear hnb hst hbw HI1
        by_cases hgo : k < n2 ∧ k < 40
        · obtain ⟨hkn, hk4⟩ := hgo
          have hki : (k : Int) < (n2 : Int) := by omega
          have hki4 : (k : Int) < 40 := by omega
          obtain ⟨x, hx⟩ : ∃ x, l2[k]? = some x := ⟨_, List.getElem?_eq_getElem (by omega)⟩
          obtain ⟨b9, off9, rfl, c0, c1, c2, c3, c4, c5, c6, c7, c8, c9, c10, c11, c12⟩ := acts_at ((HRD2.out.below HBW.out)) hx hkn
          have HCA : Hid (Calls Tryz.prog 24 #[.pointer (some ⟨N, 0, none⟩), .agg #[.int .u8 (x.d : Int), encS x.a, encS x.b, x.l1, x.l2, x.l3, x.l4, .int .i64 x.n, .int .i64 x.k, .int .i64 x.need, .int .i64 x.til, .slice x.s.A x.s.n x.s.c, .slice x.c.A x.c.n x.c.c]] wi (CallP w.heap.size N s wi)) := Lib.hid (call_any HNB.out x ((HRAW2.out x (List.mem_of_getElem? hx)).far HBW.out))
          clear hx
          go_wp2_with fail
          refine HCA.out.mono ?_
          clear HCA c0 c1 c2 c3 c4 c5 c6 c7 c8 c9 c10 c11 c12
          rintro e w3 ⟨rfl, s', hst', hnx⟩
          have HNB3 := Lib.hid hnx.1; have HST3 := Lib.hid (HST.out.trans hst'); have HBW3 : Hid (Below w.heap.size w w3) := Lib.hid (HBW.out.trans hnx.2.1)
          clear hst' hnx
          have HHO := Lib.hid (holds_net HNB3.out)
          obtain ⟨hl, hhl⟩ : ∃ hl, hl = s'.holds.length := ⟨_, rfl⟩
          have HHL := Lib.hid hhl
          have hl64 : hl ≤ 64 := by rw [hhl]; exact HNB3.out.ni.hl
          have HOUT : Hid (∀ y ∈ s'.holds, y.path.length ≤ 16 ∧ xn ∉ y.path) := Lib.hid fun y hy => ⟨(HNB3.out.ni.held.each y hy).len16 HNB3.out.ok, fun hm => by
            have h1 := HNB3.out.ni.clr y hy xn hm
            rw [HST3.out.fen xn HFEN.out] at h1
            cases h1⟩
          unfold HoldsP at HHO
          rw [← hhl] at HHO
          clear hhl
          go_wp2_with fail
          refine HHO.out.mono ?_
          clear HHO
          rintro e w4 ⟨⟨hA, hc, rfl, hhc, hho⟩, hb4⟩
          have HHB := Lib.hid hho
          have HNB4 := Lib.hid (HNB3.out.far hb4); have HBW4 := Lib.hid (bnextK HBW3.out hb4)
          clear hho hb4
          go_wp2_with fail
          go_loopw [19] (fun i wr => ∃ j : Nat, j ≤ hl ∧ i = .int .i64 j ∧ w4 = wr) (fun i _ => hl - (intOf i).toNat)
          case atStart => exact ⟨0, Nat.zero_le _, rfl, rfl⟩
          case round =>
            obtain ⟨j, hj, rfl, rfl⟩ := hrel
            by_cases hjl : j < hl
            · have hji : (j : Int) < (hl : Int) := by omega
              obtain ⟨y, hy⟩ : ∃ y, s'.holds[j]? = some y := ⟨_, List.getElem?_eq_getElem (by rw [← HHL.out]; exact hjl)⟩
              obtain ⟨g, pv, rfl, _, ⟨cs, hbk, _, q1, _⟩, hrow⟩ := HHB.out.at hy
              have d1 := hbk.cell (j * 4 + 1)
              rw [q1] at d1
              obtain ⟨pb, pc, pcs, rfl, _⟩ := id hrow
              have ho := HOUT.out y (List.mem_of_getElem? hy)
              have HHA := Lib.hid (has_any (some ⟨pb, 0, none⟩) y.path.length pc y.path xn w4 w4.heap.size (by omega) hrow.rd.2)
              rw [decide_eq_false ho.2] at HHA
              clear hy hbk q1 hrow ho
              generalize y.path.length = pl at *
              go_wp2_with fail
              refine HHA.out.mono ?_
              rintro e w5 ⟨rfl, rfl⟩
              go_wp2_with fail
              go_roundw
              case rel => exact ⟨j + 1, by omega, by go_num, trivial⟩
              case measure => simp [intOf]; omega
            · have hji : ¬ (j : Int) < (hl : Int) := by omega
              go_wp2_with fail
              go_roundw
              case rel => exact ⟨k + 1, by omega, by omega, by go_num, s', HNB4.out, HST3.out, HBW4.out⟩
              case measure => simp [intOf]; omega
        · by_cases hkn : k < n2
          · have hki : (k : Int) < (n2 : Int) := by omega
            have hki4 : ¬ (k : Int) < 40 := by omega
            clear hgo
            go_wp2_with fail
            go_meet
            exact ⟨s, HNB.out, HST.out, HBW.out⟩
          · have hki : ¬ (k : Int) < (n2 : Int) := by omega
            clear hgo
            go_wp2_with fail
            go_meet
            exact ⟨s, HNB.out, HST.out, HBW.out⟩
    case rest =>
      clear HST HNB HBW HB6 HB7 HXM HS8 HI1
      obtain ⟨wi2, rfl⟩ : ∃ z : World, z = wc := ⟨_, rfl⟩
      obtain ⟨s, hnb, hst, hbw⟩ := hcut
      have HNB := Lib.hid hnb; have HST := Lib.hid hst; have HBW := Lib.hid hbw
      clear hnb hst hbw
      have HS8 : Hid (s.nodes = names8) := Lib.hid (by rw [HST.out.nodes, HST1.out.nodes]; exact HSM.out.nodes)
      have HXM : Hid (xn ∈ s.nodes) := Lib.hid (by rw [HST.out.nodes]; exact HXM1.out)
      have HFS : Hid (s.fen xn = true) := Lib.hid (HST.out.fen xn HFEN.out)
      have HTR := Lib.hid (trans_net HNB.out)
      obtain ⟨ul, hul⟩ : ∃ ul, ul = s.sents.length := ⟨_, rfl⟩
      have HUL := Lib.hid hul
      have hu256 : ul ≤ 256 := by rw [hul]; exact HNB.out.ni.sl
      have hge : tl ≤ ul := by
        obtain ⟨l9, e9, _⟩ := HST.out.sents
        rw [hul, e9, HTL.out, List.length_append]; omega
      have HNEW : Hid (∀ j t, tl ≤ j → s.sents[j]? = some t → 1 ≤ t.paths.length ∧ t.paths.length ≤ 16 ∧ ∀ p ∈ t.paths, p.length ≤ 16 ∧ xn ∉ p) := Lib.hid fun j t hj ht => by
        have htok := HNB.out.ni.tok t (List.mem_of_getElem? ht)
        refine ⟨htok.1, htok.2.1, fun p hp => ⟨(htok.2.2 p hp).2, fun hm => ?_⟩⟩
        obtain ⟨l9, e9, hl9⟩ := HST.out.sents
        rw [e9, List.getElem?_append_right (by rw [← HTL.out]; exact hj)] at ht
        have := hl9 t (List.mem_of_getElem? ht) p hp xn hm
        rw [HFEN.out] at this
        cases this
      unfold TransP at HTR
      rw [← hul] at HTR
      clear hul
      go_wp2_with fail
      refine HTR.out.mono ?_
      clear HTR
      rintro e wt ⟨⟨uA, uc, rfl, huc, htb⟩, hbt⟩
      have HTB := Lib.hid htb
      have HNBT := Lib.hid (HNB.out.far hbt); have HBWT := Lib.hid (bnextK HBW.out hbt)
      have hlt0 : ¬ (ul : Int) < (tl : Int) := by omega
      have hlt1 : ¬ ul < tl := by omega
      have hlt2 : decide (ul < tl) = false := decide_eq_false hlt1
      clear htb hbt
      go_wp2_with fail
      go_loopw [21, 22] (fun i _ wr => ∃ j : Nat, tl ≤ j ∧ j ≤ ul ∧ i = .int .i64 j ∧ wt = wr) (fun i _ _ => ul - (intOf i).toNat)
      case atStart => exact ⟨tl, Nat.le_refl _, hge, rfl, rfl⟩
      case round =>
        obtain ⟨j, hj1, hj, rfl, rfl⟩ := hrel
        by_cases hjl : j < ul
        · have hji : (j : Int) < (ul : Int) := by omega
          obtain ⟨t, ht⟩ : ∃ t, s.sents[j]? = some t := ⟨_, List.getElem?_eq_getElem (by rw [← HUL.out]; exact hjl)⟩
          obtain ⟨n1', n2', n3'⟩ := HNEW.out j t hj1 ht
          have HN3' := Lib.hid n3'
          obtain ⟨G, pv, rfl, d3, hrows⟩ : ∃ G pv, uA = some ⟨G, 0, none⟩ ∧ wt.cell? ⟨G, j * 4 + 3, none⟩ = some pv ∧ NmRows wt pv t.paths := by
            obtain ⟨vals, ho, hv⟩ := HTB.out
            obtain ⟨pv, _, _, _, q3, q4⟩ := hv j t ht
            rcases ho.2 with ⟨_, e⟩ | ⟨G, cap, cur, e, _, hh, hcap, _, _, htk⟩
            · exact absurd e (by rw [← HUL.out]; omega)
            · injection e with e1 e2 e3
              refine ⟨G, pv, e1, ?_, q4⟩
              have hjj : j * 4 + 3 < s.sents.length * 4 := by rw [← HUL.out]; omega
              rw [Bk.cell (show Bk wt G cur _ from hh), ← q3, ← htk, List.getElem?_take, if_pos hjj, Array.getElem?_toList]
          obtain ⟨rb, rc, rcs, rfl, hrc, _⟩ := id hrows
          have HROWS := Lib.hid hrows
          obtain ⟨rl, hrl⟩ : ∃ rl, rl = t.paths.length := ⟨_, rfl⟩
          have HRL := Lib.hid hrl
          rw [← hrl] at d3 n1' n2' hrc HROWS
          clear ht n3' hrows hrl
          go_wp2_with fail
          go_loopw [22] (fun i wr => ∃ m : Nat, m ≤ rl ∧ i = .int .i64 m ∧ wt = wr) (fun i _ => rl - (intOf i).toNat)
          case atStart => exact ⟨0, Nat.zero_le _, rfl, rfl⟩
          case round =>
            obtain ⟨m, hm, rfl, rfl⟩ := hrel
            by_cases hml : m < rl
            · have hmi : (m : Int) < (rl : Int) := by omega
              obtain ⟨p, hp⟩ : ∃ p, t.paths[m]? = some p := ⟨_, List.getElem?_eq_getElem (by rw [← HRL.out]; exact hml)⟩
              obtain ⟨u, cu, hrow⟩ := NmRows.at HROWS.out hp
              obtain ⟨pb, pc, pcs, rfl, _⟩ := id hrow
              have ho := HN3'.out p (List.mem_of_getElem? hp)
              have HHA := Lib.hid (has_any (some ⟨pb, 0, none⟩) p.length pc p xn wt wt.heap.size (by omega) hrow.rd.2)
              rw [decide_eq_false ho.2] at HHA
              clear hp hrow ho
              generalize p.length = pl at *
              go_wp2_with fail
              refine HHA.out.mono ?_
              rintro e w5 ⟨rfl, rfl⟩
              go_wp2_with fail
              go_roundw
              case rel => exact ⟨m + 1, by omega, by go_num, trivial⟩
              case measure => simp [intOf]; omega
            · have hmi : ¬ (m : Int) < (rl : Int) := by omega
              go_wp2_with fail
              go_roundw
              case rel => exact ⟨j + 1, by omega, by omega, by go_num, trivial⟩
              case measure => simp [intOf]; omega
        · have hji : ¬ (j : Int) < (ul : Int) := by omega
          clear HTB HNEW
          go_wp2_with fail
          go_loopw [23, 24, 25, 26] (fun i _ _ _ wr => ∃ a : Nat, a ≤ 8 ∧ i = .int .i64 a ∧ NetB w.heap.size wr N s ∧ Below w.heap.size w wr) (fun i _ _ _ _ => 8 - (intOf i).toNat)
          case atStart => exact ⟨0, by omega, rfl, HNBT.out, HBWT.out⟩
          case round =>
            obtain ⟨a, ha, rfl, hna, hba⟩ := hrel
            obtain ⟨wa, rfl⟩ : ∃ z : World, z = wr := ⟨_, rfl⟩
            have HNA := Lib.hid hna; have HBA := Lib.hid hba
            clear hna hba
            by_cases ha8 : a < 8
            · have hai : (a : Int) < 8 := by omega
              have HA8 := Lib.hid ha8
              go_wp2_with fail
              go_loopw [24, 25, 26] (fun i _ _ wr => ∃ b : Nat, b ≤ 8 ∧ i = .int .i64 b ∧ NetB w.heap.size wr N s ∧ Below w.heap.size w wr) (fun i _ _ _ => 8 - (intOf i).toNat)
              case atStart => exact ⟨0, by omega, rfl, HNA.out, HBA.out⟩
              case round =>
                obtain ⟨b, hb, rfl, hnb', hbb'⟩ := hrel
                obtain ⟨wb, rfl⟩ : ∃ z : World, z = wr := ⟨_, rfl⟩
                have HNB' := Lib.hid hnb'; have HBB := Lib.hid hbb'
                clear hnb' hbb'
                by_cases hb8 : b < 8
                · have hbi : (b : Int) < 8 := by omega
                  have HB8 := Lib.hid hb8
                  have HRT : Hid (∀ W, Below wb.heap.size wb W → Calls Tryz.prog 32 #[.pointer (some ⟨N, 0, none⟩), encS (nm a), encS (nm b), .int .i64 1] W (RtP xn a b W)) := Lib.hid fun W hW => route_net (HNB'.out.far hW) HS8.out HFS.out HXM.out HA8.out HB8.out
                  have NT0 : Hid (Below wb.heap.size wb wb.drew) := Lib.hid (Qw.below ⟨1, rfl⟩ _)
                  go_wp2_with fail
                  go_cut [24, 25, 26] from 143 to 187 (fun v24 v25 v26 wc => v24 = .int .i64 b ∧ ∃ A n c p z, v25 = .slice A n c ∧ v26 = .int .i64 z ∧ n ≤ 16 ∧ Rd wc wc.heap.size 1 A n (List.map encS p) ∧ xn ∉ p ∧ (((nm a = xn ∨ nm b = xn) ∧ a ≠ b) → z = 20) ∧ Below wb.heap.size wb wc)
                  case first =>
                    refine wp_region_held_drew (S := (fun _ => True)) (by kernel_rfl) ?_ (fun hHeld => ?_)
                    · (try dsimp only); all_goals trivial
                    refine wpAnyH_take (i := 0) (oi := ⟨some 148, _, _, _, _, _⟩) (v := ?_) rfl (by kernel_rfl) (by kernel_rfl) (by kernel_rfl) (fun _ _ _ h => h) (Or.inl ⟨by rfl, ?_⟩) (by assumption) ?_
                    rotate_left
                    · (intro w hSw; (try dsimp only at hSw); go_simp; try with_reducible rfl)
                    try simp only [Act.put, List.setIfInBounds_toArray, List.set_cons_zero, List.set_cons_succ]
                    refine wpAnyH_take (i := 2) (oi := ⟨some 150, _, _, _, _, _⟩) (v := ?_) rfl (by kernel_rfl) (by kernel_rfl) (by kernel_rfl) (fun _ _ _ h => h) (Or.inl ⟨by rfl, ?_⟩) (by assumption) ?_
                    rotate_left
                    · (intro w hSw; (try dsimp only at hSw); go_simp; try with_reducible rfl)
                    try simp only [Act.put, List.setIfInBounds_toArray, List.set_cons_zero, List.set_cons_succ]
                    refine wpAnyH_take (i := 6) (oi := ⟨some 154, _, _, _, _, _⟩) (v := ?_) rfl (by kernel_rfl) (by kernel_rfl) (by kernel_rfl) (fun _ _ _ h => h) (Or.inl ⟨by rfl, ?_⟩) (by assumption) ?_
                    rotate_left
                    · (intro w hSw; (try dsimp only at hSw); go_simp; try with_reducible rfl)
                    try simp only [Act.put, List.setIfInBounds_toArray, List.set_cons_zero, List.set_cons_succ]
                    refine wpAnyH_ready (rs := [1]) (by kernel_rfl) (by simp) ?_
                    refine AllReadyH.cons (o := ⟨some 149, _, _, _, _, _⟩) rfl (fun K hK => ?_) AllReadyH.nil
                    go_simp
                    refine (names_any _).mono ?_
                    rintro e w3 ⟨rfl, hw3⟩
                    obtain ⟨f3, b3⟩ := names_fact hw3
                    have x3 : w3.cell? ⟨wb.heap.size, a, none⟩ = some (encS (nm a)) := f3 a HA8.out
                    have NT := Lib.hid (bnextK NT0.out b3)
                    clear hw3 f3
                    go_wp2_with fail
                    refine hK.out _ _ ?_ (fun hHeld => ?_)
                    · (try dsimp only); all_goals trivial
                    clear hK K
                    try simp only [Act.put, List.setIfInBounds_toArray, List.set_cons_zero, List.set_cons_succ]
                    refine wpAnyH_take (i := 3) (oi := ⟨some 151, _, _, _, _, _⟩) (v := ?_) rfl (by kernel_rfl) (by kernel_rfl) (by kernel_rfl) (fun _ _ _ h => h) (Or.inl ⟨by rfl, ?_⟩) (by assumption) ?_
                    rotate_left
                    · (intro w hSw; (try dsimp only at hSw); go_simp; try with_reducible rfl)
                    try simp only [Act.put, List.setIfInBounds_toArray, List.set_cons_zero, List.set_cons_succ]
                    refine wpAnyH_ready (rs := [4, 5]) (by kernel_rfl) (by simp) ?_
                    refine AllReadyH.cons (o := ⟨some 152, _, _, _, _, _⟩) rfl (fun K hK => ?_) ?_
                    · skip
                      go_simp
                      refine hK.out _ _ ?_ (fun hHeld => ?_)
                      · (try dsimp only); all_goals trivial
                      clear hK K
                      try simp only [Act.put, List.setIfInBounds_toArray, List.set_cons_zero, List.set_cons_succ]
                      refine wpAnyH_ready (rs := [5]) (by kernel_rfl) (by simp) ?_
                      refine AllReadyH.cons (o := ⟨some 153, _, _, _, _, _⟩) rfl (fun K hK => ?_) AllReadyH.nil
                      go_simp
                      refine (names_any _).mono ?_
                      rintro e wq ⟨rfl, hw4⟩
                      obtain ⟨f4, b4⟩ := names_fact hw4
                      have y4 := f4 b HB8.out
                      have x3 : wq.cell? ⟨wb.heap.size, a, none⟩ = some (encS (nm a)) := (b4.cell (p := ⟨wb.heap.size, a, none⟩) (cell_ltO x3)).trans x3
                      have NT := Lib.hid (bnextK NT.out b4)
                      clear hw4 f4
                      go_wp2_with fail
                      refine hK.out _ _ ?_ (fun hHeld => ?_)
                      · (try dsimp only); all_goals trivial
                      clear hK K
                      try simp only [Act.put, List.setIfInBounds_toArray, List.set_cons_zero, List.set_cons_succ]
                      refine wpAnyH_take (i := 7) (oi := ⟨some 155, _, _, _, _, _⟩) (v := ?_) rfl (by kernel_rfl) (by kernel_rfl) (by kernel_rfl) (fun _ _ _ h => h) (Or.inl ⟨by rfl, ?_⟩) (by assumption) ?_
                      rotate_left
                      · (intro w hSw; (try dsimp only at hSw); go_simp; try with_reducible rfl)
                      try simp only [Act.put, List.setIfInBounds_toArray, List.set_cons_zero, List.set_cons_succ]
                      refine wpAnyH_ready (rs := [8]) (by kernel_rfl) (by simp) ?_
                      refine AllReadyH.cons (o := ⟨some 156, _, _, _, _, _⟩) rfl (fun K hK => ?_) AllReadyH.nil
                      go_simp
                      refine hK.out _ _ ?_ (fun hHeld => ?_)
                      · (try dsimp only); all_goals trivial
                      clear hK K
                      try simp only [Act.put, List.setIfInBounds_toArray, List.set_cons_zero, List.set_cons_succ]
                      refine wpAnyH_ready (rs := [9]) (by kernel_rfl) (by simp) ?_
                      refine AllReadyH.cons (o := ⟨some 157, _, _, _, _, _⟩) rfl (fun K hK => ?_) AllReadyH.nil
                      go_simp
                      refine (HRT.out _ NT.out).mono ?_
                      rintro e w5 ⟨⟨A, nn, c, p, z, rfl, hn16, hrd, hxp, hz⟩, b5⟩
                      have NT := Lib.hid (bnextK NT.out b5)
                      go_wp2_with fail
                      refine hK.out _ _ ?_ (fun hHeld => ?_)
                      · (try dsimp only); all_goals trivial
                      clear hK K
                      try simp only [Act.put, List.setIfInBounds_toArray, List.set_cons_zero, List.set_cons_succ]
                      refine wpAnyH_take (i := 10) (oi := ⟨some 147, _, _, _, _, _⟩) (v := ?_) rfl (by kernel_rfl) (by kernel_rfl) (by kernel_rfl) (fun _ _ _ h => h) (Or.inl ⟨by rfl, ?_⟩) (by assumption) ?_
                      rotate_left
                      · (intro w hSw; (try dsimp only at hSw); go_simp; try with_reducible rfl)
                      try simp only [Act.put, List.setIfInBounds_toArray, List.set_cons_zero, List.set_cons_succ]
                      refine wpAnyH_take (i := 11) (oi := ⟨some 158, _, _, _, _, _⟩) (v := ?_) rfl (by kernel_rfl) (by kernel_rfl) (by kernel_rfl) (fun _ _ _ h => h) (Or.inl ⟨by rfl, ?_⟩) (by assumption) ?_
                      rotate_left
                      · (intro w hSw; (try dsimp only at hSw); go_simp; try with_reducible rfl)
                      try simp only [Act.put, List.setIfInBounds_toArray, List.set_cons_zero, List.set_cons_succ]
                      refine wpAnyH_take (i := 12) (oi := ⟨some 159, _, _, _, _, _⟩) (v := ?_) rfl (by kernel_rfl) (by kernel_rfl) (by kernel_rfl) (fun _ _ _ h => h) (Or.inl ⟨by rfl, ?_⟩) (by assumption) ?_
                      rotate_left
                      · (intro w hSw; (try dsimp only at hSw); go_simp; try with_reducible rfl)
                      try simp only [Act.put, List.setIfInBounds_toArray, List.set_cons_zero, List.set_cons_succ]
                      refine wpAnyH_take (i := 13) (oi := ⟨some 25, _, _, _, _, _⟩) (v := ?_) rfl (by kernel_rfl) (by kernel_rfl) (by kernel_rfl) (fun _ _ _ h => h) (Or.inl ⟨by rfl, ?_⟩) (by assumption) ?_
                      rotate_left
                      · (intro w hSw; (try dsimp only at hSw); go_simp; try with_reducible rfl)
                      try simp only [Act.put, List.setIfInBounds_toArray, List.set_cons_zero, List.set_cons_succ]
                      refine wpAnyH_take (i := 14) (oi := ⟨some 26, _, _, _, _, _⟩) (v := ?_) rfl (by kernel_rfl) (by kernel_rfl) (by kernel_rfl) (fun _ _ _ h => h) (Or.inl ⟨by rfl, ?_⟩) (by assumption) ?_
                      rotate_left
                      · (intro w hSw; (try dsimp only at hSw); go_simp; try with_reducible rfl)
                      try simp only [Act.put, List.setIfInBounds_toArray, List.set_cons_zero, List.set_cons_succ]
                      refine wpAnyH_done (by kernel_rfl) ?_ _
                      go_wp2_with fail
                      go_meet
                      exact ⟨rfl, A, nn, c, p, z, rfl, rfl, hn16, hrd, hxp, hz, NT.out⟩
                    refine AllReadyH.cons (o := ⟨some 153, _, _, _, _, _⟩) rfl (fun K hK => ?_) AllReadyH.nil
                    go_simp
                    refine (names_any _).mono ?_
                    rintro e wq ⟨rfl, hw4⟩
                    obtain ⟨f4, b4⟩ := names_fact hw4
                    have y4 := f4 b HB8.out
                    have x3 : wq.cell? ⟨wb.heap.size, a, none⟩ = some (encS (nm a)) := (b4.cell (p := ⟨wb.heap.size, a, none⟩) (cell_ltO x3)).trans x3
                    have NT := Lib.hid (bnextK NT.out b4)
                    clear hw4 f4
                    go_wp2_with fail
                    refine hK.out _ _ ?_ (fun hHeld => ?_)
                    · (try dsimp only); all_goals trivial
                    clear hK K
                    try simp only [Act.put, List.setIfInBounds_toArray, List.set_cons_zero, List.set_cons_succ]
                    refine wpAnyH_take (i := 7) (oi := ⟨some 155, _, _, _, _, _⟩) (v := ?_) rfl (by kernel_rfl) (by kernel_rfl) (by kernel_rfl) (fun _ _ _ h => h) (Or.inl ⟨by rfl, ?_⟩) (by assumption) ?_
                    rotate_left
                    · (intro w hSw; (try dsimp only at hSw); go_simp; try with_reducible rfl)
                    try simp only [Act.put, List.setIfInBounds_toArray, List.set_cons_zero, List.set_cons_succ]
                    refine wpAnyH_ready (rs := [4, 8]) (by kernel_rfl) (by simp) ?_
                    refine AllReadyH.cons (o := ⟨some 152, _, _, _, _, _⟩) rfl (fun K hK => ?_) ?_
                    · skip
                      go_simp
                      refine hK.out _ _ ?_ (fun hHeld => ?_)
                      · (try dsimp only); all_goals trivial
                      clear hK K
                      try simp only [Act.put, List.setIfInBounds_toArray, List.set_cons_zero, List.set_cons_succ]
                      refine wpAnyH_ready (rs := [8]) (by kernel_rfl) (by simp) ?_
                      refine AllReadyH.cons (o := ⟨some 156, _, _, _, _, _⟩) rfl (fun K hK => ?_) AllReadyH.nil
                      go_simp
                      refine hK.out _ _ ?_ (fun hHeld => ?_)
                      · (try dsimp only); all_goals trivial
                      clear hK K
                      try simp only [Act.put, List.setIfInBounds_toArray, List.set_cons_zero, List.set_cons_succ]
                      refine wpAnyH_ready (rs := [9]) (by kernel_rfl) (by simp) ?_
                      refine AllReadyH.cons (o := ⟨some 157, _, _, _, _, _⟩) rfl (fun K hK => ?_) AllReadyH.nil
                      go_simp
                      refine (HRT.out _ NT.out).mono ?_
                      rintro e w5 ⟨⟨A, nn, c, p, z, rfl, hn16, hrd, hxp, hz⟩, b5⟩
                      have NT := Lib.hid (bnextK NT.out b5)
                      go_wp2_with fail
                      refine hK.out _ _ ?_ (fun hHeld => ?_)
                      · (try dsimp only); all_goals trivial
                      clear hK K
                      try simp only [Act.put, List.setIfInBounds_toArray, List.set_cons_zero, List.set_cons_succ]
                      refine wpAnyH_take (i := 10) (oi := ⟨some 147, _, _, _, _, _⟩) (v := ?_) rfl (by kernel_rfl) (by kernel_rfl) (by kernel_rfl) (fun _ _ _ h => h) (Or.inl ⟨by rfl, ?_⟩) (by assumption) ?_
                      rotate_left
                      · (intro w hSw; (try dsimp only at hSw); go_simp; try with_reducible rfl)
                      try simp only [Act.put, List.setIfInBounds_toArray, List.set_cons_zero, List.set_cons_succ]
                      refine wpAnyH_take (i := 11) (oi := ⟨some 158, _, _, _, _, _⟩) (v := ?_) rfl (by kernel_rfl) (by kernel_rfl) (by kernel_rfl) (fun _ _ _ h => h) (Or.inl ⟨by rfl, ?_⟩) (by assumption) ?_
                      rotate_left
                      · (intro w hSw; (try dsimp only at hSw); go_simp; try with_reducible rfl)
                      try simp only [Act.put, List.setIfInBounds_toArray, List.set_cons_zero, List.set_cons_succ]
                      refine wpAnyH_take (i := 12) (oi := ⟨some 159, _, _, _, _, _⟩) (v := ?_) rfl (by kernel_rfl) (by kernel_rfl) (by kernel_rfl) (fun _ _ _ h => h) (Or.inl ⟨by rfl, ?_⟩) (by assumption) ?_
                      rotate_left
                      · (intro w hSw; (try dsimp only at hSw); go_simp; try with_reducible rfl)
                      try simp only [Act.put, List.setIfInBounds_toArray, List.set_cons_zero, List.set_cons_succ]
                      refine wpAnyH_take (i := 13) (oi := ⟨some 25, _, _, _, _, _⟩) (v := ?_) rfl (by kernel_rfl) (by kernel_rfl) (by kernel_rfl) (fun _ _ _ h => h) (Or.inl ⟨by rfl, ?_⟩) (by assumption) ?_
                      rotate_left
                      · (intro w hSw; (try dsimp only at hSw); go_simp; try with_reducible rfl)
                      try simp only [Act.put, List.setIfInBounds_toArray, List.set_cons_zero, List.set_cons_succ]
                      refine wpAnyH_take (i := 14) (oi := ⟨some 26, _, _, _, _, _⟩) (v := ?_) rfl (by kernel_rfl) (by kernel_rfl) (by kernel_rfl) (fun _ _ _ h => h) (Or.inl ⟨by rfl, ?_⟩) (by assumption) ?_
                      rotate_left
                      · (intro w hSw; (try dsimp only at hSw); go_simp; try with_reducible rfl)
                      try simp only [Act.put, List.setIfInBounds_toArray, List.set_cons_zero, List.set_cons_succ]
                      refine wpAnyH_done (by kernel_rfl) ?_ _
                      go_wp2_with fail
                      go_meet
                      exact ⟨rfl, A, nn, c, p, z, rfl, rfl, hn16, hrd, hxp, hz, NT.out⟩
                    refine AllReadyH.cons (o := ⟨some 156, _, _, _, _, _⟩) rfl (fun K hK => ?_) AllReadyH.nil
                    go_simp
                    refine hK.out _ _ ?_ (fun hHeld => ?_)
                    · (try dsimp only); all_goals trivial
                    clear hK K
                    try simp only [Act.put, List.setIfInBounds_toArray, List.set_cons_zero, List.set_cons_succ]
                    refine wpAnyH_ready (rs := [4]) (by kernel_rfl) (by simp) ?_
                    refine AllReadyH.cons (o := ⟨some 152, _, _, _, _, _⟩) rfl (fun K hK => ?_) AllReadyH.nil
                    go_simp
                    refine hK.out _ _ ?_ (fun hHeld => ?_)
                    · (try dsimp only); all_goals trivial
                    clear hK K
                    try simp only [Act.put, List.setIfInBounds_toArray, List.set_cons_zero, List.set_cons_succ]
                    refine wpAnyH_ready (rs := [9]) (by kernel_rfl) (by simp) ?_
                    refine AllReadyH.cons (o := ⟨some 157, _, _, _, _, _⟩) rfl (fun K hK => ?_) AllReadyH.nil
                    go_simp
                    refine (HRT.out _ NT.out).mono ?_
                    rintro e w5 ⟨⟨A, nn, c, p, z, rfl, hn16, hrd, hxp, hz⟩, b5⟩
                    have NT := Lib.hid (bnextK NT.out b5)
                    go_wp2_with fail
                    refine hK.out _ _ ?_ (fun hHeld => ?_)
                    · (try dsimp only); all_goals trivial
                    clear hK K
                    try simp only [Act.put, List.setIfInBounds_toArray, List.set_cons_zero, List.set_cons_succ]
                    refine wpAnyH_take (i := 10) (oi := ⟨some 147, _, _, _, _, _⟩) (v := ?_) rfl (by kernel_rfl) (by kernel_rfl) (by kernel_rfl) (fun _ _ _ h => h) (Or.inl ⟨by rfl, ?_⟩) (by assumption) ?_
                    rotate_left
                    · (intro w hSw; (try dsimp only at hSw); go_simp; try with_reducible rfl)
                    try simp only [Act.put, List.setIfInBounds_toArray, List.set_cons_zero, List.set_cons_succ]
                    refine wpAnyH_take (i := 11) (oi := ⟨some 158, _, _, _, _, _⟩) (v := ?_) rfl (by kernel_rfl) (by kernel_rfl) (by kernel_rfl) (fun _ _ _ h => h) (Or.inl ⟨by rfl, ?_⟩) (by assumption) ?_
                    rotate_left
                    · (intro w hSw; (try dsimp only at hSw); go_simp; try with_reducible rfl)
                    try simp only [Act.put, List.setIfInBounds_toArray, List.set_cons_zero, List.set_cons_succ]
                    refine wpAnyH_take (i := 12) (oi := ⟨some 159, _, _, _, _, _⟩) (v := ?_) rfl (by kernel_rfl) (by kernel_rfl) (by kernel_rfl) (fun _ _ _ h => h) (Or.inl ⟨by rfl, ?_⟩) (by assumption) ?_
                    rotate_left
                    · (intro w hSw; (try dsimp only at hSw); go_simp; try with_reducible rfl)
                    try simp only [Act.put, List.setIfInBounds_toArray, List.set_cons_zero, List.set_cons_succ]
                    refine wpAnyH_take (i := 13) (oi := ⟨some 25, _, _, _, _, _⟩) (v := ?_) rfl (by kernel_rfl) (by kernel_rfl) (by kernel_rfl) (fun _ _ _ h => h) (Or.inl ⟨by rfl, ?_⟩) (by assumption) ?_
                    rotate_left
                    · (intro w hSw; (try dsimp only at hSw); go_simp; try with_reducible rfl)
                    try simp only [Act.put, List.setIfInBounds_toArray, List.set_cons_zero, List.set_cons_succ]
                    refine wpAnyH_take (i := 14) (oi := ⟨some 26, _, _, _, _, _⟩) (v := ?_) rfl (by kernel_rfl) (by kernel_rfl) (by kernel_rfl) (fun _ _ _ h => h) (Or.inl ⟨by rfl, ?_⟩) (by assumption) ?_
                    rotate_left
                    · (intro w hSw; (try dsimp only at hSw); go_simp; try with_reducible rfl)
                    try simp only [Act.put, List.setIfInBounds_toArray, List.set_cons_zero, List.set_cons_succ]
                    refine wpAnyH_done (by kernel_rfl) ?_ _
                    go_wp2_with fail
                    go_meet
                    exact ⟨rfl, A, nn, c, p, z, rfl, rfl, hn16, hrd, hxp, hz, NT.out⟩
                  case rest =>
                    obtain ⟨w6, rfl⟩ : ∃ z : World, z = wc := ⟨_, rfl⟩
                    obtain ⟨rfl, A, nn, c, p, z, rfl, rfl, hn16, hrd, hxp, hz, hbc⟩ := hcut
                    have HHA := Lib.hid (has_any A nn c p xn w6 w6.heap.size (by omega) hrd)
                    rw [decide_eq_false hxp] at HHA
                    have HBC := Lib.hid hbc
                    obtain ⟨e1, he1⟩ : ∃ e1, e1 = (nm a == xn) := ⟨_, rfl⟩
                    obtain ⟨e2, he2⟩ : ∃ e2, e2 = (nm b == xn) := ⟨_, rfl⟩
                    obtain ⟨e3, he3⟩ : ∃ e3, e3 = ((a : Int) != (b : Int)) := ⟨_, rfl⟩
                    have HZ : Hid ((e1 || e2) = true → e3 = true → z = 20) := Lib.hid fun q1 q2 => hz ⟨by
                      rw [Bool.or_eq_true, he1, he2, beq_iff_eq, beq_iff_eq] at q1; exact q1, by
                      rw [he3, bne_iff_ne] at q2; exact fun e => q2 (by rw [e])⟩
                    have hq1 := he1.symm; have hq2 := he2.symm; have hq3 := he3.symm
                    clear hrd hxp hz hbc HRT he1 he2 he3
                    go_wp2_with fail
                    refine HHA.out.mono ?_
                    clear HHA
                    rintro e w7 ⟨rfl, rfl⟩
                    have HN7 := Lib.hid (HNB'.out.far HBC.out); have HB7 := Lib.hid (bnextK HBB.out HBC.out)
                    go_wp2_with fail
                    refine (names_any _).mono ?_
                    rintro e w8 ⟨rfl, hw8⟩
                    obtain ⟨f8, b8⟩ := names_fact hw8
                    have y8 := f8 a HA8.out
                    have HN8 := Lib.hid (HN7.out.far b8); have HB8' := Lib.hid (bnextK HB7.out b8)
                    clear hw8 f8 b8
                    cases e1 with
                    | true =>
                      cases e3 with
                      | true =>
                        have hz20 := HZ.out (by simp) (by simp)
                        have hzz : (z != 20) = false := by rw [hz20]; rfl
                        clear hz20
                        go_wp2_with fail
                        go_roundw
                        case rel => exact ⟨b + 1, by omega, by go_num, HN8.out, HB8'.out⟩
                        case measure => simp [intOf]; omega
                      | false =>
                        go_wp2_with fail
                        go_roundw
                        case rel => exact ⟨b + 1, by omega, by go_num, HN8.out, HB8'.out⟩
                        case measure => simp [intOf]; omega
                    | false =>
                      go_wp2_with fail
                      refine (names_any _).mono ?_
                      rintro e w9 ⟨rfl, hw9⟩
                      obtain ⟨f9, b9⟩ := names_fact hw9
                      have y9 := f9 b HB8.out
                      have HN8 := Lib.hid (HN8.out.far b9); have HB8' := Lib.hid (bnextK HB8'.out b9)
                      clear hw9 f9 b9
                      cases e2 with
                      | true =>
                        cases e3 with
                        | true =>
                          have hz20 := HZ.out (by simp) (by simp)
                          have hzz : (z != 20) = false := by rw [hz20]; rfl
                          clear hz20
                          go_wp2_with fail
                          go_roundw
                          case rel => exact ⟨b + 1, by omega, by go_num, HN8.out, HB8'.out⟩
                          case measure => simp [intOf]; omega
                        | false =>
                          go_wp2_with fail
                          go_roundw
                          case rel => exact ⟨b + 1, by omega, by go_num, HN8.out, HB8'.out⟩
                          case measure => simp [intOf]; omega
                      | false =>
                        go_wp2_with fail
                        go_roundw
                        case rel => exact ⟨b + 1, by omega, by go_num, HN8.out, HB8'.out⟩
                        case measure => simp [intOf]; omega
                · have hbi : ¬ (b : Int) < 8 := by omega
                  go_wp2_with fail
                  go_roundw
                  case rel => exact ⟨a + 1, by omega, by go_num, HNB'.out, HBB.out⟩
                  case measure => simp [intOf]; omega
            · have hai : ¬ (a : Int) < 8 := by omega
              go_wp2_with fail
              refine (HW.out _).mono ?_
              rintro e w9 ⟨rfl, hb9⟩
              have HB9 := Lib.hid (bnextK HBA.out hb9)
              clear hb9
              go_wp2_with fail
              go_ret
              exact ⟨rfl, HB9.out⟩
end Go.Proofs.YtecndceekgaglaaGreat
