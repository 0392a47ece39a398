/- The contract of payload. Conditions: as the statement says. -/
import Derived.Test.YtdgmjedkhjeadaaGreatBytes9
import Derived.Test.YtdgmjedkhjeadaaGreatTail
import Derived.Deep.CutBlock
namespace Go.Proofs.YtdgmjedkhjeadaaGreat
open Go.RowKit
set_option linter.unusedVariables false
set_option linter.unusedSimpArgs false
def recV (r : Rc) (A : Option Addr) (c : Nat) : Value := .agg #[.int .i64 (r.epoch : Int), .int .i64 (r.kind : Int), .int .i64 (r.id : Int), .int .i64 (r.a : Int), .int .i64 (r.b : Int), .slice A r.bits.length c]
def recC (r : Rc) (A : Option Addr) (c : Nat) : Array Value := #[.int .i64 (r.epoch : Int), .int .i64 (r.kind : Int), .int .i64 (r.id : Int), .int .i64 (r.a : Int), .int .i64 (r.b : Int), .slice A r.bits.length c]
structure RcOK (r : Rc) : Prop where
  epoch : r.epoch < 4611686018427387904
  kind : r.kind < 256
  id : r.id < 4611686018427387904
  a : r.a < 4611686018427387904
  b : r.b < 4611686018427387904
  len : r.bits.length ≤ 1000
  bits : ∀ x ∈ r.bits, x < 256
theorem splice_join {α : Type} (L : List α) (o : Nat) (X Y : List α) (h : o + X.length + Y.length ≤ L.length) : splice (splice L o X) (o + X.length) Y = splice L o (X ++ Y) := by
  unfold splice
  have h1 : (L.take o).length = o := by rw [List.length_take]; omega
  have h2 : (L.take o ++ (X ++ L.drop (o + X.length))).take (o + X.length) = L.take o ++ X := by
    rw [List.take_append, h1, List.take_of_length_le (by rw [h1]; omega), show o + X.length - o = X.length by omega, List.take_left]
  have h3 : (L.take o ++ (X ++ L.drop (o + X.length))).drop (o + X.length + Y.length) = L.drop (o + (X ++ Y).length) := by
    rw [List.drop_append, h1, List.drop_eq_nil_of_le (by rw [h1]; omega), List.nil_append, List.drop_append, List.drop_eq_nil_of_le (by omega), List.nil_append, List.drop_drop, List.length_append]
    congr 1
    omega
  rw [h2, h3, List.append_assoc, List.append_assoc]
theorem secC_append (X Y : List Nat) : secC (X ++ Y) = secC X ++ secC Y := by simp [secC]
def PayP (b off : Nat) (r : Rc) (cs : List Value) (t : TypeId) (w : World) (e : Ending) (w' : World) : Prop :=
  e = .returned (.int .i64 ((payR r).length : Int)) ∧ Bk w' b (splice cs off (secC (payR r))).toArray t ∧ KeepL [b] w w'
set_option maxRecDepth 100000 in
set_option maxHeartbeats 1000000 in
theorem payload_any (b off c : Nat) (r : Rc) (A : Option Addr) (c2 B : Nat) (cs : List Value) (t : TypeId) (w : World) (ho : RcOK r) (hb : Bk w b cs.toArray t) (hk : off + 46 ≤ cs.length) (hc : 46 ≤ c) (hc2 : c ≤ 1000) (hB : B ≤ b) (hr : Rd w B 1 A r.bits.length (secC r.bits)) :
    Calls Tryz.prog 106 #[recV r A c2, .slice (some ⟨b, off, none⟩) 46 c] w (PayP b off r cs t w) := by
  obtain ⟨w1, hw1⟩ : ∃ z, z = w.alloc (.cells (recC r A c2) 115) := ⟨_, rfl⟩
  have hg : Bk w1 w.heap.size (recC r A c2) 115 := by rw [hw1]; exact Bk.new _ _ _
  have hw : Below w.heap.size w w1 := by rw [hw1]; exact balloc _ _
  have hne : w.heap.size ≠ b := Nat.ne_of_gt hb.lt
  have hb1 := hb.past hw hb.lt
  have HW1 := Lib.hid hw1; have HG := Lib.hid hg; have HW := Lib.hid hw; have HNE := Lib.hid hne; have HB := Lib.hid hb1; have HO := Lib.hid ho; have HRD := Lib.hid (hr.below (hw.mono (Nat.le_trans hB (Nat.le_of_lt hb.lt))))
  have HK := Lib.hid hk; have HBB := Lib.hid hB; have HLT := Lib.hid hb.lt
  have r1 := hg.cell 1
  have r2 : ∀ W, KeepL [b] w1 W → W.cell? ⟨w.heap.size, 1, none⟩ = some (.int .i64 (r.kind : Int)) ∧ W.cell? ⟨w.heap.size, 2, none⟩ = some (.int .i64 (r.id : Int)) ∧ W.cell? ⟨w.heap.size, 3, none⟩ = some (.int .i64 (r.a : Int)) ∧ W.cell? ⟨w.heap.size, 4, none⟩ = some (.int .i64 (r.b : Int)) ∧ W.cell? ⟨w.heap.size, 5, none⟩ = some (.slice A r.bits.length c2) := fun W hW => by
    have h := hg.keepL hW (by simpa using hne)
    exact ⟨by rw [h.cell]; rfl, by rw [h.cell]; rfl, by rw [h.cell]; rfl, by rw [h.cell]; rfl, by rw [h.cell]; rfl⟩
  have HR := Lib.hid r2
  obtain ⟨a1, a2, a3, a4, a5⟩ := r2 w1 (KeepL.refl _ _)
  have hci : (46 : Int) ≤ (c : Int) := by omega
  have hci4 : (4 : Int) ≤ (c : Int) := by omega
  have hci5 : (5 : Int) ≤ (c : Int) := by omega
  have hci6 : (6 : Int) ≤ (c : Int) := by omega
  have hci8 : (8 : Int) ≤ (c : Int) := by omega
  clear hw1 hg hw hne hb hb1 ho hr r1 r2 hk hB
  unfold recV
  by_cases k2 : r.kind = 2
  · skip
    have g2 : ((r.kind : Int) == 2) = true := by simp; omega
    have HK2 := Lib.hid k2
    clear k2
    go_enter Tryz.func106, Tryz.ntmps106
    go_upto_region 2 with fail
    have HW9 := HW1.out
    unfold recC at HW9
    rw [← HW9]
    clear HW9 g2
    by_cases hl0 : r.bits.length = 0
    · have hbn : r.bits = [] := List.length_eq_zero_iff.1 hl0
      have hp : payR r = (r.bits.take 46) := by unfold payR; rw [if_pos HK2.out]
      have HBN := Lib.hid hbn; have HL0 := Lib.hid hl0; have HPY := Lib.hid hp
      clear hbn hl0 hp
      have hcp := run_copy_none (P := Tryz.prog) w1 31 31 3 5 (some ⟨b, off, none⟩) A 46 c r.bits.length c2 Tryz.underlying31 (by kernel_rfl) (by rw [HL0.out]; rfl)
      go_wp2_with fail
      go_ret
      unfold PayP
      rw [HPY.out, HBN.out, List.take_nil]
      exact ⟨by simp [beB_length], by show Bk _ _ (splice cs off (secC ([] : List Nat))).toArray t; rw [show splice cs off (secC ([] : List Nat)) = cs by unfold splice; simp [secC]]; exact HB.out, (KeepL.of_below HW.out).trans (KeepL.refl _ _)⟩
    · obtain ⟨bb, offb, hA, hbl, hcell⟩ := HRD.out.2 (by omega)
      subst hA
      have hbb : bb ∉ [b] := by simp only [List.mem_singleton]; have := HBB.out; omega
      have hbl1 : bb < w1.heap.size := Nat.lt_of_lt_of_le (Nat.lt_of_lt_of_le hbl (Nat.le_trans HBB.out (Nat.le_of_lt HLT.out))) HW.out.size
      have hp : payR r = (r.bits.take 46) := by unfold payR; rw [if_pos HK2.out]
      have HPY := Lib.hid hp
      have HSRC : Hid (∀ j v, (secC (r.bits.take 46))[j]? = some v → w1.cell? ((⟨bb, offb, none⟩ : Addr).add j) = some v) := Lib.hid fun j v hv => by
        rw [Addr.add_mid]
        have h1 : (secC r.bits)[j]? = some v := by
          simp only [secC, List.map_take] at hv ⊢
          rw [List.getElem?_take] at hv
          split at hv
          · exact hv
          · cases hv
        rw [show w1.cell? ⟨bb, offb + j, none⟩ = w1.cell? ⟨bb, offb + j, none⟩ from rfl]
        exact hcell j v h1
      have HLEN : Hid ((secC (r.bits.take 46)).length = Nat.min r.bits.length 46) := Lib.hid (by rw [secC_length, List.length_take]; exact Nat.min_comm _ _)
      have HLE : Hid ((secC (r.bits.take 46)).length ≤ 46) := Lib.hid (by rw [secC_length, List.length_take]; omega)
      clear hl0 hbl hcell hbb hbl1 hp
      have hcp := run_copy_row (P := Tryz.prog) w1 31 31 3 5 b off 46 c ⟨bb, offb, none⟩ r.bits.length c2 cs.toArray t (secC (r.bits.take 46)) Tryz.underlying31 (by kernel_rfl) HB.out HLEN.out HSRC.out (by rw [List.size_toArray]; have := HK.out; have := HLE.out; omega) (fun v hv => secC_one _ v hv)
      go_wp2_with fail
      go_ret
      unfold PayP
      rw [HPY.out]
      exact ⟨by rw [secC_length]; rfl, HB.out.put _, (KeepL.of_below HW.out).trans ((KeepL.refl _ _).trans (keepL_put _ _ _))⟩
  · have g2 : ((r.kind : Int) == 2) = false := by simp; omega
    go_enter Tryz.func106, Tryz.ntmps106
    go_upto_region 3 with fail
    have HW9 := HW1.out
    unfold recC at HW9
    rw [← HW9]
    clear HW9
    refine wp_region_quiet_tail 4 (by kernel_rfl) (by kernel_rfl) ?_
    simp only [List.take_succ_cons, List.take_zero, List.drop_succ_cons, List.drop_zero]
    repeat (quiet_step (fail))
    refine wpQuiet_nil ?_
    intro _ hw'
    obtain ⟨nr, hw''⟩ := hw'
    subst hw''
    have HQ1 := Lib.hid (Qw.below (⟨nr, rfl⟩ : Qw w1 (w1.drewN nr)) w1.heap.size)
    generalize w1.drewN nr = v1 at HQ1 ⊢
    go_wp2_with fail
    refine (putB_any b off 4 c r.id cs t v1 (HB.out.past HQ1.out HB.out.lt) (by have := HK.out; omega) (by omega) (by omega) HO.out.id).mono ?_
    rintro e x1 ⟨rfl, hb, hk⟩
    have HKP := Lib.hid (((KeepL.of_below HQ1.out)).trans hk)
    have HB := Lib.hid hb
    clear hb hk a1 a2 a3 a4 a5
    obtain ⟨b1, b2, b3, b4, b5⟩ := HR.out x1 HKP.out
    by_cases k1 : r.kind = 1
    · have g1 : ((r.kind : Int) == 1) = true := by simp; omega
      have HK1 := Lib.hid k1; have HK2 := Lib.hid k2
      clear k1
      go_upto_region 6 with fail
      refine wp_region_quiet_tail 4 (by kernel_rfl) (by kernel_rfl) ?_
      simp only [List.take_succ_cons, List.take_zero, List.drop_succ_cons, List.drop_zero]
      repeat (quiet_step (fail))
      refine wpQuiet_nil ?_
      intro _ hw'
      obtain ⟨nr, hw''⟩ := hw'
      subst hw''
      have HQ2 := Lib.hid (Qw.below (⟨nr, rfl⟩ : Qw x1 (x1.drewN nr)) x1.heap.size)
      generalize x1.drewN nr = v2 at HQ2 ⊢
      go_wp2_with fail
      refine (putB_any b (off + 4) 2 (c - 4) r.a (splice cs off (secC (beB 4 r.id))) t v2 (HB.out.past HQ2.out HB.out.lt) (by rw [length_splice _ _ _ (by rw [secC_length]; simp only [List.length_append, beB_length]; have := HK.out; omega)]; have := HK.out; omega) (by omega) (by omega) HO.out.a).mono ?_
      rintro e x2 ⟨rfl, hb, hk⟩
      have HKP := Lib.hid ((HKP.out.trans (KeepL.of_below HQ2.out)).trans hk)
      rw [show off + 4 = off + (secC (beB 4 r.id)).length by rw [secC_length]; simp [beB_length], splice_join _ _ _ _ (by rw [secC_length, secC_length]; simp only [List.length_append, beB_length]; have := HK.out; omega), ← secC_append] at hb
      have HB := Lib.hid hb
      clear hb hk b1 b2 b3 b4 b5
      obtain ⟨b1, b2, b3, b4, b5⟩ := HR.out x2 HKP.out
      go_upto_region 7 with fail
      refine wp_region_quiet_tail 4 (by kernel_rfl) (by kernel_rfl) ?_
      simp only [List.take_succ_cons, List.take_zero, List.drop_succ_cons, List.drop_zero]
      repeat (quiet_step (fail))
      refine wpQuiet_nil ?_
      intro _ hw'
      obtain ⟨nr, hw''⟩ := hw'
      subst hw''
      have HQ9 := Lib.hid (Qw.below (⟨nr, rfl⟩ : Qw x2 (x2.drewN nr)) x2.heap.size)
      generalize x2.drewN nr = v9 at HQ9 ⊢
      clear b1 b2 b3 b4 b5
      by_cases hl0 : r.bits.length = 0
      · have hbn : r.bits = [] := List.length_eq_zero_iff.1 hl0
        have hp : payR r = beB 4 r.id ++ beB 2 r.a ++ (r.bits.take 40) := by unfold payR; rw [if_neg HK2.out, if_pos HK1.out]
        have HBN := Lib.hid hbn; have HL0 := Lib.hid hl0; have HPY := Lib.hid hp
        clear hbn hl0 hp
        have hcp := run_copy_none (P := Tryz.prog) v9 31 31 3 5 (some ⟨b, (off + 6), none⟩) A 40 (c - 6) r.bits.length c2 Tryz.underlying31 (by kernel_rfl) (by rw [HL0.out]; rfl)
        go_wp2_with fail
        go_ret
        unfold PayP
        rw [HPY.out, HBN.out, List.take_nil]
        exact ⟨by simp [beB_length], by rw [List.append_nil]; exact HB.out.past HQ9.out HB.out.lt, (KeepL.of_below HW.out).trans (HKP.out.trans (KeepL.of_below HQ9.out))⟩
      · obtain ⟨bb, offb, hA, hbl, hcell⟩ := HRD.out.2 (by omega)
        subst hA
        have hbb : bb ∉ [b] := by simp only [List.mem_singleton]; have := HBB.out; omega
        have hbl1 : bb < w1.heap.size := Nat.lt_of_lt_of_le (Nat.lt_of_lt_of_le hbl (Nat.le_trans HBB.out (Nat.le_of_lt HLT.out))) HW.out.size
        have hp : payR r = beB 4 r.id ++ beB 2 r.a ++ (r.bits.take 40) := by unfold payR; rw [if_neg HK2.out, if_pos HK1.out]
        have HPY := Lib.hid hp
        have HSRC : Hid (∀ j v, (secC (r.bits.take 40))[j]? = some v → v9.cell? ((⟨bb, offb, none⟩ : Addr).add j) = some v) := Lib.hid fun j v hv => by
          rw [Addr.add_mid]
          have h1 : (secC r.bits)[j]? = some v := by
            simp only [secC, List.map_take] at hv ⊢
            rw [List.getElem?_take] at hv
            split at hv
            · exact hv
            · cases hv
          rw [show v9.cell? ⟨bb, offb + j, none⟩ = w1.cell? ⟨bb, offb + j, none⟩ from (HKP.out.trans (KeepL.of_below HQ9.out)).cell hbl1 hbb]
          exact hcell j v h1
        have HLEN : Hid ((secC (r.bits.take 40)).length = Nat.min r.bits.length 40) := Lib.hid (by rw [secC_length, List.length_take]; exact Nat.min_comm _ _)
        have HLE : Hid ((secC (r.bits.take 40)).length ≤ 40) := Lib.hid (by rw [secC_length, List.length_take]; omega)
        clear hl0 hbl hcell hbb hbl1 hp
        have hcp := run_copy_row (P := Tryz.prog) v9 31 31 3 5 b (off + 6) 40 (c - 6) ⟨bb, offb, none⟩ r.bits.length c2 (splice cs off (secC (beB 4 r.id ++ beB 2 r.a))).toArray t (secC (r.bits.take 40)) Tryz.underlying31 (by kernel_rfl) (HB.out.past HQ9.out HB.out.lt) HLEN.out HSRC.out (by rw [List.size_toArray]; rw [length_splice _ _ _ (by rw [secC_length]; simp only [List.length_append, beB_length]; have := HK.out; omega)]; have := HK.out; have := HLE.out; omega) (fun v hv => secC_one _ v hv)
        go_wp2_with fail
        go_ret
        unfold PayP
        rw [HPY.out]
        have e1 := splice_join cs off (secC (beB 4 r.id ++ beB 2 r.a)) (secC (r.bits.take 40)) (by have := HK.out; have := HLE.out; rw [secC_length]; simp only [List.length_append, beB_length]; omega)
        rw [secC_length, show (beB 4 r.id ++ beB 2 r.a).length = 6 by simp [beB_length], ← secC_append] at e1
        refine ⟨?_, ?_, (KeepL.of_below HW.out).trans ((HKP.out.trans (KeepL.of_below HQ9.out)).trans (keepL_put _ _ _))⟩
        · have h40 : (r.bits.take 40).length ≤ 40 := by rw [List.length_take]; omega
          rw [secC_length, List.length_append, show (beB 4 r.id ++ beB 2 r.a).length = 6 by simp [beB_length]]
          generalize (r.bits.take 40).length = q at *
          show Ending.returned (.int .i64 (wrap64 (6 + (q : Int)))) = .returned (.int .i64 ((6 + q : Nat) : Int))
          congr 2
          simp only [wrap64]
          omega
        rw [← e1]
        exact (HB.out.past HQ9.out HB.out.lt).put _
    · have g1 : ((r.kind : Int) == 1) = false := by simp; omega
      by_cases k3 : r.kind = 3
      · have g3 : ((r.kind : Int) == 3) = true := by simp; omega
        go_upto_region 9 with fail
        refine wp_region_quiet_tail 4 (by kernel_rfl) (by kernel_rfl) ?_
        simp only [List.take_succ_cons, List.take_zero, List.drop_succ_cons, List.drop_zero]
        repeat (quiet_step (fail))
        refine wpQuiet_nil ?_
        intro _ hw'
        obtain ⟨nr, hw''⟩ := hw'
        subst hw''
        have HQ2 := Lib.hid (Qw.below (⟨nr, rfl⟩ : Qw x1 (x1.drewN nr)) x1.heap.size)
        generalize x1.drewN nr = v2 at HQ2 ⊢
        go_wp2_with fail
        refine (putB_any b (off + 4) 2 (c - 4) r.a (splice cs off (secC (beB 4 r.id))) t v2 (HB.out.past HQ2.out HB.out.lt) (by rw [length_splice _ _ _ (by rw [secC_length]; simp only [List.length_append, beB_length]; have := HK.out; omega)]; have := HK.out; omega) (by omega) (by omega) HO.out.a).mono ?_
        rintro e x2 ⟨rfl, hb, hk⟩
        have HKP := Lib.hid ((HKP.out.trans (KeepL.of_below HQ2.out)).trans hk)
        rw [show off + 4 = off + (secC (beB 4 r.id)).length by rw [secC_length]; simp [beB_length], splice_join _ _ _ _ (by rw [secC_length, secC_length]; simp only [List.length_append, beB_length]; have := HK.out; omega), ← secC_append] at hb
        have HB := Lib.hid hb
        clear hb hk b1 b2 b3 b4 b5
        obtain ⟨b1, b2, b3, b4, b5⟩ := HR.out x2 HKP.out
        go_upto_region 10 with fail
        refine wp_region_quiet_tail 4 (by kernel_rfl) (by kernel_rfl) ?_
        simp only [List.take_succ_cons, List.take_zero, List.drop_succ_cons, List.drop_zero]
        repeat (quiet_step (fail))
        refine wpQuiet_nil ?_
        intro _ hw'
        obtain ⟨nr, hw''⟩ := hw'
        subst hw''
        have HQ3 := Lib.hid (Qw.below (⟨nr, rfl⟩ : Qw x2 (x2.drewN nr)) x2.heap.size)
        generalize x2.drewN nr = v3 at HQ3 ⊢
        go_wp2_with fail
        refine (putB_any b (off + 6) 2 (c - 6) r.b (splice cs off (secC (beB 4 r.id ++ beB 2 r.a))) t v3 (HB.out.past HQ3.out HB.out.lt) (by rw [length_splice _ _ _ (by rw [secC_length]; simp only [List.length_append, beB_length]; have := HK.out; omega)]; have := HK.out; omega) (by omega) (by omega) HO.out.b).mono ?_
        rintro e x3 ⟨rfl, hb, hk⟩
        have HKP := Lib.hid ((HKP.out.trans (KeepL.of_below HQ3.out)).trans hk)
        rw [show off + 6 = off + (secC (beB 4 r.id ++ beB 2 r.a)).length by rw [secC_length]; simp [beB_length], splice_join _ _ _ _ (by rw [secC_length, secC_length]; simp only [List.length_append, beB_length]; have := HK.out; omega), ← secC_append] at hb
        have HB := Lib.hid hb
        clear hb hk b1 b2 b3 b4 b5
        obtain ⟨b1, b2, b3, b4, b5⟩ := HR.out x3 HKP.out
        go_wp2_with fail
        go_ret
        have hp : payR r = beB 4 r.id ++ beB 2 r.a ++ beB 2 r.b := by unfold payR; simp [k3]
        unfold PayP
        rw [hp]
        exact ⟨by simp [beB_length, secC], HB.out, (KeepL.of_below HW.out).trans HKP.out⟩
      · have g3 : ((r.kind : Int) == 3) = false := by simp; omega
        by_cases k5 : r.kind = 5
        · have g5 : ((r.kind : Int) == 5) = true := by simp; omega
          go_upto_region 13 with fail
          refine wp_region_quiet_tail 4 (by kernel_rfl) (by kernel_rfl) ?_
          simp only [List.take_succ_cons, List.take_zero, List.drop_succ_cons, List.drop_zero]
          repeat (quiet_step (fail))
          refine wpQuiet_nil ?_
          intro _ hw'
          obtain ⟨nr, hw''⟩ := hw'
          subst hw''
          have HQ2 := Lib.hid (Qw.below (⟨nr, rfl⟩ : Qw x1 (x1.drewN nr)) x1.heap.size)
          generalize x1.drewN nr = v2 at HQ2 ⊢
          go_wp2_with fail
          refine (putB_any b (off + 4) 1 (c - 4) r.a (splice cs off (secC (beB 4 r.id))) t v2 (HB.out.past HQ2.out HB.out.lt) (by rw [length_splice _ _ _ (by rw [secC_length]; simp only [List.length_append, beB_length]; have := HK.out; omega)]; have := HK.out; omega) (by omega) (by omega) HO.out.a).mono ?_
          rintro e x2 ⟨rfl, hb, hk⟩
          have HKP := Lib.hid ((HKP.out.trans (KeepL.of_below HQ2.out)).trans hk)
          rw [show off + 4 = off + (secC (beB 4 r.id)).length by rw [secC_length]; simp [beB_length], splice_join _ _ _ _ (by rw [secC_length, secC_length]; simp only [List.length_append, beB_length]; have := HK.out; omega), ← secC_append] at hb
          have HB := Lib.hid hb
          clear hb hk b1 b2 b3 b4 b5
          obtain ⟨b1, b2, b3, b4, b5⟩ := HR.out x2 HKP.out
          go_wp2_with fail
          go_ret
          have hp : payR r = beB 4 r.id ++ beB 1 r.a := by unfold payR; simp [k5]
          unfold PayP
          rw [hp]
          exact ⟨by simp [beB_length, secC], HB.out, (KeepL.of_below HW.out).trans HKP.out⟩
        · have g5 : ((r.kind : Int) == 5) = false := by simp; omega
          go_wp2_with fail
          go_ret
          have hp : payR r = beB 4 r.id := by unfold payR; simp [k1, k2, k3, k5]
          unfold PayP
          rw [hp]
          exact ⟨by simp [beB_length, secC], HB.out, (KeepL.of_below HW.out).trans HKP.out⟩
theorem splice_get {α : Type} (L : List α) (o : Nat) (Y : List α) (h : o + Y.length ≤ L.length) (i : Nat) : (splice L o Y)[i]? = if i < o then L[i]? else if i < o + Y.length then Y[i - o]? else L[i]? := by
  unfold splice
  have h1 : (L.take o).length = o := by rw [List.length_take]; omega
  by_cases h2 : i < o
  · rw [if_pos h2, List.getElem?_append_left (by omega), List.getElem?_take, if_pos h2]
  · rw [if_neg h2, List.getElem?_append_right (by omega), h1]
    by_cases h3 : i < o + Y.length
    · rw [if_pos h3, List.getElem?_append_left (by omega)]
    · rw [if_neg h3, List.getElem?_append_right (by omega), List.getElem?_drop]
      congr 1
      omega
theorem sec_splices {α : Type} (z : α) (X P : List α) (k l : α) (hX : X.length = 8) (hP : P.length ≤ 46) :
    splice (splice (splice (splice (splice (List.replicate 64 z) 0 X) 8 [k]) 10 P) 9 [l]) 56 X = X ++ [k, l] ++ (P ++ List.replicate (46 - P.length) z) ++ X := by
  have l0 : (List.replicate 64 z).length = 64 := List.length_replicate
  have l1 : (splice (List.replicate 64 z) 0 X).length = 64 := by rw [length_splice _ _ _ (by rw [l0, hX]; omega), l0]
  have l2 : (splice (splice (List.replicate 64 z) 0 X) 8 [k]).length = 64 := by rw [length_splice _ _ _ (by rw [l1]; simp), l1]
  have l3 : (splice (splice (splice (List.replicate 64 z) 0 X) 8 [k]) 10 P).length = 64 := by rw [length_splice _ _ _ (by rw [l2]; omega), l2]
  have l4 : (splice (splice (splice (splice (List.replicate 64 z) 0 X) 8 [k]) 10 P) 9 [l]).length = 64 := by rw [length_splice _ _ _ (by rw [l3]; simp), l3]
  apply List.ext_getElem?
  intro i
  rw [splice_get _ _ _ (by rw [l4, hX]; omega), splice_get _ _ _ (by rw [l3]; simp), splice_get _ _ _ (by rw [l2]; omega), splice_get _ _ _ (by rw [l1]; simp), splice_get _ _ _ (by rw [l0, hX]; omega), hX]
  simp only [List.length_singleton]
  by_cases c1 : i < 8
  · rw [if_pos (by omega), if_pos (by omega), if_pos (by omega), if_pos (by omega), if_neg (by omega), if_pos (by omega), Nat.sub_zero]
    rw [List.append_assoc, List.append_assoc, List.getElem?_append_left (by omega)]
  · by_cases c2 : i = 8
    · subst c2
      rw [if_pos (by omega), if_pos (by omega), if_pos (by omega), if_neg (by omega), if_pos (by omega)]
      rw [List.append_assoc, List.append_assoc, List.getElem?_append_right (by omega), hX]
      rfl
    · by_cases c3 : i = 9
      · subst c3
        rw [if_pos (by omega), if_neg (by omega), if_pos (by omega)]
        rw [List.append_assoc, List.append_assoc, List.getElem?_append_right (by omega), hX]
        rfl
      · by_cases c4 : i < 10 + P.length
        · rw [if_pos (by omega), if_neg (by omega), if_neg (by omega), if_neg (by omega), if_pos c4]
          rw [List.append_assoc, List.append_assoc, List.getElem?_append_right (by omega), hX, List.getElem?_append_right (by simp; omega), List.append_assoc, List.getElem?_append_left (by simp; omega)]
          congr 1
        · by_cases c5 : i < 56
          · rw [if_pos c5, if_neg (by omega), if_neg (by omega), if_neg (by omega), if_neg c4, if_neg (by omega), if_neg (by omega), if_neg (by omega), if_neg (by omega)]
            rw [List.append_assoc, List.append_assoc, List.getElem?_append_right (by omega), hX, List.getElem?_append_right (by simp; omega), List.append_assoc, List.getElem?_append_right (by simp; omega), List.getElem?_append_left (by simp; omega), List.getElem?_replicate, List.getElem?_replicate, if_pos (by omega), if_pos (by simp; omega)]
          · by_cases c6 : i < 64
            · rw [if_neg c5, if_pos (by omega)]
              rw [List.getElem?_append_right (by simp [hX]; omega)]
              congr 1
              simp [hX]
              omega
            · rw [if_neg c5, if_neg (by omega), if_neg (by omega), if_neg (by omega), if_neg (by omega), if_neg c4, if_neg (by omega), if_neg (by omega), if_neg (by omega), if_neg (by omega)]
              rw [List.getElem?_eq_none (by rw [l0]; omega), List.getElem?_eq_none (by simp [hX]; omega)]
theorem secR_cells (r : Rc) (n : Nat) : splice (splice (splice (splice (splice (secC zeroSec) 0 (secC (beB 4 r.epoch ++ beB 4 n))) 8 [.int .u8 ((r.kind % 256 : Nat) : Int)]) 10 (secC (payR r))) 9 [.int .u8 (((payR r).length : Nat) : Int)]) 56 (secC (beB 4 r.epoch ++ beB 4 n)) = secC (secR r n) := by
  have hz : secC zeroSec = List.replicate 64 (.int .u8 0) := by simp [secC, zeroSec]
  rw [hz, sec_splices _ _ _ _ _ (by rw [secC_length]; simp [beB_length]) (by rw [secC_length]; exact payR_length r)]
  unfold secR
  simp [secC]
end Go.Proofs.YtdgmjedkhjeadaaGreat
