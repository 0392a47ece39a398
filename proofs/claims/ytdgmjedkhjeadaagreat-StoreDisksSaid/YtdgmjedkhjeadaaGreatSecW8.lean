/- The contract of record.sector. Conditions: as the statement says. -/
import Derived.Test.YtdgmjedkhjeadaaGreatPay8
import Derived.Test.YtdgmjedkhjeadaaGreatTick3
namespace Go.Proofs.YtdgmjedkhjeadaaGreat
open Go.RowKit
set_option linter.unusedVariables false
theorem set_splice {α : Type} (L : List α) (o : Nat) (x : α) (h : o < L.length) : L.set o x = splice L o [x] := by
  unfold splice
  rw [List.set_eq_take_append_cons_drop, if_pos h]
  rfl
set_option maxRecDepth 100000 in
set_option maxHeartbeats 1000000 in
theorem sector_any (r : Rc) (A : Option Addr) (c2 B n : Nat) (w : World) (ho : RcOK r) (hn : n < 4611686018427387904) (hB : B ≤ w.heap.size) (hr : Rd w B 1 A r.bits.length (secC r.bits)) :
    Calls Tryz.prog 95 #[recV r A c2, .int .i64 (n : Int)] w (RetV (secV (secR r n)) w) := by
  obtain ⟨w0, hw0⟩ : ∃ z, z = w.alloc (.cells (recC r A c2) 115) := ⟨_, rfl⟩
  obtain ⟨w1, hw1⟩ : ∃ z, z = w0.alloc (.cells (secC zeroSec).toArray 101) := ⟨_, rfl⟩
  have hs0 : w0.heap.size = w.heap.size + 1 := by rw [hw0, World.size_alloc]
  have hb0 : Below w.heap.size w w0 := by rw [hw0]; exact balloc _ _
  have hb1 : Below w0.heap.size w0 w1 := by rw [hw1]; exact balloc _ _
  have hg0 : Bk w0 w.heap.size (recC r A c2) 115 := by rw [hw0]; exact Bk.new _ _ _
  have hg := hg0.past hb1 hg0.lt
  have hbk : Bk w1 (w.heap.size + 1) (secC zeroSec).toArray 101 := by rw [← hs0, hw1]; exact Bk.new _ _ _
  have HW1 := Lib.hid (And.intro hw0 hw1)
  have HBL := Lib.hid (bnextK hb0 hb1)
  obtain ⟨g, hgd⟩ : ∃ g, g = w.heap.size := ⟨_, rfl⟩
  obtain ⟨b, hbd⟩ : ∃ b, b = w.heap.size + 1 := ⟨_, rfl⟩
  have HGD := Lib.hid hgd; have HBD := Lib.hid hbd
  rw [← hbd] at hbk
  rw [← hgd] at hg
  have HB := Lib.hid hbk; have HG := Lib.hid hg; have HO := Lib.hid ho
  have hgb : g ∉ [b] := by simp only [List.mem_singleton]; omega
  have HR : Hid (∀ W, KeepL [b] w1 W → W.cell? ⟨g, 0, none⟩ = some (.int .i64 (r.epoch : Int)) ∧ W.cell? ⟨g, 1, none⟩ = some (.int .i64 (r.kind : Int)) ∧ W.cell? ⟨g, 2, none⟩ = some (.int .i64 (r.id : Int)) ∧ W.cell? ⟨g, 3, none⟩ = some (.int .i64 (r.a : Int)) ∧ W.cell? ⟨g, 4, none⟩ = some (.int .i64 (r.b : Int)) ∧ W.cell? ⟨g, 5, none⟩ = some (.slice A r.bits.length c2)) := Lib.hid fun W hW => by
    have h := HG.out.keepL hW hgb
    exact ⟨by rw [h.cell]; rfl, by rw [h.cell]; rfl, by rw [h.cell]; rfl, by rw [h.cell]; rfl, by rw [h.cell]; rfl, by rw [h.cell]; rfl⟩
  have HRD : Hid (∀ W, KeepL [b] w1 W → Rd W B 1 A r.bits.length (secC r.bits)) := Lib.hid fun W hW => (hr.below (HBL.out.mono hB)).below (hW.below (Nat.le_trans hB HBL.out.size) (fun k hk => by simp only [List.mem_singleton] at hk; omega))
  have HBB : Hid (B ≤ b) := Lib.hid (by omega)
  have hz64 : (secC zeroSec).length = 64 := by simp [secC, zeroSec]
  have HZ := Lib.hid hz64
  obtain ⟨a0, a1, a2, a3, a4, a5⟩ := HR.out w1 (KeepL.refl _ _)
  clear hw0 hw1 hs0 hb0 hb1 hg0 hg hbk ho hr hgb hz64
  unfold recV
  go_enter Tryz.func95, Tryz.ntmps95
  go_upto_region 1 with fail
  obtain ⟨hw0, hw1⟩ := HW1.out
  unfold recC at hw0
  rw [lit64u, ← hw0, ← hw1, ← hbd, ← hgd]
  clear hw0 hw1 hgd hbd
  refine wp_region_quiet_tail 3 (by kernel_rfl) (by kernel_rfl) ?_
  simp only [List.take_succ_cons, List.take_zero, List.drop_succ_cons, List.drop_zero]
  repeat (quiet_step (fail))
  refine wpQuiet_nil ?_
  intro _ hw'
  obtain ⟨nr, hw''⟩ := hw'
  subst hw''
  have HQ1 := Lib.hid (Qw.below (⟨nr, rfl⟩ : Qw w1 (w1.drewN nr)) w1.heap.size)
  generalize w1.drewN nr = v1 at HQ1 ⊢
  go_wp2_with fail
  refine (putB_any b 0 4 64 r.epoch (secC zeroSec) 101 v1 (HB.out.past HQ1.out HB.out.lt) (by rw [HZ.out]; omega) (by omega) (by omega) HO.out.epoch).mono ?_
  rintro e x1 ⟨rfl, hb, hk⟩
  replace HB := Lib.hid hb
  have HKP := Lib.hid ((KeepL.of_below HQ1.out).trans hk)
  clear hb hk a0 a1 a2 a3 a4 a5
  go_wp2_with fail
  refine (putB_any b 4 4 60 n (splice (secC zeroSec) 0 (secC (beB 4 r.epoch))) 101 x1 HB.out (by rw [length_splice _ _ _ (by rw [HZ.out, secC_length, beB_length]; omega), HZ.out]; omega) (by omega) (by omega) hn).mono ?_
  rintro e x2 ⟨rfl, hb, hk⟩
  have ej := splice_join (secC zeroSec) 0 (secC (beB 4 r.epoch)) (secC (beB 4 n)) (by rw [HZ.out, secC_length, secC_length, beB_length, beB_length]; omega)
  rw [secC_length, beB_length, ← secC_append] at ej
  rw [ej] at hb
  replace HB := Lib.hid hb
  replace HKP := Lib.hid (HKP.out.trans hk)
  obtain ⟨a0, a1, a2, a3, a4, a5⟩ := HR.out x2 HKP.out
  have HL2 : Hid ((splice (secC zeroSec) 0 (secC (beB 4 r.epoch ++ beB 4 n))).length = 64) := Lib.hid (by rw [length_splice _ _ _ (by rw [HZ.out, secC_length]; simp [beB_length]), HZ.out])
  obtain ⟨u8, hu8⟩ : ∃ u, x2.cell? ⟨b, 8, none⟩ = some u := by
    rw [hb.cell, List.getElem?_toArray]; exact ⟨_, List.getElem?_eq_getElem (by rw [HL2.out]; omega)⟩
  have f8 := hb.froz 8
  have hwk : IntKind.u8.wrap (r.kind : Int) = ((r.kind % 256 : Nat) : Int) := by simp [IntKind.wrap, IntKind.bits, IntKind.signed]
  clear hb hk ej
  go_upto_region 4 with fail
  obtain ⟨x3, hx3⟩ : ∃ z, z = x2.setCell ⟨b, 8, none⟩ (.int .u8 ((r.kind : Int) % 256)) := ⟨_, rfl⟩
  have hk3 : KeepL [b] x2 x3 := by rw [hx3]; exact KeepL.set _ _ _ _
  have hb3 : Bk x3 b (splice (splice (secC zeroSec) 0 (secC (beB 4 r.epoch ++ beB 4 n))) 8 [.int .u8 ((r.kind % 256 : Nat) : Int)]).toArray 101 := by
    have h1 := HB.out.set 8 (.int .u8 ((r.kind : Int) % 256))
    rw [List.setIfInBounds_toArray, set_splice _ _ _ (by rw [HL2.out]; omega)] at h1
    rw [hx3]
    rw [show ((r.kind % 256 : Nat) : Int) = (r.kind : Int) % 256 by omega]
    exact h1
  rw [← hx3]
  replace HB := Lib.hid hb3
  replace HKP := Lib.hid (HKP.out.trans hk3)
  have HL3 : Hid ((splice (splice (secC zeroSec) 0 (secC (beB 4 r.epoch ++ beB 4 n))) 8 [.int .u8 ((r.kind % 256 : Nat) : Int)]).length = 64) := Lib.hid (by rw [length_splice _ _ _ (by rw [HL2.out]; simp), HL2.out])
  clear hx3 hk3 hb3 a0 a1 a2 a3 a4 a5 hu8 f8 hwk
  obtain ⟨a0, a1, a2, a3, a4, a5⟩ := HR.out x3 HKP.out
  refine wp_region_quiet_tail 2 (by kernel_rfl) (by kernel_rfl) ?_
  simp only [List.take_succ_cons, List.take_zero, List.drop_succ_cons, List.drop_zero]
  repeat (quiet_step (fail))
  refine wpQuiet_nil ?_
  intro _ hw'
  obtain ⟨nr, hw''⟩ := hw'
  subst hw''
  have HQ4 := Lib.hid (Qw.below (⟨nr, rfl⟩ : Qw x3 (x3.drewN nr)) x3.heap.size)
  generalize x3.drewN nr = v4 at HQ4 ⊢
  clear a0 a1 a2 a3 a4 a5
  go_wp2_with fail
  have HKQ := Lib.hid (HKP.out.trans (KeepL.of_below HQ4.out))
  refine (payload_any b 10 54 r A c2 B _ 101 v4 HO.out (HB.out.past HQ4.out HB.out.lt) (by rw [HL3.out]; omega) (by omega) (by omega) HBB.out (HRD.out v4 HKQ.out)).mono ?_
  rintro e x5 ⟨rfl, hb, hk⟩
  replace HB := Lib.hid hb
  replace HKP := Lib.hid (HKQ.out.trans hk)
  have hpl := payR_length r
  have HL5 : Hid ((splice (splice (splice (secC zeroSec) 0 (secC (beB 4 r.epoch ++ beB 4 n))) 8 [.int .u8 ((r.kind % 256 : Nat) : Int)]) 10 (secC (payR r))).length = 64) := Lib.hid (by rw [length_splice _ _ _ (by rw [HL3.out, secC_length]; omega), HL3.out])
  obtain ⟨u9, hu9⟩ : ∃ u, x5.cell? ⟨b, 9, none⟩ = some u := by
    rw [hb.cell, List.getElem?_toArray]; exact ⟨_, List.getElem?_eq_getElem (by rw [HL5.out]; omega)⟩
  have f9 := hb.froz 9
  have hwl : IntKind.u8.wrap ((payR r).length : Int) = ((payR r).length : Int) := by simp [IntKind.wrap, IntKind.bits, IntKind.signed]; omega
  clear hb hk HKQ
  go_upto_region 5 with fail
  obtain ⟨x6, hx6⟩ : ∃ z, z = x5.setCell ⟨b, 9, none⟩ (.int .u8 ((payR r).length : Int)) := ⟨_, rfl⟩
  have hk6 : KeepL [b] x5 x6 := by rw [hx6]; exact KeepL.set _ _ _ _
  have hb6 : Bk x6 b (splice (splice (splice (splice (secC zeroSec) 0 (secC (beB 4 r.epoch ++ beB 4 n))) 8 [.int .u8 ((r.kind % 256 : Nat) : Int)]) 10 (secC (payR r))) 9 [.int .u8 (((payR r).length : Nat) : Int)]).toArray 101 := by
    have h1 := HB.out.set 9 (.int .u8 ((payR r).length : Int))
    rw [List.setIfInBounds_toArray, set_splice _ _ _ (by rw [HL5.out]; omega)] at h1
    rw [hx6]
    exact h1
  rw [← hx6]
  replace HB := Lib.hid hb6
  replace HKP := Lib.hid (HKP.out.trans hk6)
  have HX8 : Hid ((secC (beB 4 r.epoch ++ beB 4 n)).length = 8) := Lib.hid (by rw [secC_length]; simp [beB_length])
  have HL6 : Hid ((splice (splice (splice (splice (secC zeroSec) 0 (secC (beB 4 r.epoch ++ beB 4 n))) 8 [.int .u8 ((r.kind % 256 : Nat) : Int)]) 10 (secC (payR r))) 9 [.int .u8 (((payR r).length : Nat) : Int)]).length = 64) := Lib.hid (by rw [length_splice _ _ _ (by rw [HL5.out]; simp), HL5.out])
  have HEAD : Hid (∀ j v, (secC (beB 4 r.epoch ++ beB 4 n))[j]? = some v → (splice (splice (splice (splice (secC zeroSec) 0 (secC (beB 4 r.epoch ++ beB 4 n))) 8 [.int .u8 ((r.kind % 256 : Nat) : Int)]) 10 (secC (payR r))) 9 [.int .u8 (((payR r).length : Nat) : Int)])[j]? = some v) := Lib.hid fun j v hv => by
    have hj : j < 8 := by have := (List.getElem?_eq_some_iff.1 hv).1; rw [HX8.out] at this; exact this
    rw [splice_get _ _ _ (by rw [HL5.out]; simp), if_pos (by omega), splice_get _ _ _ (by rw [HL3.out, secC_length]; omega), if_pos (by omega), splice_get _ _ _ (by rw [HL2.out]; simp), if_pos (by omega), splice_get _ _ _ (by rw [HZ.out, HX8.out]; omega), if_neg (by omega), if_pos (by rw [HX8.out]; omega), Nat.sub_zero]
    exact hv
  clear hx6 hk6 hb6 hu9 f9 hwl
  refine wp_region_quiet_tail 2 (by kernel_rfl) (by kernel_rfl) ?_
  simp only [List.take_succ_cons, List.take_zero, List.drop_succ_cons, List.drop_zero]
  repeat (quiet_step (fail))
  refine wpQuiet_nil ?_
  intro _ hw'
  obtain ⟨nr, hw''⟩ := hw'
  subst hw''
  have HQ7 := Lib.hid (Qw.below (⟨nr, rfl⟩ : Qw x6 (x6.drewN nr)) x6.heap.size)
  generalize x6.drewN nr = v7 at HQ7 ⊢
  have hcp := run_copy_row (P := Tryz.prog) v7 31 31 3 5 b 56 8 8 ⟨b, 0, none⟩ 8 64 _ 101 (secC (beB 4 r.epoch ++ beB 4 n)) Tryz.underlying31 (by kernel_rfl) (HB.out.past HQ7.out HB.out.lt) (by rw [HX8.out]; rfl) (fun j v hv => by rw [Addr.add_mid, Nat.zero_add, (HB.out.past HQ7.out HB.out.lt).cell, List.getElem?_toArray]; exact HEAD.out j v hv) (by rw [List.size_toArray, HL6.out, HX8.out]; omega) (fun v hv => secC_one _ v hv)
  obtain ⟨x8, hx8⟩ : ∃ z, z = v7.setRow b (secC (secR r n)).toArray := ⟨_, rfl⟩
  have hb8 : Bk x8 b (secC (secR r n)).toArray 101 := by rw [hx8]; exact (HB.out.past HQ7.out HB.out.lt).put _
  have hk8 : KeepL [b] v7 x8 := by rw [hx8]; exact keepL_put _ _ _
  have hfin := secR_cells r n
  unfold splice at hfin
  rw [show (((splice (splice (splice (splice (secC zeroSec) 0 (secC (beB 4 r.epoch ++ beB 4 n))) 8 [.int .u8 ((r.kind % 256 : Nat) : Int)]) 10 (secC (payR r))) 9 [.int .u8 (((payR r).length : Nat) : Int)]).toArray.toList.take 56 ++ secC (beB 4 r.epoch ++ beB 4 n) ++ (splice (splice (splice (splice (secC zeroSec) 0 (secC (beB 4 r.epoch ++ beB 4 n))) 8 [.int .u8 ((r.kind % 256 : Nat) : Int)]) 10 (secC (payR r))) 9 [.int .u8 (((payR r).length : Nat) : Int)]).toArray.toList.drop (56 + (secC (beB 4 r.epoch ++ beB 4 n)).length))).toArray = (secC (secR r n)).toArray by rw [List.append_assoc, ← secR_cells r n]; rfl, ← hx8] at hcp
  have hso := secR_ok r n HO.out.bits
  have HB8 := Lib.hid hb8; have HK8 := Lib.hid hk8
  have hsz : (secC (secR r n)).length = 64 := by rw [secC_length, hso.1]
  have HI := Lib.hid (sec_info (secR r n) hso.1)
  have HS64 := Lib.hid hso.1
  have HSZ : Hid ((secR r n).length = (secC (secR r n)).toArray.size) := Lib.hid (by simp [secC])
  have HFIN : Hid (Below w.heap.size w x8) := Lib.hid (by
    have hall := (HKP.out.trans (KeepL.of_below HQ7.out)).trans hk8
    exact HBL.out.trans (hall.below HBL.out.size (fun k hk => by simp only [List.mem_singleton] at hk; have := HBD.out; omega)))
  clear hx8 hb8 hk8 hfin hso
  go_wp2_with (refine wpList_load_row rfl _ _ rfl b rfl _ (secC (secR r n)).toArray _ _ HB8.out Tryz.underlying101 rfl HI.out ?_)
  rw [store_old HB8.out (secR r n) HSZ.out]
  go_wp2_with fail
  refine bodyPost_ret (a := Act.mk _ _) (v := secV (secR r n)) (results_cell_row rfl _ _ b _ _ _ _ rfl (HB8.out.put _) Tryz.underlying101 rfl HI.out) rfl ?_
  exact ⟨rfl, HFIN.out.trans ((keepL_put _ _ _).below HFIN.out.size (fun k hk => by simp only [List.mem_singleton] at hk; have := HBD.out; omega))⟩
end Go.Proofs.YtdgmjedkhjeadaaGreat
