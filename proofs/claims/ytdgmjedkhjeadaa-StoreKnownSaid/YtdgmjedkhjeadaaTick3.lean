/- The contracts of tick and put. Conditions: as each statement says. -/
import Derived.Test.YtdgmjedkhjeadaaTick2
import Derived.Deep.RegionHeld3
import Derived.Deep.DeepCutAuto
import Derived.Test.YtdgmjedkhjeadaaPay8
import Derived.Test.YtdgmjedkhjeadaaKeepL
namespace Go.Proofs.Ytdgmjedkhjeadaa
open Go.RowKit
set_option linter.unusedVariables false
def AgeOK (d : Dk) : Prop := 0 ≤ d.age ∧ d.age < 4611686018427387904
section
variable {w : World} {D : Nat} {d : Dk} {bs bm cp : Nat} {p : Option Addr}
theorem tick_any (h : DkAt w D d bs bm cp p) (ha : AgeOK d) : Calls Try.prog 46 #[.pointer (some ⟨D, 0, none⟩)] w (TickP D bs bm cp p d w) := by
  cases hp : d.plan with
  | none => exact tick_none h hp
  | some q =>
    obtain ⟨a, k⟩ := q
    cases a with
    | zero => exact tick_crash h k hp ha
    | succ a => exact tick_some h a k hp
/-- The cache holds a sector more. -/
theorem DkAt.cached (h : DkAt w D d bs bm cp p) {i : Nat} (hi : i < d.dur.length) {s : Sec} (hs : SecOK s) :
    ∃ w', (Instr.mapUpdate 49 (.map (some bm)) (.int .i64 (i : Int)) (.agg (secC s).toArray)).run Try.prog w = .ok () w' ∧ DkMut w w' D bs bm cp p { d with cch := d.cch.set i (some s) } := by
  obtain ⟨l, hm⟩ := h.cch
  have hl := h.keyLen hm
  have hn := h.ok.n256
  obtain ⟨w', hrun, hm', hg⟩ := hm.store Try.underlying49 (x := (i : Int)) (show intK.ok _ from ⟨by omega, by omega⟩) (.agg (secC s).toArray) (by omega)
  have hk : KeepL [bm] w w' := KeepL.grown hg (fun q e _ => by injection e with e; simp [e])
  obtain ⟨sp, hsp⟩ := h.dur
  have hD : D ∉ [bm] := by simp only [List.mem_singleton]; exact h.blk.nemap hm
  refine ⟨w', hrun, ⟨p, ⟨⟨h.ok.n2, h.ok.n256, by simpa using h.ok.len, h.ok.dur, fun x hx => ?_, h.ok.keep⟩, h.blk.keepL hk hD, ⟨sp, hsp.keepL hk (by simp only [List.mem_singleton]; exact hsp.nemap hm)⟩, ⟨_, hm'.same fun x hx => ?_⟩, h.plan.keepL hk (fun a ha => ?_) (fun g C hg => by simp only [List.mem_singleton]; exact hg.nemap hm)⟩, .refl _ _⟩, hk.sub (by simp [fpL])⟩
  · rcases List.mem_or_eq_of_mem_set hx with hx | hx
    · exact h.ok.cch _ hx
    · cases hx; exact hs
  · unfold cchF
    dsimp only
    by_cases hx2 : x = (i : Int)
    · subst hx2
      rw [if_pos rfl, if_pos (by omega), Int.toNat_natCast, List.getD_eq_getElem?_getD, List.getElem?_set_self (by rw [h.ok.len]; exact hi)]
      rfl
    · rw [if_neg hx2]
      by_cases hr : 0 ≤ x ∧ x < d.dur.length
      · rw [if_pos hr, if_pos hr, List.getD_eq_getElem?_getD, List.getD_eq_getElem?_getD, List.getElem?_set_ne (by omega)]
      · rw [if_neg hr, if_neg hr]
  · obtain ⟨cs, hc⟩ := h.plan.bt a ha
    simp only [List.mem_singleton]
    exact hc.nemap hm
theorem run_load_sec {o : Oper} {ev : Operand → Value} {w : World} (x : Operand) (ho : o.op = .load 86 x) (b off : Nat) (hx : ev x = .pointer (some ⟨b, off, none⟩)) (s : Sec) (hr : w.rangeAt b off (secC s)) (hs : s.length = 64) :
    (execOp ev o).run Try.prog w = .ok (.value (.agg (secC s).toArray)) w := by
  have hi : (Try.prog.info? 86).map (·.size) = some (secC s).length := by have := sec_info s hs; simpa using this
  unfold execOp
  simp only [ho, hx, Instr.loadAt, Instr.sureAddr, Sem.run_bind, Sem.run_pure, Result.andThen_ok, run_loadVar_mid w b off 86 (secC s) _ hr Try.underlying86 rfl hi]
theorem DkAt.fpLt (h : DkAt w D d bs bm cp p) : ∀ k ∈ fpL D bs bm p, k < w.heap.size := by
  obtain ⟨sp, hsp⟩ := h.dur
  obtain ⟨l, hl⟩ := h.cch
  intro k hk
  unfold fpL at hk
  simp only [List.mem_cons] at hk
  rcases hk with rfl | rfl | rfl | hk
  · exact h.blk.lt
  · exact hsp.lt
  · exact hl.lt
  · cases p with
    | none => simp at hk
    | some a =>
      simp only [List.mem_singleton] at hk
      subst hk
      obtain ⟨cs, hc⟩ := h.plan.bt a rfl
      exact hc.lt
def PutP (D bs bm cp : Nat) (p : Option Addr) (d : Dk) (i : Nat) (s : Sec) (w : World) (e : Ending) (w' : World) : Prop := e = .returned (.int .i64 (if (d.put i s).1 = true then 13 else 0)) ∧ DkMut w w' D bs bm cp p (d.put i s).2
set_option maxRecDepth 100000 in
set_option maxHeartbeats 1000000 in
theorem put_any (h : DkAt w D d bs bm cp p) (ha : AgeOK d) {i : Nat} (hi : i < d.dur.length) {s : Sec} (hs : SecOK s) : Calls Try.prog 44 #[.pointer (some ⟨D, 0, none⟩), .int .i64 (i : Int), .agg (secC s).toArray] w (PutP D bs bm cp p d i s w) := by
  have H := Lib.hid h; have HI := Lib.hid hi; have HS := Lib.hid hs; have HAG := Lib.hid ha
  have hsz : (secC s).length = 64 := by rw [secC_length, hs.1]
  clear h hi hs ha
  go_enter Try.func44, Try.ntmps44
  go_upto_region 1 with fail
  obtain ⟨w1, hw1⟩ : ∃ z, z = (w.alloc (.cells (secC s).toArray 86)) := ⟨_, rfl⟩
  have HB1 : Hid (Bk w1 w.heap.size (secC s).toArray 86 ∧ Below w.heap.size w w1) := Lib.hid ⟨by rw [hw1]; exact Bk.new _ _ _, by rw [hw1]; exact balloc _ _⟩
  rw [← hw1]
  clear hw1
  have hq : Below w1.heap.size w1 w1.drew := Qw.below ⟨1, rfl⟩ _
  have H2 := Lib.hid ((H.out.far HB1.out.2).far hq)
  have HF1 : Hid (w1.drew.cell? ⟨D, 1, none⟩ = some (.map (some bm)) ∧ w1.drew.rangeAt w.heap.size 0 (secC s)) := Lib.hid ⟨H2.out.c1, (HB1.out.1.past hq HB1.out.1.lt).range⟩
  have HQ := Lib.hid hq
  clear hq
  obtain ⟨w2, hrun, hmut⟩ := H2.out.cached HI.out HS.out
  obtain ⟨⟨p2, hd2, hp2⟩, hk2⟩ := hmut
  have HD2 := Lib.hid hd2; have HP2 := Lib.hid hp2; have HK2 := Lib.hid hk2
  have HBL := Lib.hid HB1.out.2
  have HF2 : Hid (w2.cell? ⟨D, 1, none⟩ = some (.map (some bm)) ∧ w2.rangeAt w.heap.size 0 (secC s)) := Lib.hid ⟨hd2.c1, (((HB1.out.1.past HQ.out HB1.out.1.lt)).keepL hk2 (fun e => Nat.lt_irrefl _ (H.out.fpLt _ e))).range⟩
  clear hd2 hp2 hk2
  generalize w.heap.size = g0 at HF1 HF2 ⊢
  refine wp_region_held_drew (S := (fun W => W.cell? ⟨D, 1, none⟩ = some (.map (some bm)) ∧ W.rangeAt g0 0 (secC s))) (by kernel_rfl) ?_ (fun hHeld => ?_)
  · (try dsimp only); first | exact HF1.out | exact HF2.out
  refine wpAnyH_take (i := 0) (oi := ⟨some 7, _, _, _, _, _⟩) (v := ?_) rfl (by kernel_rfl) (by kernel_rfl) (by kernel_rfl) (fun _ _ _ h => h) (Or.inl ⟨by rfl, ?_⟩) (by assumption) ?_
  rotate_left
  · (intro w hSw; (try dsimp only at hSw); go_simp; try with_reducible rfl)
  try simp only [Act.put, List.setIfInBounds_toArray, List.set_cons_zero, List.set_cons_succ]
  refine wpAnyH_take (i := 1) (oi := ⟨some 8, _, _, _, _, _⟩) (v := ?_) rfl (by kernel_rfl) (by kernel_rfl) (by kernel_rfl) (fun _ _ _ h => h) (Or.inl ⟨by rfl, ?_⟩) (by assumption) ?_
  rotate_left
  · (intro w hSw; (try dsimp only at hSw); go_simp; try with_reducible rfl)
  try simp only [Act.put, List.setIfInBounds_toArray, List.set_cons_zero, List.set_cons_succ]
  refine wpAnyH_take (i := 2) (oi := ⟨some 9, _, _, _, _, _⟩) (v := ?_) rfl (by kernel_rfl) (by kernel_rfl) (by kernel_rfl) (fun _ _ _ h => h) (Or.inl ⟨by rfl, ?_⟩) (by assumption) ?_
  rotate_left
  · (intro w hSw; (try dsimp only at hSw); go_simp; try with_reducible rfl)
  try simp only [Act.put, List.setIfInBounds_toArray, List.set_cons_zero, List.set_cons_succ]
  refine wpAnyH_take (i := 3) (oi := ⟨some 10, _, _, _, _, _⟩) (v := ?_) rfl (by kernel_rfl) (by kernel_rfl) (by kernel_rfl) (fun _ _ _ h => h) (Or.inl ⟨by rfl, ?_⟩) (by assumption) ?_
  rotate_left
  · (intro w hSw; (try dsimp only at hSw); go_simp; try with_reducible rfl)
  try simp only [Act.put, List.setIfInBounds_toArray, List.set_cons_zero, List.set_cons_succ]
  refine wpAnyH_take (i := 4) (oi := ⟨some 11, _, _, _, _, _⟩) (v := ?_) rfl (by kernel_rfl) (by kernel_rfl) (by kernel_rfl) (fun _ _ _ h => h) (Or.inl ⟨by rfl, ?_⟩) (by assumption) ?_
  rotate_left
  · (intro w hSw; (try dsimp only at hSw); go_simp; try with_reducible rfl)
  try simp only [Act.put, List.setIfInBounds_toArray, List.set_cons_zero, List.set_cons_succ]
  refine wpAnyH_take (i := 5) (oi := ⟨some 12, _, _, _, _, _⟩) (v := .agg (secC s).toArray) rfl (by kernel_rfl) (by kernel_rfl) (by kernel_rfl) (fun _ _ _ h => h) (Or.inl ⟨by rfl, ?_⟩) (by assumption) ?_
  · (intro w hSw; (try dsimp only at hSw); exact run_load_sec _ rfl g0 0 rfl s hSw.2 HS.out.1)
  try simp only [Act.put, List.setIfInBounds_toArray, List.set_cons_zero, List.set_cons_succ]
  refine wpAnyH_ready (rs := [6]) (by kernel_rfl) (by simp) ?_
  refine AllReadyH.cons (o := ⟨none, _, _, _, _, _⟩) rfl (fun K hK => ?_) AllReadyH.nil
  go_simp
  refine hK.out _ _ ?_ (fun hHeld => ?_)
  · (try dsimp only); first | exact HF1.out | exact HF2.out
  clear hK K
  try simp only [Act.put]
  refine wpAnyH_done (by kernel_rfl) ?_ _
  clear HF1 HF2 hrun
  obtain ⟨d2, hd2⟩ : ∃ d2 : Dk, d2 = { d with cch := d.cch.set i (some s) } := ⟨_, rfl⟩
  have HPE : Hid (d.put i s = d2.tick) := Lib.hid (by rw [hd2]; rfl)
  have HA2 : Hid (AgeOK d2) := Lib.hid (by rw [hd2]; exact HAG.out)
  have HD3 : Hid (DkAt w2 D d2 bs bm cp p2) := Lib.hid (by rw [hd2]; exact HD2.out)
  clear hd2 HD2
  go_wp2_with fail
  refine (tick_any HD3.out HA2.out).mono ?_
  rintro e w3 ⟨rfl, hm3⟩
  have HM3 := Lib.hid hm3
  clear hm3
  have HFIN : Hid (DkMut w w3 D bs bm cp p d2.tick.2) := Lib.hid (by
    have hb := bnextK HBL.out HQ.out
    exact DkMut.trans ((NewP.refl w p).trans HP2.out hb.size) ((KeepL.of_below hb).trans HK2.out) HM3.out)
  obtain ⟨z, hz⟩ : ∃ z, z = d2.tick.1 := ⟨_, rfl⟩
  rw [← hz]
  have HZ := Lib.hid hz
  clear hz
  cases z with
  | true =>
    go_wp2_with fail
    go_ret
    unfold PutP
    rw [HPE.out, ← HZ.out]
    exact ⟨rfl, HFIN.out⟩
  | false =>
    go_wp2_with fail
    go_ret
    unfold PutP
    rw [HPE.out, ← HZ.out]
    exact ⟨rfl, HFIN.out⟩
end
#print axioms put_any
end Go.Proofs.Ytdgmjedkhjeadaa
/- The contract of record.sector. Conditions: as the statement says. -/
namespace Go.Proofs.Ytdgmjedkhjeadaa
open Go.RowKit
set_option linter.unusedVariables false
theorem set_splice {α : Type} (L : List α) (o : Nat) (x : α) (h : o < L.length) : L.set o x = splice L o [x] := by
  unfold splice
  rw [List.set_eq_take_append_cons_drop, if_pos h]
  rfl
set_option maxRecDepth 100000 in
set_option maxHeartbeats 1000000 in
theorem sector_any (r : Rc) (A : Option Addr) (c2 B n : Nat) (w : World) (ho : RcOK r) (hn : n < 4611686018427387904) (hB : B ≤ w.heap.size) (hr : Rd w B 1 A r.bits.length (secC r.bits)) :
    Calls Try.prog 45 #[recV r A c2, .int .i64 (n : Int)] w (RetV (secV (secR r n)) w) := by
  obtain ⟨w0, hw0⟩ : ∃ z, z = w.alloc (.cells (recC r A c2) 60) := ⟨_, rfl⟩
  obtain ⟨w1, hw1⟩ : ∃ z, z = w0.alloc (.cells (secC zeroSec).toArray 86) := ⟨_, rfl⟩
  have hs0 : w0.heap.size = w.heap.size + 1 := by rw [hw0, World.size_alloc]
  have hb0 : Below w.heap.size w w0 := by rw [hw0]; exact balloc _ _
  have hb1 : Below w0.heap.size w0 w1 := by rw [hw1]; exact balloc _ _
  have hg0 : Bk w0 w.heap.size (recC r A c2) 60 := by rw [hw0]; exact Bk.new _ _ _
  have hg := hg0.past hb1 hg0.lt
  have hbk : Bk w1 (w.heap.size + 1) (secC zeroSec).toArray 86 := by rw [← hs0, hw1]; exact Bk.new _ _ _
  have HW1 := Lib.hid (And.intro hw0 hw1)
  have HBL := Lib.hid (bnextK hb0 hb1)
  obtain ⟨g, hgd⟩ : ∃ g, g = w.heap.size := ⟨_, rfl⟩
  obtain ⟨b, hbd⟩ : ∃ b, b = w.heap.size + 1 := ⟨_, rfl⟩
  have HGD := Lib.hid hgd; have HBD := Lib.hid hbd
  rw [← hbd] at hbk
  rw [← hgd] at hg
  have HB := Lib.hid hbk; have HG := Lib.hid hg; have HO := Lib.hid ho
  have hgb : g ∉ [b] := by simp only [List.mem_singleton]; omega
  have HR : Hid (∀ W, KeepL [b] w1 W → W.cell? ⟨g, 0, none⟩ = some (.int .i64 (r.epoch : Int)) ∧ W.cell? ⟨g, 1, none⟩ = some (.int .i64 (r.kind : Int)) ∧ W.cell? ⟨g, 2, none⟩ = some (.int .i64 (r.id : Int)) ∧ W.cell? ⟨g, 3, none⟩ = some (.int .i64 (r.a : Int)) ∧ W.cell? ⟨g, 4, none⟩ = some (.int .i64 (r.b : Int)) ∧ W.cell? ⟨g, 5, none⟩ = some (.slice A r.bits.length c2)) := Lib.hid fun W hW => by
    have h := HG.out.keepL hW hgb
    exact ⟨by rw [h.cell]; rfl, by rw [h.cell]; rfl, by rw [h.cell]; rfl, by rw [h.cell]; rfl, by rw [h.cell]; rfl, by rw [h.cell]; rfl⟩
  have HRD : Hid (∀ W, KeepL [b] w1 W → Rd W B 1 A r.bits.length (secC r.bits)) := Lib.hid fun W hW => (hr.below (HBL.out.mono hB)).below (hW.below (Nat.le_trans hB HBL.out.size) (fun k hk => by simp only [List.mem_singleton] at hk; omega))
  have HBB : Hid (B ≤ b) := Lib.hid (by omega)
  have hz64 : (secC zeroSec).length = 64 := by simp [secC, zeroSec]
  have HZ := Lib.hid hz64
  obtain ⟨a0, a1, a2, a3, a4, a5⟩ := HR.out w1 (KeepL.refl _ _)
  clear hw0 hw1 hs0 hb0 hb1 hg0 hg hbk ho hr hgb hz64
  unfold recV
  go_enter Try.func45, Try.ntmps45
  go_upto_region 1 with fail
  obtain ⟨hw0, hw1⟩ := HW1.out
  unfold recC at hw0
  rw [lit64u, ← hw0, ← hw1, ← hbd, ← hgd]
  clear hw0 hw1 hgd hbd
  refine wp_region_quiet_tail 3 (by kernel_rfl) (by kernel_rfl) ?_
  simp only [List.take_succ_cons, List.take_zero, List.drop_succ_cons, List.drop_zero]
  repeat (quiet_step (fail))
  refine wpQuiet_nil ?_
  intro _ hw'
  obtain ⟨nr, hw''⟩ := hw'
  subst hw''
  have HQ1 := Lib.hid (Qw.below (⟨nr, rfl⟩ : Qw w1 (w1.drewN nr)) w1.heap.size)
  generalize w1.drewN nr = v1 at HQ1 ⊢
  go_wp2_with fail
  refine (putB_any b 0 4 64 r.epoch (secC zeroSec) 86 v1 (HB.out.past HQ1.out HB.out.lt) (by rw [HZ.out]; omega) (by omega) (by omega) HO.out.epoch).mono ?_
  rintro e x1 ⟨rfl, hb, hk⟩
  replace HB := Lib.hid hb
  have HKP := Lib.hid ((KeepL.of_below HQ1.out).trans hk)
  clear hb hk a0 a1 a2 a3 a4 a5
  go_wp2_with fail
  refine (putB_any b 4 4 60 n (splice (secC zeroSec) 0 (secC (beB 4 r.epoch))) 86 x1 HB.out (by rw [length_splice _ _ _ (by rw [HZ.out, secC_length, beB_length]; omega), HZ.out]; omega) (by omega) (by omega) hn).mono ?_
  rintro e x2 ⟨rfl, hb, hk⟩
  have ej := splice_join (secC zeroSec) 0 (secC (beB 4 r.epoch)) (secC (beB 4 n)) (by rw [HZ.out, secC_length, secC_length, beB_length, beB_length]; omega)
  rw [secC_length, beB_length, ← secC_append] at ej
  rw [ej] at hb
  replace HB := Lib.hid hb
  replace HKP := Lib.hid (HKP.out.trans hk)
  obtain ⟨a0, a1, a2, a3, a4, a5⟩ := HR.out x2 HKP.out
  have HL2 : Hid ((splice (secC zeroSec) 0 (secC (beB 4 r.epoch ++ beB 4 n))).length = 64) := Lib.hid (by rw [length_splice _ _ _ (by rw [HZ.out, secC_length]; simp [beB_length]), HZ.out])
  obtain ⟨u8, hu8⟩ : ∃ u, x2.cell? ⟨b, 8, none⟩ = some u := by
    rw [hb.cell, List.getElem?_toArray]; exact ⟨_, List.getElem?_eq_getElem (by rw [HL2.out]; omega)⟩
  have f8 := hb.froz 8
  have hwk : IntKind.u8.wrap (r.kind : Int) = ((r.kind % 256 : Nat) : Int) := by simp [IntKind.wrap, IntKind.bits, IntKind.signed]
  clear hb hk ej
  go_upto_region 4 with fail
  obtain ⟨x3, hx3⟩ : ∃ z, z = x2.setCell ⟨b, 8, none⟩ (.int .u8 ((r.kind : Int) % 256)) := ⟨_, rfl⟩
  have hk3 : KeepL [b] x2 x3 := by rw [hx3]; exact KeepL.set _ _ _ _
  have hb3 : Bk x3 b (splice (splice (secC zeroSec) 0 (secC (beB 4 r.epoch ++ beB 4 n))) 8 [.int .u8 ((r.kind % 256 : Nat) : Int)]).toArray 86 := by
    have h1 := HB.out.set 8 (.int .u8 ((r.kind : Int) % 256))
    rw [List.setIfInBounds_toArray, set_splice _ _ _ (by rw [HL2.out]; omega)] at h1
    rw [hx3]
    rw [show ((r.kind % 256 : Nat) : Int) = (r.kind : Int) % 256 by omega]
    exact h1
  rw [← hx3]
  replace HB := Lib.hid hb3
  replace HKP := Lib.hid (HKP.out.trans hk3)
  have HL3 : Hid ((splice (splice (secC zeroSec) 0 (secC (beB 4 r.epoch ++ beB 4 n))) 8 [.int .u8 ((r.kind % 256 : Nat) : Int)]).length = 64) := Lib.hid (by rw [length_splice _ _ _ (by rw [HL2.out]; simp), HL2.out])
  clear hx3 hk3 hb3 a0 a1 a2 a3 a4 a5 hu8 f8 hwk
  obtain ⟨a0, a1, a2, a3, a4, a5⟩ := HR.out x3 HKP.out
  refine wp_region_quiet_tail 2 (by kernel_rfl) (by kernel_rfl) ?_
  simp only [List.take_succ_cons, List.take_zero, List.drop_succ_cons, List.drop_zero]
  repeat (quiet_step (fail))
  refine wpQuiet_nil ?_
  intro _ hw'
  obtain ⟨nr, hw''⟩ := hw'
  subst hw''
  have HQ4 := Lib.hid (Qw.below (⟨nr, rfl⟩ : Qw x3 (x3.drewN nr)) x3.heap.size)
  generalize x3.drewN nr = v4 at HQ4 ⊢
  clear a0 a1 a2 a3 a4 a5
  go_wp2_with fail
  have HKQ := Lib.hid (HKP.out.trans (KeepL.of_below HQ4.out))
  refine (payload_any b 10 54 r A c2 B _ 86 v4 HO.out (HB.out.past HQ4.out HB.out.lt) (by rw [HL3.out]; omega) (by omega) (by omega) HBB.out (HRD.out v4 HKQ.out)).mono ?_
  rintro e x5 ⟨rfl, hb, hk⟩
  replace HB := Lib.hid hb
  replace HKP := Lib.hid (HKQ.out.trans hk)
  have hpl := payR_length r
  have HL5 : Hid ((splice (splice (splice (secC zeroSec) 0 (secC (beB 4 r.epoch ++ beB 4 n))) 8 [.int .u8 ((r.kind % 256 : Nat) : Int)]) 10 (secC (payR r))).length = 64) := Lib.hid (by rw [length_splice _ _ _ (by rw [HL3.out, secC_length]; omega), HL3.out])
  obtain ⟨u9, hu9⟩ : ∃ u, x5.cell? ⟨b, 9, none⟩ = some u := by
    rw [hb.cell, List.getElem?_toArray]; exact ⟨_, List.getElem?_eq_getElem (by rw [HL5.out]; omega)⟩
  have f9 := hb.froz 9
  have hwl : IntKind.u8.wrap ((payR r).length : Int) = ((payR r).length : Int) := by simp [IntKind.wrap, IntKind.bits, IntKind.signed]; omega
  clear hb hk HKQ
  go_upto_region 5 with fail
  obtain ⟨x6, hx6⟩ : ∃ z, z = x5.setCell ⟨b, 9, none⟩ (.int .u8 ((payR r).length : Int)) := ⟨_, rfl⟩
  have hk6 : KeepL [b] x5 x6 := by rw [hx6]; exact KeepL.set _ _ _ _
  have hb6 : Bk x6 b (splice (splice (splice (splice (secC zeroSec) 0 (secC (beB 4 r.epoch ++ beB 4 n))) 8 [.int .u8 ((r.kind % 256 : Nat) : Int)]) 10 (secC (payR r))) 9 [.int .u8 (((payR r).length : Nat) : Int)]).toArray 86 := by
    have h1 := HB.out.set 9 (.int .u8 ((payR r).length : Int))
    rw [List.setIfInBounds_toArray, set_splice _ _ _ (by rw [HL5.out]; omega)] at h1
    rw [hx6]
    exact h1
  rw [← hx6]
  replace HB := Lib.hid hb6
  replace HKP := Lib.hid (HKP.out.trans hk6)
  have HX8 : Hid ((secC (beB 4 r.epoch ++ beB 4 n)).length = 8) := Lib.hid (by rw [secC_length]; simp [beB_length])
  have HL6 : Hid ((splice (splice (splice (splice (secC zeroSec) 0 (secC (beB 4 r.epoch ++ beB 4 n))) 8 [.int .u8 ((r.kind % 256 : Nat) : Int)]) 10 (secC (payR r))) 9 [.int .u8 (((payR r).length : Nat) : Int)]).length = 64) := Lib.hid (by rw [length_splice _ _ _ (by rw [HL5.out]; simp), HL5.out])
  have HEAD : Hid (∀ j v, (secC (beB 4 r.epoch ++ beB 4 n))[j]? = some v → (splice (splice (splice (splice (secC zeroSec) 0 (secC (beB 4 r.epoch ++ beB 4 n))) 8 [.int .u8 ((r.kind % 256 : Nat) : Int)]) 10 (secC (payR r))) 9 [.int .u8 (((payR r).length : Nat) : Int)])[j]? = some v) := Lib.hid fun j v hv => by
    have hj : j < 8 := by have := (List.getElem?_eq_some_iff.1 hv).1; rw [HX8.out] at this; exact this
    rw [splice_get _ _ _ (by rw [HL5.out]; simp), if_pos (by omega), splice_get _ _ _ (by rw [HL3.out, secC_length]; omega), if_pos (by omega), splice_get _ _ _ (by rw [HL2.out]; simp), if_pos (by omega), splice_get _ _ _ (by rw [HZ.out, HX8.out]; omega), if_neg (by omega), if_pos (by rw [HX8.out]; omega), Nat.sub_zero]
    exact hv
  clear hx6 hk6 hb6 hu9 f9 hwl
  refine wp_region_quiet_tail 2 (by kernel_rfl) (by kernel_rfl) ?_
  simp only [List.take_succ_cons, List.take_zero, List.drop_succ_cons, List.drop_zero]
  repeat (quiet_step (fail))
  refine wpQuiet_nil ?_
  intro _ hw'
  obtain ⟨nr, hw''⟩ := hw'
  subst hw''
  have HQ7 := Lib.hid (Qw.below (⟨nr, rfl⟩ : Qw x6 (x6.drewN nr)) x6.heap.size)
  generalize x6.drewN nr = v7 at HQ7 ⊢
  have hcp := run_copy_row (P := Try.prog) v7 58 58 3 5 b 56 8 8 ⟨b, 0, none⟩ 8 64 _ 86 (secC (beB 4 r.epoch ++ beB 4 n)) Try.underlying58 (by kernel_rfl) (HB.out.past HQ7.out HB.out.lt) (by rw [HX8.out]; rfl) (fun j v hv => by rw [Addr.add_mid, Nat.zero_add, (HB.out.past HQ7.out HB.out.lt).cell, List.getElem?_toArray]; exact HEAD.out j v hv) (by rw [List.size_toArray, HL6.out, HX8.out]; omega) (fun v hv => secC_one _ v hv)
  obtain ⟨x8, hx8⟩ : ∃ z, z = v7.setRow b (secC (secR r n)).toArray := ⟨_, rfl⟩
  have hb8 : Bk x8 b (secC (secR r n)).toArray 86 := by rw [hx8]; exact (HB.out.past HQ7.out HB.out.lt).put _
  have hk8 : KeepL [b] v7 x8 := by rw [hx8]; exact keepL_put _ _ _
  have hfin := secR_cells r n
  unfold splice at hfin
  rw [show (((splice (splice (splice (splice (secC zeroSec) 0 (secC (beB 4 r.epoch ++ beB 4 n))) 8 [.int .u8 ((r.kind % 256 : Nat) : Int)]) 10 (secC (payR r))) 9 [.int .u8 (((payR r).length : Nat) : Int)]).toArray.toList.take 56 ++ secC (beB 4 r.epoch ++ beB 4 n) ++ (splice (splice (splice (splice (secC zeroSec) 0 (secC (beB 4 r.epoch ++ beB 4 n))) 8 [.int .u8 ((r.kind % 256 : Nat) : Int)]) 10 (secC (payR r))) 9 [.int .u8 (((payR r).length : Nat) : Int)]).toArray.toList.drop (56 + (secC (beB 4 r.epoch ++ beB 4 n)).length))).toArray = (secC (secR r n)).toArray by rw [List.append_assoc, ← secR_cells r n]; rfl, ← hx8] at hcp
  have hso := secR_ok r n HO.out.bits
  have HB8 := Lib.hid hb8; have HK8 := Lib.hid hk8
  have hsz : (secC (secR r n)).length = 64 := by rw [secC_length, hso.1]
  have HI := Lib.hid (sec_info (secR r n) hso.1)
  have HS64 := Lib.hid hso.1
  have HSZ : Hid ((secR r n).length = (secC (secR r n)).toArray.size) := Lib.hid (by simp [secC])
  have HFIN : Hid (Below w.heap.size w x8) := Lib.hid (by
    have hall := (HKP.out.trans (KeepL.of_below HQ7.out)).trans hk8
    exact HBL.out.trans (hall.below HBL.out.size (fun k hk => by simp only [List.mem_singleton] at hk; have := HBD.out; omega)))
  clear hx8 hb8 hk8 hfin hso
  go_wp2_with (refine wpList_load_row rfl _ _ rfl b rfl _ (secC (secR r n)).toArray _ _ HB8.out Try.underlying86 rfl HI.out ?_)
  rw [store_old HB8.out (secR r n) HSZ.out]
  go_wp2_with fail
  refine bodyPost_ret (a := Act.mk _ _) (v := secV (secR r n)) (results_cell_row rfl _ _ b _ _ _ _ rfl (HB8.out.put _) Try.underlying86 rfl HI.out) rfl ?_
  exact ⟨rfl, HFIN.out.trans ((keepL_put _ _ _).below HFIN.out.size (fun k hk => by simp only [List.mem_singleton] at hk; have := HBD.out; omega))⟩
#print axioms sector_any
end Go.Proofs.Ytdgmjedkhjeadaa
/- The contract of Write. Conditions: as each statement says. -/
namespace Go.Proofs.Ytdgmjedkhjeadaa
open Go.RowKit
set_option linter.unusedVariables false
def Dk.write (d : Dk) (i : Int) (l : List Nat) : Int × Dk :=
  if d.down = true then (13, d) else if hasB i d.dur.length = true then (if l.length = 64 then (let r := Dk.put { d with age := d.age + 1 } i.toNat l; (if r.1 = true then 13 else 0, r.2)) else (6, d)) else (3, d)
/-- A call that answers a number, and changes the disk. -/
def DkR (D bs bm cp : Nat) (p : Option Addr) (r : Int × Dk) (w : World) (e : Ending) (w' : World) : Prop := e = .returned (.int .i64 r.1) ∧ DkMut w w' D bs bm cp p r.2
theorem DkMut.refl {w : World} {D : Nat} {d : Dk} {bs bm cp : Nat} {p : Option Addr} (h : DkAt w D d bs bm cp p) : DkMut w w D bs bm cp p d := ⟨⟨_, h, .refl _ _⟩, KeepL.refl _ _⟩
section
variable {w : World} {D : Nat} {d : Dk} {bs bm cp : Nat} {p : Option Addr}
end
end Go.Proofs.Ytdgmjedkhjeadaa
/- The contract of Sync. Conditions: as each statement says. -/
namespace Go.Proofs.Ytdgmjedkhjeadaa
open Go.RowKit
set_option linter.unusedVariables false
def Dk.syncR (d : Dk) : Int × Dk := if d.down = true then (13, d) else (if d.sync.1 = true then 13 else 0, d.sync.2)
theorem store_mid {w : World} {bs : Nat} {ds : List Sec} {sp : List Value} {t : TypeId} (h : Bk w bs (durC ds ++ sp).toArray t) (ho : ∀ s ∈ ds, SecOK s) {i : Nat} (hi : i < ds.length) {s : Sec} (hs : SecOK s) :
    (storeCells ⟨bs, i * 64, none⟩ (secC s)).run Try.prog w = .ok () (w.setRow bs (durC (ds.set i s) ++ sp).toArray) := by
  have hl : (secC s).length = 64 := by rw [secC_length, hs.1]
  have e1 := durC_length ds ho
  have := run_storeCells_at (P := Try.prog) bs (i * 64) t (secC s) 0 (durC ds ++ sp).toArray w h (by simp only [List.size_toArray, List.length_append, e1, hl]; omega) (secC_one s)
  rw [this]
  have e2 := durC_splice ho hi sp s 64 (Nat.le_refl _) hs.1
  have hd : SecOK (ds.getD i []) := ho _ (by rw [List.getD_eq_getElem?_getD, List.getElem?_eq_getElem hi]; exact List.getElem_mem hi)
  rw [List.take_of_length_le (by rw [hl]; omega), List.take_of_length_le (by rw [hs.1]; omega), List.drop_eq_nil_of_le (by rw [hd.1]; omega), List.append_nil] at e2
  rw [← e2, splice, Nat.add_zero, List.append_assoc]
/-- What is durable while the fresh sectors are made durable: those in 'rest' are still to come. -/
def synL (d : Dk) (rest : List Int) (i : Nat) : Sec := if (i : Int) ∈ rest then d.dur.getD i [] else (d.cch.getD i none).getD (d.dur.getD i [])
structure SyS (w0 : World) (D bs bm cp r : Nat) (p : Option Addr) (d : Dk) (l rest : List Int) (ds : List Sec) (w : World) : Prop where
  blk : Bk w D #[.slice (some ⟨bs, 0, none⟩) d.dur.length cp, .map (some bm), .pointer p, .bool d.down, .int .i64 d.age] 52
  dur : ∃ sp, Bk w bs (durC ds ++ sp).toArray 86
  rng : RngI w bm r l rest (cchF d)
  plan : PlanAt w p d.plan
  keep : KeepL (fpL D bs bm p) w0 w
  len : ds.length = d.dur.length
  ok : ∀ s ∈ ds, SecOK s
  eq : ∀ i, i < d.dur.length → ds.getD i [] = synL d rest i
theorem syncS_get (d : Dk) (h : DkOK d) (i : Nat) (hi : i < d.dur.length) : (syncS d.dur d.cch).getD i [] = synL d [] i := by
  unfold synL syncS
  rw [if_neg (by simp), List.getD_eq_getElem?_getD, List.getElem?_zipWith, List.getD_eq_getElem?_getD, List.getD_eq_getElem?_getD, List.getElem?_eq_getElem hi, List.getElem?_eq_getElem (by rw [h.len]; exact hi)]
  rfl
theorem SyS.done {w0 : World} {D bs bm cp r : Nat} {p : Option Addr} {d : Dk} {l : List Int} {ds : List Sec} {w : World} (h : SyS w0 D bs bm cp r p d l [] ds w) (ho : DkOK d) : ds = syncS d.dur d.cch := by
  have hl := syncS_length d.dur d.cch ho.len
  refine List.ext_getElem (by rw [h.len, hl]) fun i h1 h2 => ?_
  have e := (h.eq i (by rw [h.len] at h1; exact h1)).trans (syncS_get d ho i (by rw [h.len] at h1; exact h1)).symm
  rw [List.getD_eq_getElem?_getD, List.getD_eq_getElem?_getD, List.getElem?_eq_getElem h1, List.getElem?_eq_getElem h2] at e
  exact e
section
variable {w : World} {D : Nat} {d : Dk} {bs bm cp : Nat} {p : Option Addr}
set_option maxRecDepth 100000 in
set_option maxHeartbeats 1000000 in
theorem sync_any (h : DkAt w D d bs bm cp p) (ha : AgeOK d) : Calls Try.prog 26 #[.pointer (some ⟨D, 0, none⟩)] w (DkR D bs bm cp p d.syncR w) := by
  have HV := Lib.hid (dvalid_any h)
  have c3 := h.c3
  have H := Lib.hid h
  cases hd : d.down with
  | true =>
    have HE : Hid (d.syncR = (13, d)) := Lib.hid (by unfold Dk.syncR; rw [if_pos hd])
    rw [hd] at c3
    clear h
    go_enter Try.func26, Try.ntmps26
    go_wp2_with fail
    refine HV.out.mono ?_
    rintro e w' ⟨rfl, rfl⟩
    go_wp2_with fail
    go_ret
    unfold DkR
    rw [HE.out]
    exact ⟨rfl, .refl H.out⟩
  | false =>
    have HT := Lib.hid (tick_any h ha)
    have HE : Hid (d.syncR = (if d.sync.1 = true then 13 else 0, d.sync.2)) := Lib.hid (by unfold Dk.syncR; rw [if_neg (by rw [hd]; simp)])
    rw [hd] at c3
    clear h
    go_enter Try.func26, Try.ntmps26
    go_wp2_with fail
    refine HV.out.mono ?_
    rintro e w' ⟨rfl, rfl⟩
    go_wp2_with fail
    refine HT.out.mono ?_
    rintro e w1 ⟨rfl, hm1⟩
    have HM1 := Lib.hid hm1
    clear hm1 HT c3
    obtain ⟨z, d1, hz⟩ : ∃ z d1, d.tick = (z, d1) := ⟨_, _, rfl⟩
    rw [hz] at HM1 ⊢
    cases z with
    | true =>
      have HS : Hid (d.sync = (true, d1)) := Lib.hid (by unfold Dk.sync; rw [hz])
      clear hz
      go_wp2_with fail
      go_ret
      unfold DkR
      rw [HE.out, HS.out]
      exact ⟨rfl, HM1.out⟩
    | false =>
      have HS : Hid (d.sync = (false, { d1 with dur := syncS d1.dur d1.cch, cch := List.replicate d1.cch.length none })) := Lib.hid (by unfold Dk.sync; rw [hz])
      clear hz
      obtain ⟨⟨p1, hd1, hp1⟩, hk1⟩ := HM1.out
      obtain ⟨l, hm⟩ := hd1.cch
      have HD1 := Lib.hid hd1; have HP1 := Lib.hid hp1; have HK1 := Lib.hid hk1; have HM := Lib.hid hm
      have c1 := hd1.c1
      clear hd1 hp1 hk1 hm HM1
      go_wp2_with (at_range; refine wpList_rangeI _ rfl _ _ _ rfl Try.underlying49 bm l _ rfl HM.out ?_; intro w2 hr2 hg2 hs2)
      try simp only [Act.put, List.setIfInBounds_toArray, List.set_cons_zero, List.set_cons_succ]
      have HC : Hid (SyS w1 D bs bm cp w1.heap.size p1 d1 l l d1.dur w2) := Lib.hid (by
        have hb := bgrown hg2
        have h2 := HD1.out.far hb
        refine ⟨h2.blk, h2.dur, hr2, h2.plan, KeepL.of_below hb, rfl, HD1.out.ok.dur, fun i hi => ?_⟩
        unfold synL
        by_cases hm : (i : Int) ∈ l
        · rw [if_pos hm]
        · rw [if_neg hm]
          cases hc : d1.cch.getD i none with
          | none => rfl
          | some s => exact absurd ((HD1.out.keys HM.out _).2 ⟨i, (frK_mem _ _ _).2 ⟨Nat.zero_le _, by rw [HD1.out.ok.len]; omega, by rw [Nat.sub_zero, hc]; rfl⟩, rfl⟩) hm)
      have HR : Hid (∀ k ∈ fpL D bs bm p1, k < w1.heap.size) := Lib.hid HD1.out.fpLt
      clear hr2 hg2 hs2 c1
      obtain ⟨r, hr⟩ : ∃ r, r = w1.heap.size := ⟨_, rfl⟩
      rw [← hr] at HC HR ⊢
      have HRS := Lib.hid hr
      clear hr
      go_loopw [3, 4] (fun _ _ wr => ∃ rest ds, SyS w1 D bs bm cp r p1 d1 l rest ds wr) (fun _ _ wr => wr.rangeLeft bm r)
      case atStart => exact ⟨l, _, HC.out⟩
      case round =>
        obtain ⟨rest, ds, hc⟩ := hrel
        obtain ⟨wa, rfl⟩ : ∃ z : World, z = wr := ⟨_, rfl⟩
        replace HC := Lib.hid hc
        clear hc
        go_wp2_with (at_next; refine wpList_nextI _ rfl _ rfl bm r l rest _ rfl HC.out.rng ?_ ?_)
        · intro hrest
          subst hrest
          have hds := HC.out.done HD1.out.ok
          obtain ⟨w5, hrun, hm5, hg5⟩ := HC.out.rng.mapL.clear Try.underlying49 0
          have hk5 : KeepL [bm] wa w5 := KeepL.grown hg5 (fun q e _ => by injection e with e; simp [e])
          have d1' := HC.out.blk.cell 1
          simp only [List.getElem?_toArray, List.getElem?_cons_succ, List.getElem?_cons_zero] at d1'
          have HDS := Lib.hid hds; have HM5 := Lib.hid hm5; have HK5 := Lib.hid hk5
          clear hds hm5 hk5 hg5
          go_wp2_with fail
          go_ret
          unfold DkR
          rw [HE.out, HS.out]
          have hlen := syncS_length d1.dur d1.cch HD1.out.ok.len
          have hml := HC.out.rng.mapL
          obtain ⟨sp, hsp⟩ := HC.out.dur
          refine ⟨rfl, DkMut.trans HP1.out HK1.out ⟨⟨p1, ⟨by have := H.out.ok.sync; rw [HS.out] at this; exact this, ?_, ⟨sp, ?_⟩, ⟨[], HM5.out.same fun x hx => ?_⟩, ?_⟩, .refl _ _⟩, HC.out.keep.trans (HK5.out.sub (by simp [fpL]))⟩⟩
          · have := HC.out.blk.keepL HK5.out (by simp only [List.mem_singleton]; exact HC.out.blk.nemap hml)
            dsimp only
            rw [hlen]
            exact this
          · rw [HDS.out] at hsp
            exact hsp.keepL HK5.out (by simp only [List.mem_singleton]; exact hsp.nemap hml)
          · unfold cchF
            dsimp only
            split
            · rw [List.getD_eq_getElem?_getD, List.getElem?_replicate]
              split <;> rfl
            · rfl
          · refine HC.out.plan.keepL HK5.out (fun a ha => ?_) (fun g C hg => by simp only [List.mem_singleton]; exact hg.nemap hml)
            obtain ⟨cs, hc⟩ := HC.out.plan.bt a ha
            simp only [List.mem_singleton]
            exact hc.nemap hml
        · intro x v w3 hx hf hr3 hg3 hs3 hlt3 hen
          obtain ⟨i, s, rfl, hin, hcs, rfl⟩ : ∃ (i : Nat) (s : Sec), x = (i : Int) ∧ i < d1.dur.length ∧ d1.cch.getD i none = some s ∧ v = .agg (secC s).toArray := by
            unfold cchF at hf
            split at hf
            · rename_i hr
              cases hc : d1.cch.getD x.toNat none with
              | none => rw [hc] at hf; cases hf
              | some s =>
                rw [hc] at hf
                exact ⟨x.toNat, s, by omega, by omega, hc, by injection hf with hf; exact hf.symm⟩
            · cases hf
          have hso : SecOK s := HD1.out.ok.cch s (by
            rw [List.getD_eq_getElem?_getD] at hcs
            cases hc : d1.cch[i]? with
            | none => rw [hc] at hcs; cases hcs
            | some u => rw [hc] at hcs; simp only [Option.getD_some] at hcs; subst hcs; exact List.mem_of_getElem? hc)
          have hk3 : KeepL [r] wa w3 := KeepL.grown hg3 (fun q e _ => by injection e with e; simp [e])
          have hne : ∀ k ∈ fpL D bs bm p1, k ∉ [r] := fun k hk => by simp only [List.mem_singleton]; have := HR.out k hk; omega
          obtain ⟨sp, hsp⟩ := HC.out.dur
          have hsp3 := hsp.keepL hk3 (hne bs (by simp [fpL]))
          have hblk3 := HC.out.blk.keepL hk3 (hne D (by simp [fpL]))
          have hsz : (secC s).length = 64 := by rw [secC_length, hso.1]
          have HX := Lib.hid hx; have HR3 := Lib.hid hr3; have HLT3 := Lib.hid hlt3; have HK3 := Lib.hid hk3; have HSP3 := Lib.hid hsp3; have HBLK3 := Lib.hid hblk3; have HCS := Lib.hid hcs; have HSO := Lib.hid hso; have HIN := Lib.hid hin
          have hii : 0 ≤ (i : Int) ∧ (i : Int) < (d1.dur.length : Int) := by omega
          clear hx hf hr3 hg3 hs3 hlt3 hk3 hsp hsp3 hblk3 hcs hso hin hne
          go_wp2_with fail
          rw [store_new _ _ _ HSO.out.1]
          go_upto_region 10 with fail
          obtain ⟨w4, hw4⟩ : ∃ z, z = w3.alloc (.cells (secC s).toArray 86) := ⟨_, rfl⟩
          have HB4 : Hid (Bk w4 w3.heap.size (secC s).toArray 86 ∧ Below w3.heap.size w3 w4) := Lib.hid ⟨by rw [hw4]; exact Bk.new _ _ _, by rw [hw4]; exact balloc _ _⟩
          rw [← hw4]
          clear hw4 hen
          have hb5 : Below w3.heap.size w3 w4.drew := bnextK HB4.out.2 (Qw.below ⟨1, rfl⟩ _)
          have HB5 := Lib.hid hb5
          have HSP5 := Lib.hid (HSP3.out.past hb5 HSP3.out.lt)
          have HF1 : Hid (w4.drew.cell? ⟨D, 0, none⟩ = some (.slice (some ⟨bs, 0, none⟩) d1.dur.length cp) ∧ w4.drew.rangeAt w3.heap.size 0 (secC s)) := Lib.hid
            ⟨by rw [(HBLK3.out.past hb5 HBLK3.out.lt).cell]; rfl, (HB4.out.1.past (Qw.below (⟨1, rfl⟩ : Qw w4 w4.drew) w4.heap.size) HB4.out.1.lt).range⟩
          have hids : i < ds.length := by rw [HC.out.len]; exact HIN.out
          have HMID := Lib.hid (store_mid HSP5.out HC.out.ok hids HSO.out)
          obtain ⟨w6, hw6⟩ : ∃ z, z = w4.drew.setRow bs (durC (ds.set i s) ++ sp).toArray := ⟨_, rfl⟩
          have HK6 : Hid (KeepL [bs] w3 w6) := Lib.hid (by rw [hw6]; exact (KeepL.of_below HB5.out).trans (keepL_put _ _ _))
          have HB6 : Hid (Bk w6 bs (durC (ds.set i s) ++ sp).toArray 86) := Lib.hid (by rw [hw6]; exact HSP5.out.put _)
          have hbsg : w3.heap.size ≠ bs := Nat.ne_of_gt HSP3.out.lt
          have HF2 : Hid (w6.cell? ⟨D, 0, none⟩ = some (.slice (some ⟨bs, 0, none⟩) d1.dur.length cp) ∧ w6.rangeAt w3.heap.size 0 (secC s)) := Lib.hid
            ⟨by rw [(HBLK3.out.keepL HK6.out (by simp only [List.mem_singleton]; exact HBLK3.out.ne HSP3.out (by decide))).cell]; rfl, by
              have h1 := (HB4.out.1.past (Qw.below (⟨1, rfl⟩ : Qw w4 w4.drew) w4.heap.size) HB4.out.1.lt)
              rw [hw6]
              exact (h1.keepL (keepL_put _ _ _) (by simpa using hbsg)).range⟩
          rw [← hw6] at HMID
          clear hb5 hids hw6 hbsg
          have HR0 : Hid (r < w3.heap.size) := Lib.hid HR3.out.lt
          generalize w3.heap.size = g0 at HF1 HF2 ⊢
          refine wp_region_held_drew (S := (fun W => W.cell? ⟨D, 0, none⟩ = some (.slice (some ⟨bs, 0, none⟩) d1.dur.length cp) ∧ W.rangeAt g0 0 (secC s))) (by kernel_rfl) ?_ (fun hHeld => ?_)
          · (try dsimp only); first | exact HF1.out | exact HF2.out
          refine wpAnyH_take (i := 0) (oi := ⟨some 27, _, _, _, _, _⟩) (v := ?_) rfl (by kernel_rfl) (by kernel_rfl) (by kernel_rfl) (fun _ _ _ h => h) (Or.inl ⟨by rfl, ?_⟩) (by assumption) ?_
          rotate_left
          · (intro w hSw; (try dsimp only at hSw); go_simp; try with_reducible rfl)
          try simp only [Act.put, List.setIfInBounds_toArray, List.set_cons_zero, List.set_cons_succ]
          refine wpAnyH_take (i := 1) (oi := ⟨some 28, _, _, _, _, _⟩) (v := ?_) rfl (by kernel_rfl) (by kernel_rfl) (by kernel_rfl) (fun _ _ _ h => h) (Or.inl ⟨by rfl, ?_⟩) (by assumption) ?_
          rotate_left
          · (intro w hSw; (try dsimp only at hSw); go_simp; try with_reducible rfl)
          try simp only [Act.put, List.setIfInBounds_toArray, List.set_cons_zero, List.set_cons_succ]
          refine wpAnyH_take (i := 2) (oi := ⟨some 29, _, _, _, _, _⟩) (v := ?_) rfl (by kernel_rfl) (by kernel_rfl) (by kernel_rfl) (fun _ _ _ h => h) (Or.inl ⟨by rfl, ?_⟩) (by assumption) ?_
          rotate_left
          · (intro w hSw; (try dsimp only at hSw); go_simp; try with_reducible rfl)
          try simp only [Act.put, List.setIfInBounds_toArray, List.set_cons_zero, List.set_cons_succ]
          refine wpAnyH_take (i := 3) (oi := ⟨some 30, _, _, _, _, _⟩) (v := ?_) rfl (by kernel_rfl) (by kernel_rfl) (by kernel_rfl) (fun _ _ _ h => h) (Or.inl ⟨by rfl, ?_⟩) (by assumption) ?_
          rotate_left
          · (intro w hSw; (try dsimp only at hSw); go_simp; try with_reducible rfl)
          try simp only [Act.put, List.setIfInBounds_toArray, List.set_cons_zero, List.set_cons_succ]
          refine wpAnyH_take (i := 4) (oi := ⟨some 31, _, _, _, _, _⟩) (v := ?_) rfl (by kernel_rfl) (by kernel_rfl) (by kernel_rfl) (fun _ _ _ h => h) (Or.inl ⟨by rfl, ?_⟩) (by assumption) ?_
          rotate_left
          · (intro w hSw; (try dsimp only at hSw); go_simp; try with_reducible rfl)
          try simp only [Act.put, List.setIfInBounds_toArray, List.set_cons_zero, List.set_cons_succ]
          refine wpAnyH_take (i := 5) (oi := ⟨some 32, _, _, _, _, _⟩) (v := .agg (secC s).toArray) rfl (by kernel_rfl) (by kernel_rfl) (by kernel_rfl) (fun _ _ _ h => h) (Or.inl ⟨by rfl, ?_⟩) (by assumption) ?_
          · (intro w hSw; (try dsimp only at hSw); exact run_load_sec _ rfl g0 0 rfl s hSw.2 HSO.out.1)
          try simp only [Act.put, List.setIfInBounds_toArray, List.set_cons_zero, List.set_cons_succ]
          refine wpAnyH_take (i := 6) (oi := ⟨some 33, _, _, _, _, _⟩) (v := ?_) rfl (by kernel_rfl) (by kernel_rfl) (by kernel_rfl) (fun _ _ _ h => h) (Or.inl ⟨by rfl, ?_⟩) (by assumption) ?_
          rotate_left
          · (intro w hSw; (try dsimp only at hSw); go_simp; try with_reducible rfl)
          try simp only [Act.put, List.setIfInBounds_toArray, List.set_cons_zero, List.set_cons_succ]
          refine wpAnyH_ready (rs := [7]) (by kernel_rfl) (by simp) ?_
          refine AllReadyH.cons (o := ⟨none, _, _, _, _, _⟩) rfl (fun K hK => ?_) AllReadyH.nil
          go_simp
          rw [HMID.out]
          go_wp2_with fail
          refine hK.out _ _ ?_ (fun hHeld => ?_)
          · (try dsimp only); first | exact HF1.out | exact HF2.out
          clear hK K
          try simp only [Act.put]
          refine wpAnyH_done (by kernel_rfl) ?_ _
          clear HF1 HF2
          go_wp2_with fail
          go_roundw
          case rel =>
            refine ⟨rest.erase (i : Int), ds.set i s, ⟨HBLK3.out.keepL HK6.out (by simp only [List.mem_singleton]; exact HBLK3.out.ne HSP3.out (by decide)), ⟨sp, HB6.out⟩, HR3.out.keepL HK6.out (by simp only [List.mem_singleton]; exact fun e => HSP3.out.nemap HR3.out.mapL e.symm) (by simp only [List.mem_singleton]; have := HR.out bs (by simp [fpL]); omega), ?_, ?_, by rw [List.length_set, HC.out.len], fun q hq => ?_, fun q hq => ?_⟩⟩
            · have h1 := HC.out.plan.keepL HK3.out (fun a ha => by have := HR.out a.block (by rw [ha]; simp [fpL]); simp only [List.mem_singleton]; omega) (fun g C hg => by
                simp only [List.mem_singleton]
                obtain ⟨D2, lf, cnt, hrg, _⟩ := HC.out.rng
                obtain ⟨es, clock, since, seen, c0, _, _, _, _, a5, _⟩ := hrg
                rintro rfl
                unfold Bk at hg
                rw [hg] at a5
                cases a5)
              refine h1.keepL HK6.out (fun a ha => ?_) (fun g C hg => by simp only [List.mem_singleton]; exact hg.ne HSP3.out (by decide))
              obtain ⟨cs, hc⟩ := h1.bt a ha
              simp only [List.mem_singleton]
              exact hc.ne HSP3.out (by decide)
            · have h1 : KeepL (fpL D bs bm p1) w1 w3 := by
                have hk := HC.out.keep
                refine ⟨HK3.out.os.trans hk.os, HK3.out.tape.trans hk.tape, HK3.out.output.trans hk.output, Nat.le_trans hk.size HK3.out.size, fun q h1 h2 => ?_⟩
                rw [HK3.out.block q (Nat.lt_of_lt_of_le h1 hk.size) (by simp only [List.mem_singleton]; have := HRS.out; omega)]
                exact hk.block q h1 h2
              exact h1.trans (HK6.out.sub (by simp [fpL]))
            · rcases List.mem_or_eq_of_mem_set hq with hq | hq
              · exact HC.out.ok q hq
              · subst hq; exact HSO.out
            · have hnd := HC.out.rng.nodup
              have e := HC.out.eq q hq
              by_cases hqi : q = i
              · subst hqi
                unfold synL
                rw [if_neg (by rw [hnd.mem_erase_iff]; simp), HCS.out, Option.getD_some, List.getD_eq_getElem?_getD, List.getElem?_set_self (by rw [HC.out.len]; exact hq)]
                rfl
              · unfold synL at e ⊢
                have hm : ((q : Int) ∈ rest.erase (i : Int)) ↔ (q : Int) ∈ rest := by rw [hnd.mem_erase_iff]; exact ⟨fun h => h.2, fun h => ⟨by omega, h⟩⟩
                rw [List.getD_eq_getElem?_getD, List.getElem?_set_ne (by omega), ← List.getD_eq_getElem?_getD, e]
                by_cases hq2 : (q : Int) ∈ rest
                · rw [if_pos hq2, if_pos (hm.2 hq2)]
                · rw [if_neg hq2, if_neg (fun h => hq2 (hm.1 h))]
          case measure =>
            have h1 := HR3.out.mapL.lt; have h2 := HR3.out.lt
            rw [rangeLeft_of (HK6.out.block bm h1 (by simp only [List.mem_singleton]; exact fun e => HSP3.out.nemap HR3.out.mapL e.symm)) (HK6.out.block r h2 (by simp only [List.mem_singleton]; have := HR.out bs (by simp [fpL]); omega))]
            exact HLT3.out
end
#print axioms sync_any
end Go.Proofs.Ytdgmjedkhjeadaa
/- The contract of Plan. Conditions: as each statement says. -/
namespace Go.Proofs.Ytdgmjedkhjeadaa
open Go.RowKit
set_option linter.unusedVariables false
def keepOK (l : List Int) : Bool := l.all fun x => decide (0 ≤ x) && decide (x ≤ 64)
def Dk.planR (d : Dk) (a : Int) (l : List Int) : Int × Dk :=
  if d.down = true then (13, d) else if a < 0 then (3, d) else if 256 < l.length then (5, d) else if keepOK l = true then (0, { d with plan := some (a.toNat, l.map Int.toNat) }) else (3, d)
/-- A row of the call's own is a keep list. -/
theorem KpV.own {w : World} {B : Nat} {A : Option Addr} {c : Nat} {l : List Int} (h : w.ownsRow B 3 1 (.slice A l.length c) l.length (l.map (Value.int .i64))) (hp : ∀ x ∈ l, 0 ≤ x) : KpV w (.slice A l.length c) (l.map Int.toNat) := by
  refine ⟨A, c, by rw [List.length_map], fun hne => ?_⟩
  have h0 : 0 < l.length := by
    cases l with
    | nil => exact absurd rfl hne
    | cons a l => simp
  rcases h.2 with ⟨_, e⟩ | ⟨g, cap, cur, e, _, hb, h1, h2, h3, h4⟩
  · omega
  · injection e with e1 e2 e3
    refine ⟨g, cur, e1, hb, fun i hi => ?_⟩
    rw [List.length_map] at hi
    have h5 := congrArg (fun q => q[i]?) h4
    simp only [Nat.mul_one, List.getElem?_map] at h5
    rw [List.getElem?_take, if_pos hi, List.getElem?_eq_getElem hi, Array.getElem?_toList] at h5
    rw [h5]
    have := hp l[i] (List.getElem_mem hi)
    simp only [Option.map_some, List.getD_eq_getElem?_getD, List.getElem?_map, List.getElem?_eq_getElem hi, Option.getD_some]
    congr 2
    omega
section
variable {w : World} {D : Nat} {d : Dk} {bs bm cp : Nat} {p : Option Addr}
end
end Go.Proofs.Ytdgmjedkhjeadaa
/- The contract of NewDisk. Conditions: as each statement says. -/
namespace Go.Proofs.Ytdgmjedkhjeadaa
open Go.RowKit
set_option linter.unusedVariables false
def NewDP (n : Int) (w : World) (e : Ending) (w' : World) : Prop :=
  ((n < 2 ∨ 256 < n) → e = .returned (.tuple #[.pointer none, .int .i64 3])) ∧
  (¬ (n < 2 ∨ 256 < n) → ∃ D bs bm, e = .returned (.tuple #[.pointer (some ⟨D, 0, none⟩), .int .i64 0]) ∧ DkAt w' D (Dk.new n.toNat) bs bm n.toNat none ∧ w.heap.size ≤ D ∧ w.heap.size ≤ bs ∧ w.heap.size ≤ bm) ∧ Below w.heap.size w w'
theorem madeCells_sec (n : Nat) : (madeCells (secV zeroSec).cells (n * 64)).toList = durC (List.replicate n zeroSec) := by
  have hz : (secV zeroSec).cells = Array.replicate 64 (.int .u8 0) := by
    rfl
  have h1 : (madeCells (secV zeroSec).cells (n * 64)).toList = List.replicate (n * 64) (.int .u8 0) := by
    rw [hz, List.eq_replicate_iff]
    refine ⟨by simp [madeCells], fun v hv => ?_⟩
    unfold madeCells at hv
    rw [Array.toList_map] at hv
    obtain ⟨i, _, rfl⟩ := List.mem_map.1 hv
    have : i % (Array.replicate 64 (Value.int .u8 0)).size < 64 := by rw [Array.size_replicate]; omega
    rw [getElem!_pos _ _ (by rw [Array.size_replicate]; exact this), Array.getElem_replicate]
  have h2 : ∀ n, durC (List.replicate n zeroSec) = List.replicate (n * 64) (.int .u8 0) := by
    intro n
    induction n with
    | zero => rfl
    | succ n ih =>
      rw [List.replicate_succ, durC_cons, ih, show (n + 1) * 64 = 64 + n * 64 by omega, ← List.replicate_append_replicate]
      congr 1
  rw [h1, h2]
theorem own_whole {w : World} {B n sz : Nat} {t : TypeId} {g : Nat} {xs : List Value} (h : w.ownsRow B t sz (.slice (some ⟨g, 0, none⟩) n n) n xs) : Bk w g xs.toArray t ∧ B ≤ g := by
  rcases h.2 with ⟨e, _⟩ | ⟨g', cap, cur, e, h1, h2, h3, h4, h5, h6⟩
  · cases e
  · injection e with e1 e2 e3
    injection e1 with e1
    injection e1 with e1
    subst e1; subst e3
    refine ⟨?_, h1⟩
    rw [List.take_of_length_le (by rw [Array.length_toList, h5]; exact Nat.le_refl _)] at h6
    rw [← h6]
    exact h2
set_option maxRecDepth 100000 in
set_option maxHeartbeats 1000000 in
theorem newDisk_any (n : Int) (w : World) : Calls Try.prog 4 #[.int .i64 n] w (NewDP n w) := by
  by_cases h1 : n < 2
  · have hb1 : decide (n < 2) = true := decide_eq_true h1
    go_enter Try.func4, Try.ntmps4
    go_wp2_with fail
    refine bodyPost_ret (a := Act.mk _ _) (results_tmp2 rfl _ _ _) rfl ?_
    exact ⟨fun _ => rfl, fun h => absurd (.inl h1) h, Below.refl _ _⟩
  · have hb1 : decide (n < 2) = false := decide_eq_false h1
    by_cases h2 : 256 < n
    · have hb2 : decide (256 < n) = true := decide_eq_true h2
      go_enter Try.func4, Try.ntmps4
      go_wp2_with fail
      refine bodyPost_ret (a := Act.mk _ _) (results_tmp2 rfl _ _ _) rfl ?_
      exact ⟨fun _ => rfl, fun h => absurd (.inr h2) h, Below.refl _ _⟩
    · have hb2 : decide (256 < n) = false := decide_eq_false h2
      obtain ⟨m, rfl⟩ : ∃ m : Nat, n = (m : Int) := ⟨n.toNat, by omega⟩
      have hm : 2 ≤ m ∧ m ≤ 256 := by omega
      have HM := Lib.hid hm
      obtain ⟨ii, hi1, hi2, hi3, hi4⟩ := info_parts (P := Try.prog) (e := 86) (z := secV zeroSec) (size := 64) (bytes := 64) (by kernel_rfl)
      have HI := Lib.hid (And.intro hi1 (And.intro hi2 (And.intro hi3 hi4)))
      have hmm := @run_makeMap Try.prog
      clear hi1 hi2 hi3 hi4 hm
      go_enter Try.func4, Try.ntmps4
      go_wp2_with (refine wpList_make_full w rfl _ _ 48 rfl w.heap.size 86 ii (secV zeroSec) 64 Try.underlying48 HI.out.1 HI.out.2.1 HI.out.2.2.1 .i64 .i64 _ _ m rfl rfl rfl rfl (by rw [HI.out.2.2.2]; have := HM.out; omega) (by have := HM.out; unfold maxLen; omega) (Nat.le_refl _) ?_; intro w1 hown1 hg1)
      rw [show m * 64 = m * 64 from rfl, madeCells_sec] at hown1
      obtain ⟨hb1, _⟩ := own_whole hown1
      have hbl := bgrown hg1
      obtain ⟨w2, hw2⟩ : ∃ z, z = w1.alloc (.map #[] 0) := ⟨_, rfl⟩
      have hm2 : MapL intK w2 w1.heap.size [] (fun _ => none) := by rw [hw2]; exact MapL.made intK w1
      have hb2' : Below w1.heap.size w1 w2 := by rw [hw2]; exact balloc _ _
      have hs2 : w2.heap.size = w1.heap.size + 1 := by rw [hw2, World.size_alloc]
      rw [← hw2, ← hs2]
      obtain ⟨w3, hw3⟩ : ∃ z, z = w2.alloc (.cells #[.slice (some ⟨w.heap.size, 0, none⟩) m m, .map (some w1.heap.size), .pointer none, .bool false, .int .i64 0] 52) := ⟨_, rfl⟩
      have hb3 : Bk w3 w2.heap.size #[.slice (some ⟨w.heap.size, 0, none⟩) m m, .map (some w1.heap.size), .pointer none, .bool false, .int .i64 0] 52 := by rw [hw3]; exact Bk.new _ _ _
      have hb3' : Below w2.heap.size w2 w3 := by rw [hw3]; exact balloc _ _
      rw [← hw3]
      refine bodyPost_ret (a := Act.mk _ _) (results_tmp2 rfl _ _ _) rfl ?_
      have hml := HM.out
      refine ⟨fun h => absurd h (by omega), fun _ => ⟨w2.heap.size, w.heap.size, w1.heap.size, rfl, ⟨DkOK.new _ (by omega) (by omega), ?_, ⟨[], ?_⟩, ⟨[], ?_⟩, rfl⟩, ?_, Nat.le_refl _, hbl.size⟩, bnextK (bnextK hbl hb2') hb3'⟩
      · rw [Int.toNat_natCast, show (Dk.new m).dur.length = m from List.length_replicate ..]
        exact hb3
      · rw [Int.toNat_natCast, List.append_nil]
        exact (hb1.past hb2' hb1.lt).past hb3' (Nat.lt_of_lt_of_le hb1.lt hb2'.size)
      · refine (hm2.keep (hb3'.block _ hm2.lt)).same fun x hx => ?_
        unfold cchF
        split
        · rw [show (Dk.new (m : Int).toNat).cch = List.replicate (m : Int).toNat none from rfl, List.getD_eq_getElem?_getD, List.getElem?_replicate]
          split <;> rfl
        · rfl
      · exact Nat.le_trans hbl.size hb2'.size
#print axioms newDisk_any
end Go.Proofs.Ytdgmjedkhjeadaa
