/- The contracts of tick and put. Conditions: as each statement says. -/
import Derived.Test.YtdgmjedkhjeadaaGreatTick2
import Derived.Deep.RegionHeld3
import Derived.Deep.DeepCutAuto
import Derived.Test.YtdgmjedkhjeadaaGreatKeepL
import Derived.Lib.SliceRun
namespace Go.Proofs.YtdgmjedkhjeadaaGreat
open List (setIfInBounds_toArray set_cons_zero set_cons_succ)
open Go.RowKit
set_option linter.unusedVariables false
def AgeOK (d : Dk) : Prop := 0 ≤ d.age ∧ d.age < 4611686018427387904
section
variable {w : World} {D : Nat} {d : Dk} {bs bm cp : Nat} {p : Option Addr}
theorem tick_any (h : DkAt w D d bs bm cp p) (ha : AgeOK d) : Calls Tryz.prog 48 #[.pointer (some ⟨D, 0, none⟩)] w (TickP D bs bm cp p d w) := by
  cases hp : d.plan with
  | none => exact tick_none h hp
  | some q =>
    obtain ⟨a, k⟩ := q
    cases a with
    | zero => exact tick_crash h k hp ha
    | succ a => exact tick_some h a k hp
/-- The cache holds a sector more. -/
theorem DkAt.cached (h : DkAt w D d bs bm cp p) {i : Nat} (hi : i < d.dur.length) {s : Sec} (hs : SecOK s) :
    ∃ w', (Instr.mapUpdate 93 (.map (some bm)) (.int .i64 (i : Int)) (.agg (secC s).toArray)).run Tryz.prog w = .ok () w' ∧ DkMut w w' D bs bm cp p { d with cch := d.cch.set i (some s) } := by
  obtain ⟨l, hm⟩ := h.cch
  have hl := h.keyLen hm
  have hn := h.ok.n256
  obtain ⟨w', hrun, hm', hg⟩ := hm.store Tryz.underlying93 (x := (i : Int)) (show intK.ok _ from ⟨by omega, by omega⟩) (.agg (secC s).toArray) (by omega)
  have hk : KeepL [bm] w w' := KeepL.grown hg (fun q e _ => by injection e with e; simp [e])
  obtain ⟨sp, hsp⟩ := h.dur
  have hD : D ∉ [bm] := by simp only [List.mem_singleton]; exact h.blk.nemap hm
  refine ⟨w', hrun, ⟨p, ⟨⟨h.ok.n2, h.ok.n256, by simpa using h.ok.len, h.ok.dur, fun x hx => ?_, h.ok.keep⟩, h.blk.keepL hk hD, ⟨sp, hsp.keepL hk (by simp only [List.mem_singleton]; exact hsp.nemap hm)⟩, ⟨_, hm'.same fun x hx => ?_⟩, h.plan.keepL hk (fun a ha => ?_) (fun g C hg => by simp only [List.mem_singleton]; exact hg.nemap hm)⟩, .refl _ _⟩, hk.sub (by simp [fpL])⟩
  · rcases List.mem_or_eq_of_mem_set hx with hx | hx
    · exact h.ok.cch _ hx
    · cases hx; exact hs
  · unfold cchF
    dsimp only
    by_cases hx2 : x = (i : Int)
    · subst hx2
      rw [if_pos rfl, if_pos (by omega), Int.toNat_natCast, List.getD_eq_getElem?_getD, List.getElem?_set_self (by rw [h.ok.len]; exact hi)]
      rfl
    · rw [if_neg hx2]
      by_cases hr : 0 ≤ x ∧ x < d.dur.length
      · rw [if_pos hr, if_pos hr, List.getD_eq_getElem?_getD, List.getD_eq_getElem?_getD, List.getElem?_set_ne (by omega)]
      · rw [if_neg hr, if_neg hr]
  · obtain ⟨cs, hc⟩ := h.plan.bt a ha
    simp only [List.mem_singleton]
    exact hc.nemap hm
theorem run_load_sec {o : Oper} {ev : Operand → Value} {w : World} (x : Operand) (ho : o.op = .load 101 x) (b off : Nat) (hx : ev x = .pointer (some ⟨b, off, none⟩)) (s : Sec) (hr : w.rangeAt b off (secC s)) (hs : s.length = 64) :
    (execOp ev o).run Tryz.prog w = .ok (.value (.agg (secC s).toArray)) w := by
  have hi : (Tryz.prog.info? 101).map (·.size) = some (secC s).length := by have := sec_info s hs; simpa using this
  unfold execOp
  simp only [ho, hx, Instr.loadAt, Instr.sureAddr, Sem.run_bind, Sem.run_pure, Result.andThen_ok, run_loadVar_mid w b off 101 (secC s) _ hr Tryz.underlying101 rfl hi]
theorem DkAt.fpLt (h : DkAt w D d bs bm cp p) : ∀ k ∈ fpL D bs bm p, k < w.heap.size := by
  obtain ⟨sp, hsp⟩ := h.dur
  obtain ⟨l, hl⟩ := h.cch
  intro k hk
  unfold fpL at hk
  simp only [List.mem_cons] at hk
  rcases hk with rfl | rfl | rfl | hk
  · exact h.blk.lt
  · exact hsp.lt
  · exact hl.lt
  · cases p with
    | none => simp at hk
    | some a =>
      simp only [List.mem_singleton] at hk
      subst hk
      obtain ⟨cs, hc⟩ := h.plan.bt a rfl
      exact hc.lt
def PutP (D bs bm cp : Nat) (p : Option Addr) (d : Dk) (i : Nat) (s : Sec) (w : World) (e : Ending) (w' : World) : Prop := e = .returned (.int .i64 (if (d.put i s).1 = true then 13 else 0)) ∧ DkMut w w' D bs bm cp p (d.put i s).2
set_option maxRecDepth 100000 in
set_option maxHeartbeats 1000000 in
theorem put_any (h : DkAt w D d bs bm cp p) (ha : AgeOK d) {i : Nat} (hi : i < d.dur.length) {s : Sec} (hs : SecOK s) : Calls Tryz.prog 47 #[.pointer (some ⟨D, 0, none⟩), .int .i64 (i : Int), .agg (secC s).toArray] w (PutP D bs bm cp p d i s w) := by
  have H := Lib.hid h; have HI := Lib.hid hi; have HS := Lib.hid hs; have HAG := Lib.hid ha
  have hsz : (secC s).length = 64 := by rw [secC_length, hs.1]
  clear h hi hs ha
  go_enter Tryz.func47, Tryz.ntmps47
  go_upto_region 1 with fail
  obtain ⟨w1, hw1⟩ : ∃ z, z = (w.alloc (.cells (secC s).toArray 101)) := ⟨_, rfl⟩
  have HB1 : Hid (Bk w1 w.heap.size (secC s).toArray 101 ∧ Below w.heap.size w w1) := Lib.hid ⟨by rw [hw1]; exact Bk.new _ _ _, by rw [hw1]; exact balloc _ _⟩
  rw [← hw1]
  clear hw1
  have hq : Below w1.heap.size w1 w1.drew := Qw.below ⟨1, rfl⟩ _
  have H2 := Lib.hid ((H.out.far HB1.out.2).far hq)
  have HF1 : Hid (w1.drew.cell? ⟨D, 1, none⟩ = some (.map (some bm)) ∧ w1.drew.rangeAt w.heap.size 0 (secC s)) := Lib.hid ⟨H2.out.c1, (HB1.out.1.past hq HB1.out.1.lt).range⟩
  have HQ := Lib.hid hq
  clear hq
  obtain ⟨w2, hrun, hmut⟩ := H2.out.cached HI.out HS.out
  obtain ⟨⟨p2, hd2, hp2⟩, hk2⟩ := hmut
  have HD2 := Lib.hid hd2; have HP2 := Lib.hid hp2; have HK2 := Lib.hid hk2
  have HBL := Lib.hid HB1.out.2
  have HF2 : Hid (w2.cell? ⟨D, 1, none⟩ = some (.map (some bm)) ∧ w2.rangeAt w.heap.size 0 (secC s)) := Lib.hid ⟨hd2.c1, (((HB1.out.1.past HQ.out HB1.out.1.lt)).keepL hk2 (fun e => Nat.lt_irrefl _ (H.out.fpLt _ e))).range⟩
  clear hd2 hp2 hk2
  generalize w.heap.size = g0 at HF1 HF2 ⊢
  refine wp_region_held_drew (S := (fun W => W.cell? ⟨D, 1, none⟩ = some (.map (some bm)) ∧ W.rangeAt g0 0 (secC s))) (by kernel_rfl) ?_ (fun hHeld => ?_)
  · (try dsimp only); first | exact HF1.out | exact HF2.out
  refine wpAnyH_take (i := 0) (oi := ⟨some 7, _, _, _, _, _⟩) (v := ?_) rfl (by kernel_rfl) (by kernel_rfl) (by kernel_rfl) (fun _ _ _ h => h) (Or.inl ⟨by rfl, ?_⟩) (by assumption) ?_; rotate_left
  · intro w hSw; (try dsimp only at hSw); go_simp; try with_reducible rfl
  try simp only [Act.put, setIfInBounds_toArray, set_cons_zero, set_cons_succ]
  refine wpAnyH_take (i := 1) (oi := ⟨some 8, _, _, _, _, _⟩) (v := ?_) rfl (by kernel_rfl) (by kernel_rfl) (by kernel_rfl) (fun _ _ _ h => h) (Or.inl ⟨by rfl, ?_⟩) (by assumption) ?_; rotate_left
  · intro w hSw; (try dsimp only at hSw); go_simp; try with_reducible rfl
  try simp only [Act.put, setIfInBounds_toArray, set_cons_zero, set_cons_succ]
  refine wpAnyH_take (i := 2) (oi := ⟨some 9, _, _, _, _, _⟩) (v := ?_) rfl (by kernel_rfl) (by kernel_rfl) (by kernel_rfl) (fun _ _ _ h => h) (Or.inl ⟨by rfl, ?_⟩) (by assumption) ?_; rotate_left
  · intro w hSw; (try dsimp only at hSw); go_simp; try with_reducible rfl
  try simp only [Act.put, setIfInBounds_toArray, set_cons_zero, set_cons_succ]
  refine wpAnyH_take (i := 3) (oi := ⟨some 10, _, _, _, _, _⟩) (v := ?_) rfl (by kernel_rfl) (by kernel_rfl) (by kernel_rfl) (fun _ _ _ h => h) (Or.inl ⟨by rfl, ?_⟩) (by assumption) ?_; rotate_left
  · intro w hSw; (try dsimp only at hSw); go_simp; try with_reducible rfl
  try simp only [Act.put, setIfInBounds_toArray, set_cons_zero, set_cons_succ]
  refine wpAnyH_take (i := 4) (oi := ⟨some 11, _, _, _, _, _⟩) (v := ?_) rfl (by kernel_rfl) (by kernel_rfl) (by kernel_rfl) (fun _ _ _ h => h) (Or.inl ⟨by rfl, ?_⟩) (by assumption) ?_; rotate_left
  · intro w hSw; (try dsimp only at hSw); go_simp; try with_reducible rfl
  try simp only [Act.put, setIfInBounds_toArray, set_cons_zero, set_cons_succ]
  refine wpAnyH_take (i := 5) (oi := ⟨some 12, _, _, _, _, _⟩) (v := .agg (secC s).toArray) rfl (by kernel_rfl) (by kernel_rfl) (by kernel_rfl) (fun _ _ _ h => h) (Or.inl ⟨by rfl, ?_⟩) (by assumption) ?_
  · (intro w hSw; (try dsimp only at hSw); exact run_load_sec _ rfl g0 0 rfl s hSw.2 HS.out.1)
  try simp only [Act.put, setIfInBounds_toArray, set_cons_zero, set_cons_succ]
  refine wpAnyH_ready (rs := [6]) (by kernel_rfl) (by simp) ?_
  refine AllReadyH.cons (o := ⟨none, _, _, _, _, _⟩) rfl (fun K hK => ?_) AllReadyH.nil
  go_simp
  refine hK.out _ _ ?_ (fun hHeld => ?_)
  · (try dsimp only); first | exact HF1.out | exact HF2.out
  clear hK K
  try simp only [Act.put]
  refine wpAnyH_done (by kernel_rfl) ?_ _
  clear HF1 HF2 hrun
  obtain ⟨d2, hd2⟩ : ∃ d2 : Dk, d2 = { d with cch := d.cch.set i (some s) } := ⟨_, rfl⟩
  have HPE : Hid (d.put i s = d2.tick) := Lib.hid (by rw [hd2]; rfl)
  have HA2 : Hid (AgeOK d2) := Lib.hid (by rw [hd2]; exact HAG.out)
  have HD3 : Hid (DkAt w2 D d2 bs bm cp p2) := Lib.hid (by rw [hd2]; exact HD2.out)
  clear hd2 HD2
  go_wp2_with fail
  refine (tick_any HD3.out HA2.out).mono ?_
  rintro e w3 ⟨rfl, hm3⟩
  have HM3 := Lib.hid hm3
  clear hm3
  have HFIN : Hid (DkMut w w3 D bs bm cp p d2.tick.2) := Lib.hid (by
    have hb := bnextK HBL.out HQ.out
    exact DkMut.trans ((NewP.refl w p).trans HP2.out hb.size) ((KeepL.of_below hb).trans HK2.out) HM3.out)
  obtain ⟨z, hz⟩ : ∃ z, z = d2.tick.1 := ⟨_, rfl⟩
  rw [← hz]
  have HZ := Lib.hid hz
  clear hz
  cases z with
  | true =>
    go_wp2_with fail
    go_ret
    unfold PutP
    rw [HPE.out, ← HZ.out]
    exact ⟨rfl, HFIN.out⟩
  | false =>
    go_wp2_with fail
    go_ret
    unfold PutP
    rw [HPE.out, ← HZ.out]
    exact ⟨rfl, HFIN.out⟩
end
end Go.Proofs.YtdgmjedkhjeadaaGreat
namespace Go.Proofs.YtdgmjedkhjeadaaGreat
open List (setIfInBounds_toArray set_cons_zero set_cons_succ)
open Go.RowKit
set_option linter.unusedVariables false
def Dk.write (d : Dk) (i : Int) (l : List Nat) : Int × Dk :=
  if d.down = true then (13, d) else if hasB i d.dur.length = true then (if l.length = 64 then (let r := Dk.put { d with age := d.age + 1 } i.toNat l; (if r.1 = true then 13 else 0, r.2)) else (6, d)) else (3, d)
/-- A call that answers a number, and changes the disk. -/
def DkR (D bs bm cp : Nat) (p : Option Addr) (r : Int × Dk) (w : World) (e : Ending) (w' : World) : Prop := e = .returned (.int .i64 r.1) ∧ DkMut w w' D bs bm cp p r.2
theorem DkMut.refl {w : World} {D : Nat} {d : Dk} {bs bm cp : Nat} {p : Option Addr} (h : DkAt w D d bs bm cp p) : DkMut w w D bs bm cp p d := ⟨⟨_, h, .refl _ _⟩, KeepL.refl _ _⟩
section
variable {w : World} {D : Nat} {d : Dk} {bs bm cp : Nat} {p : Option Addr}
end
end Go.Proofs.YtdgmjedkhjeadaaGreat
namespace Go.Proofs.YtdgmjedkhjeadaaGreat
open List (setIfInBounds_toArray set_cons_zero set_cons_succ)
open Go.RowKit
set_option linter.unusedVariables false
def Dk.syncR (d : Dk) : Int × Dk := if d.down = true then (13, d) else (if d.sync.1 = true then 13 else 0, d.sync.2)
theorem store_mid {w : World} {bs : Nat} {ds : List Sec} {sp : List Value} {t : TypeId} (h : Bk w bs (durC ds ++ sp).toArray t) (ho : ∀ s ∈ ds, SecOK s) {i : Nat} (hi : i < ds.length) {s : Sec} (hs : SecOK s) :
    (storeCells ⟨bs, i * 64, none⟩ (secC s)).run Tryz.prog w = .ok () (w.setRow bs (durC (ds.set i s) ++ sp).toArray) := by
  have hl : (secC s).length = 64 := by rw [secC_length, hs.1]
  have e1 := durC_length ds ho
  have := run_storeCells_at (P := Tryz.prog) bs (i * 64) t (secC s) 0 (durC ds ++ sp).toArray w h (by simp only [List.size_toArray, List.length_append, e1, hl]; omega) (secC_one s)
  rw [this]
  have e2 := durC_splice ho hi sp s 64 (Nat.le_refl _) hs.1
  have hd : SecOK (ds.getD i []) := ho _ (by rw [List.getD_eq_getElem?_getD, List.getElem?_eq_getElem hi]; exact List.getElem_mem hi)
  rw [List.take_of_length_le (by rw [hl]; omega), List.take_of_length_le (by rw [hs.1]; omega), List.drop_eq_nil_of_le (by rw [hd.1]; omega), List.append_nil] at e2
  rw [← e2, splice, Nat.add_zero, List.append_assoc]
/-- What is durable while the fresh sectors are made durable: those in 'rest' are still to come. -/
def synL (d : Dk) (rest : List Int) (i : Nat) : Sec := if (i : Int) ∈ rest then d.dur.getD i [] else (d.cch.getD i none).getD (d.dur.getD i [])
structure SyS (w0 : World) (D bs bm cp r : Nat) (p : Option Addr) (d : Dk) (l rest : List Int) (ds : List Sec) (w : World) : Prop where
  blk : Bk w D #[.slice (some ⟨bs, 0, none⟩) d.dur.length cp, .map (some bm), .pointer p, .bool d.down, .int .i64 d.age] 96
  dur : ∃ sp, Bk w bs (durC ds ++ sp).toArray 101
  rng : RngI w bm r l rest (cchF d)
  plan : PlanAt w p d.plan
  keep : KeepL (fpL D bs bm p) w0 w
  len : ds.length = d.dur.length
  ok : ∀ s ∈ ds, SecOK s
  eq : ∀ i, i < d.dur.length → ds.getD i [] = synL d rest i
theorem syncS_get (d : Dk) (h : DkOK d) (i : Nat) (hi : i < d.dur.length) : (syncS d.dur d.cch).getD i [] = synL d [] i := by
  unfold synL syncS
  rw [if_neg (by simp), List.getD_eq_getElem?_getD, List.getElem?_zipWith, List.getD_eq_getElem?_getD, List.getD_eq_getElem?_getD, List.getElem?_eq_getElem hi, List.getElem?_eq_getElem (by rw [h.len]; exact hi)]
  rfl
theorem SyS.done {w0 : World} {D bs bm cp r : Nat} {p : Option Addr} {d : Dk} {l : List Int} {ds : List Sec} {w : World} (h : SyS w0 D bs bm cp r p d l [] ds w) (ho : DkOK d) : ds = syncS d.dur d.cch := by
  have hl := syncS_length d.dur d.cch ho.len
  refine List.ext_getElem (by rw [h.len, hl]) fun i h1 h2 => ?_
  have e := (h.eq i (by rw [h.len] at h1; exact h1)).trans (syncS_get d ho i (by rw [h.len] at h1; exact h1)).symm
  rw [List.getD_eq_getElem?_getD, List.getD_eq_getElem?_getD, List.getElem?_eq_getElem h1, List.getElem?_eq_getElem h2] at e
  exact e
section
variable {w : World} {D : Nat} {d : Dk} {bs bm cp : Nat} {p : Option Addr}
set_option maxRecDepth 100000 in
set_option maxHeartbeats 1000000 in
theorem sync_any (h : DkAt w D d bs bm cp p) (ha : AgeOK d) : Calls Tryz.prog 17 #[.pointer (some ⟨D, 0, none⟩)] w (DkR D bs bm cp p d.syncR w) := by
  have HV := Lib.hid (dvalid_any h)
  have c3 := h.c3
  have H := Lib.hid h
  cases hd : d.down with
  | true =>
    have HE : Hid (d.syncR = (13, d)) := Lib.hid (by unfold Dk.syncR; rw [if_pos hd])
    rw [hd] at c3
    clear h
    go_enter Tryz.func17, Tryz.ntmps17
    go_wp2_with fail
    refine HV.out.mono ?_
    rintro e w' ⟨rfl, rfl⟩
    go_wp2_with fail
    go_ret
    unfold DkR
    rw [HE.out]
    exact ⟨rfl, .refl H.out⟩
  | false =>
    have HT := Lib.hid (tick_any h ha)
    have HE : Hid (d.syncR = (if d.sync.1 = true then 13 else 0, d.sync.2)) := Lib.hid (by unfold Dk.syncR; rw [if_neg (by rw [hd]; simp)])
    rw [hd] at c3
    clear h
    go_enter Tryz.func17, Tryz.ntmps17
    go_wp2_with fail
    refine HV.out.mono ?_
    rintro e w' ⟨rfl, rfl⟩
    go_wp2_with fail
    refine HT.out.mono ?_
    rintro e w1 ⟨rfl, hm1⟩
    have HM1 := Lib.hid hm1
    clear hm1 HT c3
    obtain ⟨z, d1, hz⟩ : ∃ z d1, d.tick = (z, d1) := ⟨_, _, rfl⟩
    rw [hz] at HM1 ⊢
    cases z with
    | true =>
      have HS : Hid (d.sync = (true, d1)) := Lib.hid (by unfold Dk.sync; rw [hz])
      clear hz
      go_wp2_with fail
      go_ret
      unfold DkR
      rw [HE.out, HS.out]
      exact ⟨rfl, HM1.out⟩
    | false =>
      have HS : Hid (d.sync = (false, { d1 with dur := syncS d1.dur d1.cch, cch := List.replicate d1.cch.length none })) := Lib.hid (by unfold Dk.sync; rw [hz])
      clear hz
      obtain ⟨⟨p1, hd1, hp1⟩, hk1⟩ := HM1.out
      obtain ⟨l, hm⟩ := hd1.cch
      have HD1 := Lib.hid hd1; have HP1 := Lib.hid hp1; have HK1 := Lib.hid hk1; have HM := Lib.hid hm
      have c1 := hd1.c1
      clear hd1 hp1 hk1 hm HM1
      go_wp2_with (at_range; refine wpList_rangeI _ rfl _ _ _ rfl Tryz.underlying93 bm l _ rfl HM.out ?_; intro w2 hr2 hg2 hs2)
      try simp only [Act.put, setIfInBounds_toArray, set_cons_zero, set_cons_succ]
      have HC : Hid (SyS w1 D bs bm cp w1.heap.size p1 d1 l l d1.dur w2) := Lib.hid (by
        have hb := bgrown hg2
        have h2 := HD1.out.far hb
        refine ⟨h2.blk, h2.dur, hr2, h2.plan, KeepL.of_below hb, rfl, HD1.out.ok.dur, fun i hi => ?_⟩
        unfold synL
        by_cases hm : (i : Int) ∈ l
        · rw [if_pos hm]
        · rw [if_neg hm]
          cases hc : d1.cch.getD i none with
          | none => rfl
          | some s => exact absurd ((HD1.out.keys HM.out _).2 ⟨i, (frK_mem _ _ _).2 ⟨Nat.zero_le _, by rw [HD1.out.ok.len]; omega, by rw [Nat.sub_zero, hc]; rfl⟩, rfl⟩) hm)
      have HR : Hid (∀ k ∈ fpL D bs bm p1, k < w1.heap.size) := Lib.hid HD1.out.fpLt
      clear hr2 hg2 hs2 c1
      obtain ⟨r, hr⟩ : ∃ r, r = w1.heap.size := ⟨_, rfl⟩
      rw [← hr] at HC HR ⊢
      have HRS := Lib.hid hr
      clear hr
      go_loopw [3, 4] (fun _ _ wr => ∃ rest ds, SyS w1 D bs bm cp r p1 d1 l rest ds wr) (fun _ _ wr => wr.rangeLeft bm r)
      case atStart => exact ⟨l, _, HC.out⟩
      case round =>
        obtain ⟨rest, ds, hc⟩ := hrel
        obtain ⟨wa, rfl⟩ : ∃ z : World, z = wr := ⟨_, rfl⟩
        replace HC := Lib.hid hc
        clear hc
        go_wp2_with (at_next; refine wpList_nextI _ rfl _ rfl bm r l rest _ rfl HC.out.rng ?_ ?_)
        · intro hrest
          subst hrest
          have hds := HC.out.done HD1.out.ok
          obtain ⟨w5, hrun, hm5, hg5⟩ := HC.out.rng.mapL.clear Tryz.underlying93 0
          have hk5 : KeepL [bm] wa w5 := KeepL.grown hg5 (fun q e _ => by injection e with e; simp [e])
          have d1' := HC.out.blk.cell 1
          simp only [List.getElem?_toArray, List.getElem?_cons_succ, List.getElem?_cons_zero] at d1'
          have HDS := Lib.hid hds; have HM5 := Lib.hid hm5; have HK5 := Lib.hid hk5
          clear hds hm5 hk5 hg5
          go_wp2_with fail
          go_ret
          unfold DkR
          rw [HE.out, HS.out]
          have hlen := syncS_length d1.dur d1.cch HD1.out.ok.len
          have hml := HC.out.rng.mapL
          obtain ⟨sp, hsp⟩ := HC.out.dur
          refine ⟨rfl, DkMut.trans HP1.out HK1.out ⟨⟨p1, ⟨by have := H.out.ok.sync; rw [HS.out] at this; exact this, ?_, ⟨sp, ?_⟩, ⟨[], HM5.out.same fun x hx => ?_⟩, ?_⟩, .refl _ _⟩, HC.out.keep.trans (HK5.out.sub (by simp [fpL]))⟩⟩
          · have := HC.out.blk.keepL HK5.out (by simp only [List.mem_singleton]; exact HC.out.blk.nemap hml)
            dsimp only
            rw [hlen]
            exact this
          · rw [HDS.out] at hsp
            exact hsp.keepL HK5.out (by simp only [List.mem_singleton]; exact hsp.nemap hml)
          · unfold cchF
            dsimp only
            split
            · rw [List.getD_eq_getElem?_getD, List.getElem?_replicate]
              split <;> rfl
            · rfl
          · refine HC.out.plan.keepL HK5.out (fun a ha => ?_) (fun g C hg => by simp only [List.mem_singleton]; exact hg.nemap hml)
            obtain ⟨cs, hc⟩ := HC.out.plan.bt a ha
            simp only [List.mem_singleton]
            exact hc.nemap hml
        · intro x v w3 hx hf hr3 hg3 hs3 hlt3 hen
          obtain ⟨i, s, rfl, hin, hcs, rfl⟩ : ∃ (i : Nat) (s : Sec), x = (i : Int) ∧ i < d1.dur.length ∧ d1.cch.getD i none = some s ∧ v = .agg (secC s).toArray := by
            unfold cchF at hf
            split at hf
            · rename_i hr
              cases hc : d1.cch.getD x.toNat none with
              | none => rw [hc] at hf; cases hf
              | some s =>
                rw [hc] at hf
                exact ⟨x.toNat, s, by omega, by omega, hc, by injection hf with hf; exact hf.symm⟩
            · cases hf
          have hso : SecOK s := HD1.out.ok.cch s (by
            rw [List.getD_eq_getElem?_getD] at hcs
            cases hc : d1.cch[i]? with
            | none => rw [hc] at hcs; cases hcs
            | some u => rw [hc] at hcs; simp only [Option.getD_some] at hcs; subst hcs; exact List.mem_of_getElem? hc)
          have hk3 : KeepL [r] wa w3 := KeepL.grown hg3 (fun q e _ => by injection e with e; simp [e])
          have hne : ∀ k ∈ fpL D bs bm p1, k ∉ [r] := fun k hk => by simp only [List.mem_singleton]; have := HR.out k hk; omega
          obtain ⟨sp, hsp⟩ := HC.out.dur
          have hsp3 := hsp.keepL hk3 (hne bs (by simp [fpL]))
          have hblk3 := HC.out.blk.keepL hk3 (hne D (by simp [fpL]))
          have hsz : (secC s).length = 64 := by rw [secC_length, hso.1]
          have HX := Lib.hid hx; have HR3 := Lib.hid hr3; have HLT3 := Lib.hid hlt3; have HK3 := Lib.hid hk3; have HSP3 := Lib.hid hsp3; have HBLK3 := Lib.hid hblk3; have HCS := Lib.hid hcs; have HSO := Lib.hid hso; have HIN := Lib.hid hin
          have hii : 0 ≤ (i : Int) ∧ (i : Int) < (d1.dur.length : Int) := by omega
          clear hx hf hr3 hg3 hs3 hlt3 hk3 hsp hsp3 hblk3 hcs hso hin hne
          go_wp2_with fail
          rw [store_new _ _ _ HSO.out.1]
          go_upto_region 10 with fail
          obtain ⟨w4, hw4⟩ : ∃ z, z = w3.alloc (.cells (secC s).toArray 101) := ⟨_, rfl⟩
          have HB4 : Hid (Bk w4 w3.heap.size (secC s).toArray 101 ∧ Below w3.heap.size w3 w4) := Lib.hid ⟨by rw [hw4]; exact Bk.new _ _ _, by rw [hw4]; exact balloc _ _⟩
          rw [← hw4]
          clear hw4 hen
          have hb5 : Below w3.heap.size w3 w4.drew := bnextK HB4.out.2 (Qw.below ⟨1, rfl⟩ _)
          have HB5 := Lib.hid hb5
          have HSP5 := Lib.hid (HSP3.out.past hb5 HSP3.out.lt)
          have HF1 : Hid (w4.drew.cell? ⟨D, 0, none⟩ = some (.slice (some ⟨bs, 0, none⟩) d1.dur.length cp) ∧ w4.drew.rangeAt w3.heap.size 0 (secC s)) := Lib.hid
            ⟨by rw [(HBLK3.out.past hb5 HBLK3.out.lt).cell]; rfl, (HB4.out.1.past (Qw.below (⟨1, rfl⟩ : Qw w4 w4.drew) w4.heap.size) HB4.out.1.lt).range⟩
          have hids : i < ds.length := by rw [HC.out.len]; exact HIN.out
          have HMID := Lib.hid (store_mid HSP5.out HC.out.ok hids HSO.out)
          obtain ⟨w6, hw6⟩ : ∃ z, z = w4.drew.setRow bs (durC (ds.set i s) ++ sp).toArray := ⟨_, rfl⟩
          have HK6 : Hid (KeepL [bs] w3 w6) := Lib.hid (by rw [hw6]; exact (KeepL.of_below HB5.out).trans (keepL_put _ _ _))
          have HB6 : Hid (Bk w6 bs (durC (ds.set i s) ++ sp).toArray 101) := Lib.hid (by rw [hw6]; exact HSP5.out.put _)
          have hbsg : w3.heap.size ≠ bs := Nat.ne_of_gt HSP3.out.lt
          have HF2 : Hid (w6.cell? ⟨D, 0, none⟩ = some (.slice (some ⟨bs, 0, none⟩) d1.dur.length cp) ∧ w6.rangeAt w3.heap.size 0 (secC s)) := Lib.hid
            ⟨by rw [(HBLK3.out.keepL HK6.out (by simp only [List.mem_singleton]; exact HBLK3.out.ne HSP3.out (by decide))).cell]; rfl, by
              have h1 := (HB4.out.1.past (Qw.below (⟨1, rfl⟩ : Qw w4 w4.drew) w4.heap.size) HB4.out.1.lt)
              rw [hw6]
              exact (h1.keepL (keepL_put _ _ _) (by simpa using hbsg)).range⟩
          rw [← hw6] at HMID
          clear hb5 hids hw6 hbsg
          have HR0 : Hid (r < w3.heap.size) := Lib.hid HR3.out.lt
          generalize w3.heap.size = g0 at HF1 HF2 ⊢
          refine wp_region_held_drew (S := (fun W => W.cell? ⟨D, 0, none⟩ = some (.slice (some ⟨bs, 0, none⟩) d1.dur.length cp) ∧ W.rangeAt g0 0 (secC s))) (by kernel_rfl) ?_ (fun hHeld => ?_)
          · (try dsimp only); first | exact HF1.out | exact HF2.out
          refine wpAnyH_take (i := 0) (oi := ⟨some 27, _, _, _, _, _⟩) (v := ?_) rfl (by kernel_rfl) (by kernel_rfl) (by kernel_rfl) (fun _ _ _ h => h) (Or.inl ⟨by rfl, ?_⟩) (by assumption) ?_; rotate_left
          · intro w hSw; (try dsimp only at hSw); go_simp; try with_reducible rfl
          try simp only [Act.put, setIfInBounds_toArray, set_cons_zero, set_cons_succ]
          refine wpAnyH_take (i := 1) (oi := ⟨some 28, _, _, _, _, _⟩) (v := ?_) rfl (by kernel_rfl) (by kernel_rfl) (by kernel_rfl) (fun _ _ _ h => h) (Or.inl ⟨by rfl, ?_⟩) (by assumption) ?_; rotate_left
          · intro w hSw; (try dsimp only at hSw); go_simp; try with_reducible rfl
          try simp only [Act.put, setIfInBounds_toArray, set_cons_zero, set_cons_succ]
          refine wpAnyH_take (i := 2) (oi := ⟨some 29, _, _, _, _, _⟩) (v := ?_) rfl (by kernel_rfl) (by kernel_rfl) (by kernel_rfl) (fun _ _ _ h => h) (Or.inl ⟨by rfl, ?_⟩) (by assumption) ?_; rotate_left
          · intro w hSw; (try dsimp only at hSw); go_simp; try with_reducible rfl
          try simp only [Act.put, setIfInBounds_toArray, set_cons_zero, set_cons_succ]
          refine wpAnyH_take (i := 3) (oi := ⟨some 30, _, _, _, _, _⟩) (v := ?_) rfl (by kernel_rfl) (by kernel_rfl) (by kernel_rfl) (fun _ _ _ h => h) (Or.inl ⟨by rfl, ?_⟩) (by assumption) ?_; rotate_left
          · intro w hSw; (try dsimp only at hSw); go_simp; try with_reducible rfl
          try simp only [Act.put, setIfInBounds_toArray, set_cons_zero, set_cons_succ]
          refine wpAnyH_take (i := 4) (oi := ⟨some 31, _, _, _, _, _⟩) (v := ?_) rfl (by kernel_rfl) (by kernel_rfl) (by kernel_rfl) (fun _ _ _ h => h) (Or.inl ⟨by rfl, ?_⟩) (by assumption) ?_; rotate_left
          · intro w hSw; (try dsimp only at hSw); go_simp; try with_reducible rfl
          try simp only [Act.put, setIfInBounds_toArray, set_cons_zero, set_cons_succ]
          refine wpAnyH_take (i := 5) (oi := ⟨some 32, _, _, _, _, _⟩) (v := .agg (secC s).toArray) rfl (by kernel_rfl) (by kernel_rfl) (by kernel_rfl) (fun _ _ _ h => h) (Or.inl ⟨by rfl, ?_⟩) (by assumption) ?_
          · (intro w hSw; (try dsimp only at hSw); exact run_load_sec _ rfl g0 0 rfl s hSw.2 HSO.out.1)
          try simp only [Act.put, setIfInBounds_toArray, set_cons_zero, set_cons_succ]
          refine wpAnyH_take (i := 6) (oi := ⟨some 33, _, _, _, _, _⟩) (v := ?_) rfl (by kernel_rfl) (by kernel_rfl) (by kernel_rfl) (fun _ _ _ h => h) (Or.inl ⟨by rfl, ?_⟩) (by assumption) ?_; rotate_left
          · intro w hSw; (try dsimp only at hSw); go_simp; try with_reducible rfl
          try simp only [Act.put, setIfInBounds_toArray, set_cons_zero, set_cons_succ]
          refine wpAnyH_ready (rs := [7]) (by kernel_rfl) (by simp) ?_
          refine AllReadyH.cons (o := ⟨none, _, _, _, _, _⟩) rfl (fun K hK => ?_) AllReadyH.nil
          go_simp
          rw [HMID.out]
          go_wp2_with fail
          refine hK.out _ _ ?_ (fun hHeld => ?_)
          · (try dsimp only); first | exact HF1.out | exact HF2.out
          clear hK K
          try simp only [Act.put]
          refine wpAnyH_done (by kernel_rfl) ?_ _
          clear HF1 HF2
          go_wp2_with fail
          go_roundw
          case rel =>
            refine ⟨rest.erase (i : Int), ds.set i s, ⟨HBLK3.out.keepL HK6.out (by simp only [List.mem_singleton]; exact HBLK3.out.ne HSP3.out (by decide)), ⟨sp, HB6.out⟩, HR3.out.keepL HK6.out (by simp only [List.mem_singleton]; exact fun e => HSP3.out.nemap HR3.out.mapL e.symm) (by simp only [List.mem_singleton]; have := HR.out bs (by simp [fpL]); omega), ?_, ?_, by rw [List.length_set, HC.out.len], fun q hq => ?_, fun q hq => ?_⟩⟩
            · have h1 := HC.out.plan.keepL HK3.out (fun a ha => by have := HR.out a.block (by rw [ha]; simp [fpL]); simp only [List.mem_singleton]; omega) (fun g C hg => by
                simp only [List.mem_singleton]
                obtain ⟨D2, lf, cnt, hrg, _⟩ := HC.out.rng
                obtain ⟨es, clock, since, seen, c0, _, _, _, _, a5, _⟩ := hrg
                rintro rfl
                unfold Bk at hg
                rw [hg] at a5
                cases a5)
              refine h1.keepL HK6.out (fun a ha => ?_) (fun g C hg => by simp only [List.mem_singleton]; exact hg.ne HSP3.out (by decide))
              obtain ⟨cs, hc⟩ := h1.bt a ha
              simp only [List.mem_singleton]
              exact hc.ne HSP3.out (by decide)
            · have h1 : KeepL (fpL D bs bm p1) w1 w3 := by
                have hk := HC.out.keep
                refine ⟨HK3.out.os.trans hk.os, HK3.out.tape.trans hk.tape, HK3.out.output.trans hk.output, Nat.le_trans hk.size HK3.out.size, fun q h1 h2 => ?_⟩
                rw [HK3.out.block q (Nat.lt_of_lt_of_le h1 hk.size) (by simp only [List.mem_singleton]; have := HRS.out; omega)]
                exact hk.block q h1 h2
              exact h1.trans (HK6.out.sub (by simp [fpL]))
            · rcases List.mem_or_eq_of_mem_set hq with hq | hq
              · exact HC.out.ok q hq
              · subst hq; exact HSO.out
            · have hnd := HC.out.rng.nodup
              have e := HC.out.eq q hq
              by_cases hqi : q = i
              · subst hqi
                unfold synL
                rw [if_neg (by rw [hnd.mem_erase_iff]; simp), HCS.out, Option.getD_some, List.getD_eq_getElem?_getD, List.getElem?_set_self (by rw [HC.out.len]; exact hq)]
                rfl
              · unfold synL at e ⊢
                have hm : ((q : Int) ∈ rest.erase (i : Int)) ↔ (q : Int) ∈ rest := by rw [hnd.mem_erase_iff]; exact ⟨fun h => h.2, fun h => ⟨by omega, h⟩⟩
                rw [List.getD_eq_getElem?_getD, List.getElem?_set_ne (by omega), ← List.getD_eq_getElem?_getD, e]
                by_cases hq2 : (q : Int) ∈ rest
                · rw [if_pos hq2, if_pos (hm.2 hq2)]
                · rw [if_neg hq2, if_neg (fun h => hq2 (hm.1 h))]
          case measure =>
            have h1 := HR3.out.mapL.lt; have h2 := HR3.out.lt
            rw [rangeLeft_of (HK6.out.block bm h1 (by simp only [List.mem_singleton]; exact fun e => HSP3.out.nemap HR3.out.mapL e.symm)) (HK6.out.block r h2 (by simp only [List.mem_singleton]; have := HR.out bs (by simp [fpL]); omega))]
            exact HLT3.out
end
end Go.Proofs.YtdgmjedkhjeadaaGreat
namespace Go.Proofs.YtdgmjedkhjeadaaGreat
open List (setIfInBounds_toArray set_cons_zero set_cons_succ)
open Go.RowKit
set_option linter.unusedVariables false
def keepOK (l : List Int) : Bool := l.all fun x => decide (0 ≤ x) && decide (x ≤ 64)
def Dk.planR (d : Dk) (a : Int) (l : List Int) : Int × Dk :=
  if d.down = true then (13, d) else if a < 0 then (3, d) else if 256 < l.length then (5, d) else if keepOK l = true then (0, { d with plan := some (a.toNat, l.map Int.toNat) }) else (3, d)
/-- A row of the call's own is a keep list. -/
theorem KpV.own {w : World} {B : Nat} {A : Option Addr} {c : Nat} {l : List Int} (h : w.ownsRow B 3 1 (.slice A l.length c) l.length (l.map (Value.int .i64))) (hp : ∀ x ∈ l, 0 ≤ x) : KpV w (.slice A l.length c) (l.map Int.toNat) := by
  refine ⟨A, c, by rw [List.length_map], fun hne => ?_⟩
  have h0 : 0 < l.length := by
    cases l with
    | nil => exact absurd rfl hne
    | cons a l => simp
  rcases h.2 with ⟨_, e⟩ | ⟨g, cap, cur, e, _, hb, h1, h2, h3, h4⟩
  · omega
  · injection e with e1 e2 e3
    refine ⟨g, cur, e1, hb, fun i hi => ?_⟩
    rw [List.length_map] at hi
    have h5 := congrArg (fun q => q[i]?) h4
    simp only [Nat.mul_one, List.getElem?_map] at h5
    rw [List.getElem?_take, if_pos hi, List.getElem?_eq_getElem hi, Array.getElem?_toList] at h5
    rw [h5]
    have := hp l[i] (List.getElem_mem hi)
    simp only [Option.map_some, List.getD_eq_getElem?_getD, List.getElem?_map, List.getElem?_eq_getElem hi, Option.getD_some]
    congr 2
    omega
section
variable {w : World} {D : Nat} {d : Dk} {bs bm cp : Nat} {p : Option Addr}
set_option maxRecDepth 100000 in
set_option maxHeartbeats 1000000 in
theorem plan_any (h : DkAt w D d bs bm cp p) (a : Int) (ha : a ≤ 9223372036854775807) (A : Option Addr) (n c : Nat) (l : List Int) (hn : n ≤ 1000000) (hr : Rd w w.heap.size 1 A n (l.map (Value.int .i64))) :
    Calls Tryz.prog 16 #[.pointer (some ⟨D, 0, none⟩), .int .i64 a, .slice A n c] w (DkR D bs bm cp p (d.planR a l) w) := by
  have HV := Lib.hid (dvalid_any h)
  have c3 := h.c3
  have H := Lib.hid h
  have hln : l.length = n := by have := hr.1; simpa using this
  cases hd : d.down with
  | true =>
    have HE : Hid (d.planR a l = (13, d)) := Lib.hid (by unfold Dk.planR; rw [if_pos hd])
    rw [hd] at c3
    clear h hr
    go_enter Tryz.func16, Tryz.ntmps16
    go_wp2_with fail
    refine HV.out.mono ?_
    rintro e w' ⟨rfl, rfl⟩
    go_wp2_with fail
    go_ret
    unfold DkR
    rw [HE.out]
    exact ⟨rfl, .refl H.out⟩
  | false =>
    rw [hd] at c3
    by_cases ha0 : a < 0
    · have HE : Hid (d.planR a l = (3, d)) := Lib.hid (by unfold Dk.planR; rw [if_neg (by rw [hd]; simp), if_pos ha0])
      clear h hr
      go_enter Tryz.func16, Tryz.ntmps16
      go_wp2_with fail
      refine HV.out.mono ?_
      rintro e w' ⟨rfl, rfl⟩
      go_wp2_with fail
      go_ret
      unfold DkR
      rw [HE.out]
      exact ⟨rfl, .refl H.out⟩
    · by_cases hl : 256 < n
      · have hli : (256 : Int) < (n : Int) := by omega
        have HE : Hid (d.planR a l = (5, d)) := Lib.hid (by unfold Dk.planR; rw [if_neg (by rw [hd]; simp), if_neg ha0, if_pos (by omega)])
        clear h hr
        go_enter Tryz.func16, Tryz.ntmps16
        go_wp2_with fail
        refine HV.out.mono ?_
        rintro e w' ⟨rfl, rfl⟩
        go_wp2_with fail
        go_ret
        unfold DkR
        rw [HE.out]
        exact ⟨rfl, .refl H.out⟩
      · have hli : ¬ (256 : Int) < (n : Int) := by omega
        have HE : Hid (d.planR a l = if keepOK l = true then (0, { d with plan := some (a.toNat, l.map Int.toNat) }) else (3, d)) := Lib.hid (by unfold Dk.planR; rw [if_neg (by rw [hd]; simp), if_neg ha0, if_neg (by omega)])
        have HR := Lib.hid hr
        have HLN := Lib.hid hln
        have hn256 : n ≤ 256 := by omega
        clear h hr hln
        go_enter Tryz.func16, Tryz.ntmps16
        go_wp2_with fail
        refine HV.out.mono ?_
        rintro e w' ⟨rfl, rfl⟩
        go_wp2_with fail
        go_loopw [8, 27] (fun _ v27 wr => ∃ j : Nat, j ≤ n ∧ v27 = .int .i64 (j : Nat) ∧ (∀ x ∈ l.take j, 0 ≤ x ∧ x ≤ 64) ∧ wr = w) (fun _ v27 _ => n - (intOf v27).toNat)
        case atStart => exact ⟨0, Nat.zero_le _, rfl, by simp, rfl⟩
        case round =>
          obtain ⟨j, hj, rfl, hok, rfl⟩ := hrel
          have HOK := Lib.hid hok
          clear hok
          by_cases hlt : j < n
          · have hji : (j : Int) < (n : Int) := by omega
            obtain ⟨b, off, rfl, hbl, hcell⟩ := HR.out.2 (by omega)
            have hjl : j < l.length := by rw [HLN.out]; exact hlt
            have cj := hcell j (.int .i64 l[j]) (by rw [List.getElem?_map, List.getElem?_eq_getElem hjl]; rfl)
            have htk : l.take (j + 1) = l.take j ++ [l[j]] := List.take_succ_eq_append_getElem hjl
            have hmem : l[j] ∈ l := List.getElem_mem hjl
            have HTK := Lib.hid htk; have HMEM := Lib.hid hmem
            generalize l[j] = x at cj HTK HMEM
            clear hcell hbl htk hmem hjl
            have hnok : ¬ (0 ≤ x ∧ x ≤ 64) → Hid (keepOK l = false) := fun hx => Lib.hid (by
              unfold keepOK
              rw [List.all_eq_false]
              exact ⟨x, HMEM.out, by simp; omega⟩)
            by_cases hx1 : x < 0
            · have HNO := hnok (by omega)
              have hb1 : decide (x < 0) = true := decide_eq_true hx1
              clear hnok
              go_wp2_with fail
              go_ret
              unfold DkR
              rw [HE.out, if_neg (by rw [HNO.out]; simp)]
              exact ⟨rfl, .refl H.out⟩
            · have hb1 : decide (x < 0) = false := decide_eq_false hx1
              by_cases hx2 : 64 < x
              · have HNO := hnok (by omega)
                have hb2 : decide (64 < x) = true := decide_eq_true hx2
                clear hnok
                go_wp2_with fail
                go_ret
                unfold DkR
                rw [HE.out, if_neg (by rw [HNO.out]; simp)]
                exact ⟨rfl, .refl H.out⟩
              · have hb2 : decide (64 < x) = false := decide_eq_false hx2
                clear hnok
                go_wp2_with fail
                go_roundw
                case rel => exact ⟨j + 1, by omega, by go_num, by rw [HTK.out]; intro y hy; rcases List.mem_append.1 hy with hy | hy; exact HOK.out y hy; (rw [List.mem_singleton] at hy; subst hy; omega), by first | rfl | trivial⟩
                case measure => simp [intOf]; omega
          · have hji : ¬ (j : Int) < (n : Int) := by omega
            have hall : ∀ x ∈ l, 0 ≤ x ∧ x ≤ 64 := by have := HOK.out; rwa [List.take_of_length_le (by rw [HLN.out]; omega)] at this
            have HALL := Lib.hid hall
            clear hall
            have HEK : Hid (keepOK l = true) := Lib.hid (by unfold keepOK; rw [List.all_eq_true]; intro x hx; have := HALL.out x hx; simp; omega)
            go_wp2_with fail
            refine (CloneI_any A n c l _ (by omega) HR.out).mono ?_
            rintro e w3 ⟨A', c', rfl, hnc, hown, hb⟩
            have HOWN := Lib.hid hown; have HB := Lib.hid hb
            have HD3 := Lib.hid (H.out.far hb)
            obtain ⟨w4, hw4⟩ : ∃ z, z = w3.alloc (.cells #[.int .i64 a, .slice A' n c'] 103) := ⟨_, rfl⟩
            have HB4 : Hid (Bk w4 w3.heap.size #[.int .i64 a, .slice A' n c'] 103 ∧ Below w3.heap.size w3 w4) := Lib.hid ⟨by rw [hw4]; exact Bk.new _ _ _, by rw [hw4]; exact balloc _ _⟩
            have HD4 := Lib.hid (HD3.out.far HB4.out.2)
            have HW4 := Lib.hid hw4
            have c2 := HD4.out.c2; have f2 := HD4.out.f 2
            rw [hw4] at c2 f2
            clear hown hb hw4 hnc
            go_wp2_with fail
            rw [← HW4.out]
            go_ret
            unfold DkR
            rw [HE.out, if_pos HEK.out]
            have hkp : KpV w4 (.slice A' n c') (l.map Int.toNat) := by
              have h1 := HOWN.out
              rw [← HLN.out] at h1 ⊢
              exact (KpV.own h1 (fun x hx => (HALL.out x hx).1)).far HB4.out.2
            have hpl : PlanAt w4 (some ⟨w3.heap.size, 0, none⟩) (some (a.toNat, l.map Int.toNat)) := ⟨w3.heap.size, _, rfl, by rw [show ((a.toNat : Nat) : Int) = a by omega]; exact HB4.out.1, hkp⟩
            obtain ⟨q1, q2⟩ := HD4.out.setPlan hpl (fun a' k' e => by
              cases e
              refine ⟨by rw [List.length_map, HLN.out]; omega, fun x hx => ?_, by omega⟩
              obtain ⟨y, hy, rfl⟩ := List.mem_map.1 hx
              have := HALL.out y hy
              omega)
            have hb4 := bnextK HB.out HB4.out.2
            exact ⟨rfl, ⟨_, q1, .inr (.inr ⟨_, rfl, HB.out.size⟩)⟩, (KeepL.of_below hb4).trans (q2.fpD _ _ _)⟩
end
end Go.Proofs.YtdgmjedkhjeadaaGreat
namespace Go.Proofs.YtdgmjedkhjeadaaGreat
open List (setIfInBounds_toArray set_cons_zero set_cons_succ)
open Go.RowKit
set_option linter.unusedVariables false
def NewDP (n : Int) (w : World) (e : Ending) (w' : World) : Prop :=
  ((n < 2 ∨ 256 < n) → e = .returned (.tuple #[.pointer none, .int .i64 3])) ∧
  (¬ (n < 2 ∨ 256 < n) → ∃ D bs bm, e = .returned (.tuple #[.pointer (some ⟨D, 0, none⟩), .int .i64 0]) ∧ DkAt w' D (Dk.new n.toNat) bs bm n.toNat none ∧ w.heap.size ≤ D ∧ w.heap.size ≤ bs ∧ w.heap.size ≤ bm) ∧ Below w.heap.size w w'
theorem madeCells_sec (n : Nat) : (madeCells (secV zeroSec).cells (n * 64)).toList = durC (List.replicate n zeroSec) := by
  have hz : (secV zeroSec).cells = Array.replicate 64 (.int .u8 0) := by
    rfl
  have h1 : (madeCells (secV zeroSec).cells (n * 64)).toList = List.replicate (n * 64) (.int .u8 0) := by
    rw [hz, List.eq_replicate_iff]
    refine ⟨by simp [madeCells], fun v hv => ?_⟩
    unfold madeCells at hv
    rw [Array.toList_map] at hv
    obtain ⟨i, _, rfl⟩ := List.mem_map.1 hv
    have : i % (Array.replicate 64 (Value.int .u8 0)).size < 64 := by rw [Array.size_replicate]; omega
    rw [getElem!_pos _ _ (by rw [Array.size_replicate]; exact this), Array.getElem_replicate]
  have h2 : ∀ n, durC (List.replicate n zeroSec) = List.replicate (n * 64) (.int .u8 0) := by
    intro n
    induction n with
    | zero => rfl
    | succ n ih =>
      rw [List.replicate_succ, durC_cons, ih, show (n + 1) * 64 = 64 + n * 64 by omega, ← List.replicate_append_replicate]
      congr 1
  rw [h1, h2]
theorem own_whole {w : World} {B n sz : Nat} {t : TypeId} {g : Nat} {xs : List Value} (h : w.ownsRow B t sz (.slice (some ⟨g, 0, none⟩) n n) n xs) : Bk w g xs.toArray t ∧ B ≤ g := by
  rcases h.2 with ⟨e, _⟩ | ⟨g', cap, cur, e, h1, h2, h3, h4, h5, h6⟩
  · cases e
  · injection e with e1 e2 e3
    injection e1 with e1
    injection e1 with e1
    subst e1; subst e3
    refine ⟨?_, h1⟩
    rw [List.take_of_length_le (by rw [Array.length_toList, h5]; exact Nat.le_refl _)] at h6
    rw [← h6]
    exact h2
set_option maxRecDepth 100000 in
set_option maxHeartbeats 1000000 in
theorem newDisk_any (n : Int) (w : World) : Calls Tryz.prog 10 #[.int .i64 n] w (NewDP n w) := by
  by_cases h1 : n < 2
  · have hb1 : decide (n < 2) = true := decide_eq_true h1
    go_enter Tryz.func10, Tryz.ntmps10
    go_wp2_with fail
    refine bodyPost_ret (a := Act.mk _ _) (results_tmp2 rfl _ _ _) rfl ?_
    exact ⟨fun _ => rfl, fun h => absurd (.inl h1) h, Below.refl _ _⟩
  · have hb1 : decide (n < 2) = false := decide_eq_false h1
    by_cases h2 : 256 < n
    · have hb2 : decide (256 < n) = true := decide_eq_true h2
      go_enter Tryz.func10, Tryz.ntmps10
      go_wp2_with fail
      refine bodyPost_ret (a := Act.mk _ _) (results_tmp2 rfl _ _ _) rfl ?_
      exact ⟨fun _ => rfl, fun h => absurd (.inr h2) h, Below.refl _ _⟩
    · have hb2 : decide (256 < n) = false := decide_eq_false h2
      obtain ⟨m, rfl⟩ : ∃ m : Nat, n = (m : Int) := ⟨n.toNat, by omega⟩
      have hm : 2 ≤ m ∧ m ≤ 256 := by omega
      have HM := Lib.hid hm
      obtain ⟨ii, hi1, hi2, hi3, hi4⟩ := info_parts (P := Tryz.prog) (e := 101) (z := secV zeroSec) (size := 64) (bytes := 64) (by kernel_rfl)
      have HI := Lib.hid (And.intro hi1 (And.intro hi2 (And.intro hi3 hi4)))
      have hmm := @run_makeMap Tryz.prog
      clear hi1 hi2 hi3 hi4 hm
      go_enter Tryz.func10, Tryz.ntmps10
      go_wp2_with (refine wpList_make_full w rfl _ _ 92 rfl w.heap.size 101 ii (secV zeroSec) 64 Tryz.underlying92 HI.out.1 HI.out.2.1 HI.out.2.2.1 .i64 .i64 _ _ m rfl rfl rfl rfl (by rw [HI.out.2.2.2]; have := HM.out; omega) (by have := HM.out; unfold maxLen; omega) (Nat.le_refl _) ?_; intro w1 hown1 hg1)
      rw [show m * 64 = m * 64 from rfl, madeCells_sec] at hown1
      obtain ⟨hb1, _⟩ := own_whole hown1
      have hbl := bgrown hg1
      obtain ⟨w2, hw2⟩ : ∃ z, z = w1.alloc (.map #[] 0) := ⟨_, rfl⟩
      have hm2 : MapL intK w2 w1.heap.size [] (fun _ => none) := by rw [hw2]; exact MapL.made intK w1
      have hb2' : Below w1.heap.size w1 w2 := by rw [hw2]; exact balloc _ _
      have hs2 : w2.heap.size = w1.heap.size + 1 := by rw [hw2, World.size_alloc]
      rw [← hw2, ← hs2]
      obtain ⟨w3, hw3⟩ : ∃ z, z = w2.alloc (.cells #[.slice (some ⟨w.heap.size, 0, none⟩) m m, .map (some w1.heap.size), .pointer none, .bool false, .int .i64 0] 96) := ⟨_, rfl⟩
      have hb3 : Bk w3 w2.heap.size #[.slice (some ⟨w.heap.size, 0, none⟩) m m, .map (some w1.heap.size), .pointer none, .bool false, .int .i64 0] 96 := by rw [hw3]; exact Bk.new _ _ _
      have hb3' : Below w2.heap.size w2 w3 := by rw [hw3]; exact balloc _ _
      rw [← hw3]
      refine bodyPost_ret (a := Act.mk _ _) (results_tmp2 rfl _ _ _) rfl ?_
      have hml := HM.out
      refine ⟨fun h => absurd h (by omega), fun _ => ⟨w2.heap.size, w.heap.size, w1.heap.size, rfl, ⟨DkOK.new _ (by omega) (by omega), ?_, ⟨[], ?_⟩, ⟨[], ?_⟩, rfl⟩, ?_, Nat.le_refl _, hbl.size⟩, bnextK (bnextK hbl hb2') hb3'⟩
      · rw [Int.toNat_natCast, show (Dk.new m).dur.length = m from List.length_replicate ..]
        exact hb3
      · rw [Int.toNat_natCast, List.append_nil]
        exact (hb1.past hb2' hb1.lt).past hb3' (Nat.lt_of_lt_of_le hb1.lt hb2'.size)
      · refine (hm2.keep (hb3'.block _ hm2.lt)).same fun x hx => ?_
        unfold cchF
        split
        · rw [show (Dk.new (m : Int).toNat).cch = List.replicate (m : Int).toNat none from rfl, List.getD_eq_getElem?_getD, List.getElem?_replicate]
          split <;> rfl
        · rfl
      · exact Nat.le_trans hbl.size hb2'.size
/-- The definition's disk, plainly. -/
structure Rk where
  new : List Sec
  kept : List Sec
  fresh : List Bool
  after : Int
  keep : List Nat
  down : Bool
  cr : Int
  op : Int
  wr : Int
/-- The definition's disk is as a disk. -/
structure RkIs (r : Rk) (d : Dk) : Prop where
  new : r.new = (List.range d.dur.length).map d.newest
  kept : r.kept = d.dur
  fresh : r.fresh = d.cch.map Option.isSome
  plan : match d.plan with | none => r.after = -1 | some (a, k) => r.after = (a : Int) ∧ r.keep = k
  down : r.down = d.down
structure RkOK (r : Rk) : Prop where
  n2 : 2 ≤ r.new.length
  n256 : r.new.length ≤ 256
  kl : r.kept.length = r.new.length
  fl : r.fresh.length = r.new.length
  new : ∀ s ∈ r.new, SecOK s
  kept : ∀ s ∈ r.kept, SecOK s
  keep : r.keep.length ≤ 256 ∧ ∀ x ∈ r.keep, x ≤ 64
  aft : -1 ≤ r.after ∧ r.after ≤ 9223372036854775807
/-- The first ones of a list, then those of another. -/
def mix {α : Type} (K l : List α) (i : Nat) : List α := K.take i ++ l.drop i
theorem mix_zero {α : Type} (K l : List α) : mix K l 0 = l := by simp [mix]
theorem mix_full {α : Type} (K l : List α) {i : Nat} (h : K.length = i) (h2 : l.length = i) : mix K l i = K := by simp [mix, ← h, List.take_length, List.drop_eq_nil_of_le (show l.length ≤ K.length by omega)]
theorem mix_length {α : Type} (K l : List α) {i : Nat} (h : K.length = l.length) (hi : i ≤ l.length) : (mix K l i).length = l.length := by simp [mix]; omega
theorem mix_get {α : Type} (K l : List α) {i : Nat} (h : K.length = l.length) (hi : i < l.length) : (mix K l i)[i]? = l[i]? := by
  unfold mix
  rw [List.getElem?_append_right (by simp; omega), List.getElem?_drop]
  congr 1
  simp; omega
theorem mix_set {α : Type} (K l : List α) {i : Nat} {x : α} (h : K.length = l.length) (hi : i < l.length) (hx : K[i]? = some x) : (mix K l i).set i x = mix K l (i + 1) := by
  apply List.ext_getElem?
  intro j
  rw [List.getElem?_set]
  unfold mix
  by_cases e : i = j
  · subst e
    rw [if_pos rfl, if_pos (by simp; omega), List.getElem?_append_left (by simp; omega), List.getElem?_take, if_pos (by omega), hx]
  · rw [if_neg e]
    rcases Nat.lt_or_ge j i with hj | hj
    · rw [List.getElem?_append_left (by simp; omega), List.getElem?_append_left (by simp; omega), List.getElem?_take, if_pos hj, List.getElem?_take, if_pos (by omega)]
    · rw [List.getElem?_append_right (by simp; omega), List.getElem?_append_right (by simp; omega), List.getElem?_drop, List.getElem?_drop]
      congr 1
      simp; omega
/-- The fresh ones among the first ones. -/
def frN (cs : List (Option Sec)) (i : Nat) : Nat := ((cs.take i).filter Option.isSome).length
theorem frN_le (cs : List (Option Sec)) (i : Nat) : frN cs i ≤ i := by
  unfold frN
  exact Nat.le_trans (List.length_filter_le _ _) (by simp; omega)
theorem frN_succ (cs : List (Option Sec)) {i : Nat} (h : i < cs.length) : frN cs (i + 1) = frN cs i + (if (cs.getD i none).isSome = true then 1 else 0) := by
  unfold frN
  rw [List.take_add_one, List.filter_append, List.length_append, List.getD_eq_getElem?_getD]
  rw [List.getElem?_eq_getElem h]
  cases e : cs[i] <;> simp
/-- What a crash keeps of a sector. -/
def keep1 (d : Sec) (c : Option Sec) (k : Nat) : Sec := match c with | none => d | some s => s.take k ++ d.drop k
theorem keepS_get : ∀ (ds : List Sec) (cs : List (Option Sec)) (ks : List Nat) (i : Nat), cs.length = ds.length → i < ds.length →
    (keepS ds cs ks)[i]? = some (keep1 (ds.getD i []) (cs.getD i none) (ks.getD (frN cs i) 0))
  | [], _, _, i, _, h => by simp at h
  | d :: ds, [], _, i, h, _ => by simp at h
  | d :: ds, none :: cs, ks, 0, h, hi => by simp [keepS, keep1]
  | d :: ds, none :: cs, ks, i + 1, h, hi => by
    have := keepS_get ds cs ks i (by simpa using h) (by simpa using hi)
    simp only [keepS, List.getElem?_cons_succ, this, List.getD_cons_succ]
    simp [frN]
  | d :: ds, some s :: cs, [], 0, h, hi => by simp [keepS, keep1]
  | d :: ds, some s :: cs, [], i + 1, h, hi => by
    have := keepS_get ds cs [] i (by simpa using h) (by simpa using hi)
    simp only [keepS, List.getElem?_cons_succ, this, List.getD_cons_succ]
    simp
  | d :: ds, some s :: cs, k :: ks, 0, h, hi => by simp [keepS, keep1, frN]
  | d :: ds, some s :: cs, k :: ks, i + 1, h, hi => by
    have := keepS_get ds cs ks i (by simpa using h) (by simpa using hi)
    simp only [keepS, List.getElem?_cons_succ, this, List.getD_cons_succ]
    simp [frN]
/-- A row of bytes, of a sector. -/
def BrV (w : World) (s : Sec) (v : Value) : Prop := ∃ g c sp, v = .slice (some ⟨g, 0, none⟩) 64 c ∧ 64 ≤ c ∧ c ≤ maxLen ∧ Bk w g (secC s ++ sp).toArray 5
theorem BrV.keepL {L : List Nat} {w w' : World} {s : Sec} {v : Value} (h : BrV w s v) (hk : KeepL L w w') (hi : ∀ g C, Bk w g C 5 → g ∉ L) : BrV w' s v := by
  obtain ⟨g, c, sp, h1, h2, h2', h3⟩ := h
  exact ⟨g, c, sp, h1, h2, h2', h3.keepL hk (hi _ _ h3)⟩
theorem BrV.far {w w' : World} {s : Sec} {v : Value} (h : BrV w s v) (hb : Below w.heap.size w w') : BrV w' s v := h.keepL (L := []) (.of_below hb) (fun _ _ _ => by simp)
/-- Sectors, each a row of bytes. -/
def SrV (w : World) (b : Nat) (ss : List Sec) : Prop := ∃ vs sp : List Value, Bk w b (vs ++ sp).toArray 31 ∧ vs.length = ss.length ∧ ∀ (i : Nat) (v : Value) (s : Sec), vs[i]? = some v → ss[i]? = some s → BrV w s v
theorem SrV.lt {w : World} {b : Nat} {ss : List Sec} (h : SrV w b ss) : b < w.heap.size := by obtain ⟨vs, sp, h, _⟩ := h; exact h.lt
theorem SrV.keepL {L : List Nat} {w w' : World} {b : Nat} {ss : List Sec} (h : SrV w b ss) (hk : KeepL L w w') (hb : b ∉ L) (hi : ∀ g C, Bk w g C 5 → g ∉ L) : SrV w' b ss := by
  obtain ⟨vs, sp, h1, h2, h3⟩ := h
  exact ⟨vs, sp, h1.keepL hk hb, h2, fun i v s e1 e2 => (h3 i v s e1 e2).keepL hk hi⟩
theorem SrV.set {w : World} {b : Nat} {ss : List Sec} (h : SrV w b ss) (i : Nat) {s : Sec} {v : Value} (hv : BrV w s v) : SrV (w.setCell ⟨b, i, none⟩ v) b (ss.set i s) := by
  obtain ⟨vs, sp, h1, h2, h3⟩ := h
  have hk : KeepL [b] w (w.setCell ⟨b, i, none⟩ v) := KeepL.set _ _ _ _
  have hn : ∀ g C, Bk w g C 5 → g ∉ [b] := fun g C hg hm => by rw [List.mem_singleton] at hm; exact hg.ne h1 (by decide) hm
  by_cases hi : i < vs.length
  · refine ⟨vs.set i v, sp, ?_, by simpa using h2, fun j u t e1 e2 => ?_⟩
    · have := h1.set i v
      rw [List.setIfInBounds_toArray, List.set_append_left _ _ hi] at this
      exact this
    · rw [List.getElem?_set] at e1 e2
      by_cases e : i = j
      · rw [if_pos e, if_pos hi] at e1
        rw [if_pos e, if_pos (by omega)] at e2
        cases e1; cases e2
        exact hv.keepL hk hn
      · rw [if_neg e] at e1 e2
        exact (h3 j u t e1 e2).keepL hk hn
  · refine ⟨vs, sp.set (i - vs.length) v, ?_, by simpa using h2, fun j u t e1 e2 => ?_⟩
    · have := h1.set i v
      rw [List.setIfInBounds_toArray, List.set_append_right _ _ (by omega)] at this
      exact this
    · rw [List.set_eq_of_length_le (by omega)] at e2
      exact (h3 j u t e1 e2).keepL hk hn
theorem SrV.cell {w : World} {b : Nat} {ss : List Sec} (h : SrV w b ss) {i : Nat} (hi : i < ss.length) : ∃ v, w.cell? ⟨b, i, none⟩ = some v ∧ BrV w (ss.getD i []) v := by
  obtain ⟨vs, sp, h1, h2, h3⟩ := h
  refine ⟨vs[i]'(by omega), ?_, h3 i _ _ (List.getElem?_eq_getElem (by omega)) (by rw [List.getD_eq_getElem?_getD, List.getElem?_eq_getElem hi]; rfl)⟩
  rw [h1.cell, List.getElem?_toArray, List.getElem?_append_left (by omega), List.getElem?_eq_getElem (by omega)]
/-- The definition's disk in memory. -/
structure RkAt (w : World) (R : Nat) (r : Rk) (bn bk bf cn ck cf : Nat) (kv : Value) : Prop where
  ok : RkOK r
  blk : Bk w R #[.slice (some ⟨bn, 0, none⟩) r.new.length cn, .slice (some ⟨bk, 0, none⟩) r.new.length ck, .slice (some ⟨bf, 0, none⟩) r.new.length cf, .int .i64 r.after, kv, .bool r.down, .int .i64 r.cr, .int .i64 r.op, .int .i64 r.wr] 110
  new : SrV w bn r.new
  kept : SrV w bk r.kept
  fr : ∃ sp : List Value, Bk w bf (r.fresh.map Value.bool ++ sp).toArray 4
  keep : KpV w kv r.keep
  ne : bn ≠ bk
theorem KpV.keepL {L : List Nat} {w w' : World} {v : Value} {k : List Nat} (h : KpV w v k) (hk : KeepL L w w') (hi : ∀ g C, Bk w g C 3 → g ∉ L) : KpV w' v k := by
  obtain ⟨A, c, h1, h2⟩ := h
  refine ⟨A, c, h1, fun hk' => ?_⟩
  obtain ⟨g, C, e1, e2, e3⟩ := h2 hk'
  exact ⟨g, C, e1, e2.keepL hk (hi _ _ e2), e3⟩
/-- The disk's blocks. -/
def fpR (R bn bk bf : Nat) : List Nat := [R, bn, bk, bf]
/-- A disk, as the definition's in memory. -/
def RdAt (w : World) (R : Nat) (d : Dk) (bn bk bf cn ck cf : Nat) : Prop := DkOK d ∧ ∃ r kv, RkIs r d ∧ RkAt w R r bn bk bf cn ck cf kv
def RdMut (w w' : World) (R bn bk bf cn ck cf : Nat) (d' : Dk) : Prop := RdAt w' R d' bn bk bf cn ck cf ∧ KeepL (fpR R bn bk bf) w w'
section
variable {w w' : World} {R : Nat} {r : Rk} {bn bk bf cn ck cf : Nat} {kv : Value}
theorem RkAt.keepL {L : List Nat} (h : RkAt w R r bn bk bf cn ck cf kv) (hk : KeepL L w w') (h1 : ∀ g C, Bk w g C 110 → g ∉ L) (h2 : ∀ g C, Bk w g C 31 → g ∉ L) (h3 : ∀ g C, Bk w g C 4 → g ∉ L) (h4 : ∀ g C, Bk w g C 5 → g ∉ L) (h5 : ∀ g C, Bk w g C 3 → g ∉ L) : RkAt w' R r bn bk bf cn ck cf kv := by
  obtain ⟨k1, k2, k3, k4, ⟨sp, k5⟩, k6, k7⟩ := h
  refine ⟨k1, k2.keepL hk (h1 _ _ k2), k3.keepL hk ?_ h4, k4.keepL hk ?_ h4, ⟨sp, k5.keepL hk (h3 _ _ k5)⟩, k6.keepL hk h5, k7⟩
  · obtain ⟨vs, sp, q, _⟩ := k3; exact h2 _ _ q
  · obtain ⟨vs, sp, q, _⟩ := k4; exact h2 _ _ q
theorem RkAt.far (h : RkAt w R r bn bk bf cn ck cf kv) (hb : Below w.heap.size w w') : RkAt w' R r bn bk bf cn ck cf kv := h.keepL (L := []) (.of_below hb) (fun _ _ _ => by simp) (fun _ _ _ => by simp) (fun _ _ _ => by simp) (fun _ _ _ => by simp) (fun _ _ _ => by simp)
theorem RkAt.cR (h : RkAt w R r bn bk bf cn ck cf kv) : w.cell? ⟨R, 0, none⟩ = some (.slice (some ⟨bn, 0, none⟩) r.new.length cn) ∧ w.cell? ⟨R, 1, none⟩ = some (.slice (some ⟨bk, 0, none⟩) r.new.length ck) ∧ w.cell? ⟨R, 2, none⟩ = some (.slice (some ⟨bf, 0, none⟩) r.new.length cf) ∧ w.cell? ⟨R, 3, none⟩ = some (.int .i64 r.after) ∧ w.cell? ⟨R, 4, none⟩ = some kv ∧ w.cell? ⟨R, 5, none⟩ = some (.bool r.down) ∧ w.cell? ⟨R, 6, none⟩ = some (.int .i64 r.cr) ∧ w.cell? ⟨R, 7, none⟩ = some (.int .i64 r.op) ∧ w.cell? ⟨R, 8, none⟩ = some (.int .i64 r.wr) := by
  refine ⟨?_, ?_, ?_, ?_, ?_, ?_, ?_, ?_, ?_⟩ <;> (rw [h.blk.cell]; rfl)
theorem RkAt.frz (h : RkAt w R r bn bk bf cn ck cf kv) (i : Nat) : w.frozen? ⟨R, i, none⟩ = false := h.blk.froz i
theorem RkAt.frzn (h : RkAt w R r bn bk bf cn ck cf kv) (i : Nat) : w.frozen? ⟨bn, i, none⟩ = false := by obtain ⟨vs, sp, q, _⟩ := h.new; exact q.froz i
theorem RkAt.frzk (h : RkAt w R r bn bk bf cn ck cf kv) (i : Nat) : w.frozen? ⟨bk, i, none⟩ = false := by obtain ⟨vs, sp, q, _⟩ := h.kept; exact q.froz i
theorem RkAt.frzf (h : RkAt w R r bn bk bf cn ck cf kv) (i : Nat) : w.frozen? ⟨bf, i, none⟩ = false := by obtain ⟨sp, q⟩ := h.fr; exact q.froz i
theorem RkAt.fcell (h : RkAt w R r bn bk bf cn ck cf kv) {i : Nat} (hi : i < r.new.length) : w.cell? ⟨bf, i, none⟩ = some (.bool (r.fresh.getD i false)) := by
  obtain ⟨sp, q⟩ := h.fr
  have := h.ok.fl
  rw [q.cell, List.getElem?_toArray, List.getElem?_append_left (by simp; omega), List.getElem?_map, List.getD_eq_getElem?_getD, List.getElem?_eq_getElem (by omega)]
  rfl
/-- A field of the disk is set. -/
theorem RkAt.field (h : RkAt w R r bn bk bf cn ck cf kv) (i : Nat) (u : Value) (r' : Rk) (kv' : Value) (ok : RkOK r') (e1 : r'.new = r.new) (e2 : r'.kept = r.kept) (e3 : r'.fresh = r.fresh) (hk : KpV w kv' r'.keep)
    (he : (#[.slice (some ⟨bn, 0, none⟩) r.new.length cn, .slice (some ⟨bk, 0, none⟩) r.new.length ck, .slice (some ⟨bf, 0, none⟩) r.new.length cf, .int .i64 r.after, kv, .bool r.down, .int .i64 r.cr, .int .i64 r.op, .int .i64 r.wr] : Array Value).setIfInBounds i u = #[.slice (some ⟨bn, 0, none⟩) r.new.length cn, .slice (some ⟨bk, 0, none⟩) r.new.length ck, .slice (some ⟨bf, 0, none⟩) r.new.length cf, .int .i64 r'.after, kv', .bool r'.down, .int .i64 r'.cr, .int .i64 r'.op, .int .i64 r'.wr]) :
    RkAt (w.setCell ⟨R, i, none⟩ u) R r' bn bk bf cn ck cf kv' := by
  have hq : KeepL [R] w (w.setCell ⟨R, i, none⟩ u) := KeepL.set _ _ _ _
  have hn : ∀ (t : TypeId), t ≠ 110 → ∀ g C, Bk w g C t → g ∉ [R] := fun t ht g C hg hm => by rw [List.mem_singleton] at hm; exact hg.ne h.blk ht hm
  obtain ⟨k1, k2, k3, k4, ⟨sp, k5⟩, k6, k7⟩ := h
  refine ⟨ok, ?_, ?_, ?_, ⟨sp, ?_⟩, hk.keepL hq (hn _ (by decide)), k7⟩
  · have := k2.set i u
    rw [he] at this
    rw [e1]; exact this
  · rw [e1]; refine k3.keepL hq ?_ (hn _ (by decide))
    obtain ⟨vs, sp, q, _⟩ := k3; exact hn _ (by decide) _ _ q
  · rw [e2]; refine k4.keepL hq ?_ (hn _ (by decide))
    obtain ⟨vs, sp, q, _⟩ := k4; exact hn _ (by decide) _ _ q
  · rw [e3]; exact k5.keepL hq (hn _ (by decide) _ _ k5)
theorem RkAt.setNew (h : RkAt w R r bn bk bf cn ck cf kv) (i : Nat) {s : Sec} {v : Value} (hv : BrV w s v) (hs : SecOK s) : RkAt (w.setCell ⟨bn, i, none⟩ v) R { r with new := r.new.set i s } bn bk bf cn ck cf kv := by
  have hq : KeepL [bn] w (w.setCell ⟨bn, i, none⟩ v) := KeepL.set _ _ _ _
  obtain ⟨⟨o1, o2, o3, o4, o5, o6, o7, o8⟩, k2, k3, k4, ⟨sp, k5⟩, k6, k7⟩ := h
  have hb : ∃ C, Bk w bn C 31 := by obtain ⟨vs, sp, q, _⟩ := k3; exact ⟨_, q⟩
  obtain ⟨C0, hb⟩ := hb
  have hn : ∀ (t : TypeId), t ≠ 31 → ∀ g C, Bk w g C t → g ∉ [bn] := fun t ht g C hg hm => by rw [List.mem_singleton] at hm; exact hg.ne hb ht hm
  refine ⟨⟨by simpa using o1, by simpa using o2, by simpa using o3, by simpa using o4, fun x hx => ?_, o6, o7, o8⟩, by rw [List.length_set]; exact k2.keepL hq (hn _ (by decide) _ _ k2), k3.set i hv, k4.keepL hq (by simpa using k7.symm) (hn _ (by decide)), ⟨sp, k5.keepL hq (hn _ (by decide) _ _ k5)⟩, k6.keepL hq (hn _ (by decide)), k7⟩
  rcases List.mem_or_eq_of_mem_set hx with hx | rfl
  · exact o5 _ hx
  · exact hs
theorem RkAt.setKept (h : RkAt w R r bn bk bf cn ck cf kv) (i : Nat) {s : Sec} {v : Value} (hv : BrV w s v) (hs : SecOK s) : RkAt (w.setCell ⟨bk, i, none⟩ v) R { r with kept := r.kept.set i s } bn bk bf cn ck cf kv := by
  have hq : KeepL [bk] w (w.setCell ⟨bk, i, none⟩ v) := KeepL.set _ _ _ _
  obtain ⟨⟨o1, o2, o3, o4, o5, o6, o7, o8⟩, k2, k3, k4, ⟨sp, k5⟩, k6, k7⟩ := h
  have hb : ∃ C, Bk w bk C 31 := by obtain ⟨vs, sp, q, _⟩ := k4; exact ⟨_, q⟩
  obtain ⟨C0, hb⟩ := hb
  have hn : ∀ (t : TypeId), t ≠ 31 → ∀ g C, Bk w g C t → g ∉ [bk] := fun t ht g C hg hm => by rw [List.mem_singleton] at hm; exact hg.ne hb ht hm
  refine ⟨⟨o1, o2, by simpa using o3, o4, o5, fun x hx => ?_, o7, o8⟩, k2.keepL hq (hn _ (by decide) _ _ k2), k3.keepL hq (by simpa using k7) (hn _ (by decide)), k4.set i hv, ⟨sp, k5.keepL hq (hn _ (by decide) _ _ k5)⟩, k6.keepL hq (hn _ (by decide)), k7⟩
  rcases List.mem_or_eq_of_mem_set hx with hx | rfl
  · exact o6 _ hx
  · exact hs
theorem RkAt.setFr (h : RkAt w R r bn bk bf cn ck cf kv) {i : Nat} (hi : i < r.new.length) (b : Bool) : RkAt (w.setCell ⟨bf, i, none⟩ (.bool b)) R { r with fresh := r.fresh.set i b } bn bk bf cn ck cf kv := by
  have hq : KeepL [bf] w (w.setCell ⟨bf, i, none⟩ (.bool b)) := KeepL.set _ _ _ _
  obtain ⟨⟨o1, o2, o3, o4, o5, o6, o7, o8⟩, k2, k3, k4, ⟨sp, k5⟩, k6, k7⟩ := h
  have hn : ∀ (t : TypeId), t ≠ 4 → ∀ g C, Bk w g C t → g ∉ [bf] := fun t ht g C hg hm => by rw [List.mem_singleton] at hm; exact hg.ne k5 ht hm
  refine ⟨⟨o1, o2, o3, by simpa using o4, o5, o6, o7, o8⟩, k2.keepL hq (hn _ (by decide) _ _ k2), k3.keepL hq ?_ (hn _ (by decide)), k4.keepL hq ?_ (hn _ (by decide)), ⟨sp, ?_⟩, k6.keepL hq (hn _ (by decide)), k7⟩
  · obtain ⟨vs, sp, q, _⟩ := k3; exact hn _ (by decide) _ _ q
  · obtain ⟨vs, sp, q, _⟩ := k4; exact hn _ (by decide) _ _ q
  · have := k5.set i (.bool b)
    rw [List.setIfInBounds_toArray, List.set_append_left _ _ (by simp; omega), ← List.map_set] at this
    exact this
theorem RkIs.ok {d : Dk} (h : RkIs r d) (hd : DkOK d) : r.new.length = d.dur.length ∧ (∀ i, i < d.dur.length → r.new.getD i [] = d.newest i ∧ r.fresh.getD i false = (d.cch.getD i none).isSome) := by
  refine ⟨by rw [h.new]; simp, fun i hi => ⟨?_, ?_⟩⟩
  · rw [h.new, List.getD_eq_getElem?_getD, List.getElem?_map, List.getElem?_range hi]; rfl
  · rw [h.fresh, List.getD_eq_getElem?_getD, List.getElem?_map, List.getD_eq_getElem?_getD, List.getElem?_eq_getElem (by rw [hd.len]; exact hi)]; rfl
end
end Go.Proofs.YtdgmjedkhjeadaaGreat
namespace Go.Proofs.YtdgmjedkhjeadaaGreat
open List (setIfInBounds_toArray set_cons_zero set_cons_succ)
open Go.RowKit
set_option linter.unusedVariables false
set_option maxRecDepth 100000 in
theorem rclone_any (A : Option Addr) (n c : Nat) (l : List Nat) (w : World) (hn : n ≤ 1048576) (h : Rd w w.heap.size 1 A n (l.map (fun x : Nat => Value.int .u8 x))) :
    Calls Tryz.prog 84 #[.slice A n c] w fun e w' => ∃ A' c', e = .returned (.slice A' n c') ∧ n ≤ c' ∧ w'.ownsRow w.heap.size 5 1 (.slice A' n c') n (l.map (fun x : Nat => Value.int .u8 x)) ∧ Below w.heap.size w w' := by
  have H := Lib.hid h; clear h
  obtain ⟨i0, hi0, hz0, hz1, hz2⟩ := info_parts infoB8
  have HI0 := Lib.hid hi0; have HZ0 := Lib.hid hz0; have HZ1 := Lib.hid hz1; have HZ2 := Lib.hid hz2
  clear hi0 hz0 hz1 hz2
  go_enter Tryz.func84, Tryz.ntmps84
  go_wp2_with (at_builtin; refine wpList_append_rd _ rfl (.tmp 3) (.tmp 4) _ rfl w.heap.size 5 i0 _ 1 1 Tryz.underlying31 HI0.out HZ0.out HZ1.out HZ2.out rfl (by decide) _ 0 [] rfl (World.ownsRow_made w #[] 0 (Nat.le_refl _) (by simp [maxLen]) (by simp)) _ A n c _ rfl (H.out.alloc (Nat.le_refl _) _) (by intro u hu; obtain ⟨_, _, rfl⟩ := List.mem_map.1 hu; rfl) (by unfold maxLen; omega) (by omega) (by simp) ?_; intro v1 w1 hown1 hg1)
  rw [Nat.zero_add, List.nil_append] at hown1
  obtain ⟨A', c', rfl, hc⟩ := own_form hown1
  go_ret
  exact ⟨A', c', rfl, hc, hown1, (((Below.refl _ _).alloc (Nat.le_refl _) _).grown hg1 (by simp) (fun g hg => by cases hg; exact Nat.le_refl _))⟩
theorem own_br {w : World} {base : Nat} {v : Value} {s : Sec} (h : w.ownsRow base 5 1 v 64 (secC s)) : BrV w s v := by
  rcases h.2 with ⟨_, h2⟩ | ⟨g, cap, cur, rfl, hg, hh, hcap, hm, _, htk⟩
  · omega
  · refine ⟨g, cap, cur.toList.drop (64 * 1), rfl, hcap, hm, ?_⟩
    rw [← htk, List.take_append_drop]
    exact hh
theorem BrV.rd {w : World} {s : Sec} {v : Value} (hs : SecOK s) (h : BrV w s v) : ∃ g c, v = .slice (some ⟨g, 0, none⟩) 64 c ∧ 64 ≤ c ∧ c ≤ maxLen ∧ Rd w w.heap.size 1 (some ⟨g, 0, none⟩) 64 (secC s) := by
  obtain ⟨g, c, sp, rfl, h1, h2, h3⟩ := h
  refine ⟨g, c, rfl, h1, h2, by rw [secC_length, hs.1], fun _ => ⟨g, 0, rfl, h3.lt, fun i u hu => ?_⟩⟩
  rw [Nat.zero_add, h3.cell, List.getElem?_toArray, List.getElem?_append_left (List.getElem?_eq_some_iff.1 hu).1, hu]
theorem rclone_sec {w : World} {s : Sec} {v : Value} (hs : SecOK s) (h : BrV w s v) : Calls Tryz.prog 84 #[v] w fun e w' => (∃ v', e = .returned v' ∧ BrV w' s v') ∧ Below w.heap.size w w' := by
  obtain ⟨g, c, rfl, h1, h2, h3⟩ := h.rd hs
  refine (rclone_any _ 64 c s w (by decide) h3).mono ?_
  rintro e w' ⟨A', c', rfl, _, h4, h5⟩
  exact ⟨⟨_, rfl, own_br h4⟩, h5⟩
/-- A call that answers a sector, or an error. -/
def RdR (z : Int) (s : Sec) (w : World) (e : Ending) (w' : World) : Prop :=
  (z = 0 → ∃ v, e = .returned (.tuple #[v, .int .i64 0]) ∧ BrV w' s v) ∧ (z ≠ 0 → e = .returned (.tuple #[.slice none 0 0, .int .i64 z])) ∧ Below w.heap.size w w'
section
variable {w : World} {R : Nat} {d : Dk} {bn bk bf cn ck cf : Nat}
theorem RdAt.far {w' : World} (h : RdAt w R d bn bk bf cn ck cf) (hb : Below w.heap.size w w') : RdAt w' R d bn bk bf cn ck cf := by
  obtain ⟨h0, r, kv, h1, h2⟩ := h
  exact ⟨h0, r, kv, h1, h2.far hb⟩
set_option maxRecDepth 100000 in
theorem rthere_any (h : RdAt w R d bn bk bf cn ck cf) (i : Int) : Calls Tryz.prog 87 #[.pointer (some ⟨R, 0, none⟩), .int .i64 i] w fun e w' => e = .returned (.bool (hasB i d.dur.length)) ∧ w = w' := by
  obtain ⟨h0, r, kv, h1, h2⟩ := h
  obtain ⟨c0, _⟩ := h2.cR
  rw [(h1.ok h0).1] at c0
  clear h0 h1 h2
  obtain ⟨z, hz⟩ : ∃ z, z = hasB i d.dur.length := ⟨_, rfl⟩
  rw [← hz]
  have HZ := Lib.hid hz
  clear hz
  by_cases g1 : 0 ≤ i
  · by_cases g2 : i < d.dur.length
    · have e1 : decide (0 ≤ i) = true := decide_eq_true g1
      have e2 : decide (i < (d.dur.length : Int)) = true := decide_eq_true g2
      go_enter Tryz.func87, Tryz.ntmps87
      go_wp2_with fail
      go_ret
      exact ⟨by rw [HZ.out]; unfold hasB; rw [e1, e2]; rfl, rfl⟩
    · have e1 : decide (0 ≤ i) = true := decide_eq_true g1
      have e2 : decide (i < (d.dur.length : Int)) = false := decide_eq_false g2
      go_enter Tryz.func87, Tryz.ntmps87
      go_wp2_with fail
      go_ret
      exact ⟨by rw [HZ.out]; unfold hasB; rw [e1, e2]; rfl, rfl⟩
  · have e1 : decide (0 ≤ i) = false := decide_eq_false g1
    go_enter Tryz.func87, Tryz.ntmps87
    go_wp2_with fail
    go_ret
    exact ⟨by rw [HZ.out]; unfold hasB; rw [e1]; rfl, rfl⟩
set_option maxRecDepth 100000 in
theorem rdurable_any (h : RdAt w R d bn bk bf cn ck cf) (i : Int) : Calls Tryz.prog 53 #[.pointer (some ⟨R, 0, none⟩), .int .i64 i] w (RdR (d.durZ i) (d.dur.getD i.toNat []) w) := by
  have hh := rthere_any h i
  by_cases hb : hasB i d.dur.length = true
  · rw [show d.durZ i = 0 by unfold Dk.durZ; rw [if_pos hb]]
    rw [hb] at hh
    have HH := Lib.hid hh
    obtain ⟨k, rfl, hk⟩ := hasB_nat hb
    obtain ⟨h0, r, kv, h1, h2⟩ := h
    have hso := h0.dur _ (show d.dur.getD k [] ∈ d.dur by rw [List.getD_eq_getElem?_getD, List.getElem?_eq_getElem hk]; exact List.getElem_mem hk)
    obtain ⟨v, hc, hv⟩ := h2.kept.cell (i := k) (by rw [h1.kept]; exact hk)
    rw [h1.kept] at hv
    rw [Int.toNat_natCast]
    have HC := Lib.hid (rclone_sec hso hv)
    obtain ⟨_, c1, _⟩ := h2.cR
    rw [(h1.ok h0).1] at c1
    have hii : 0 ≤ (k : Int) ∧ (k : Int) < (d.dur.length : Int) := by omega
    clear h0 h1 h2 hso hv hh hb hk
    generalize d.dur.getD k [] = N at *
    generalize d.dur.length = n at *
    go_enter Tryz.func53, Tryz.ntmps53
    go_wp2_with fail
    refine HH.out.mono ?_
    rintro e w' ⟨rfl, rfl⟩
    go_wp2_with fail
    refine HC.out.mono ?_
    rintro e w1 ⟨⟨v', rfl, hv'⟩, hb1⟩
    have HV' := Lib.hid hv'; have HB1 := Lib.hid hb1
    clear hv' hb1
    go_wp2_with fail
    refine bodyPost_ret (a := Act.mk _ _) (results_tmp2 rfl _ _ _) rfl ?_
    exact ⟨fun _ => ⟨_, rfl, HV'.out⟩, fun e => absurd rfl e, HB1.out⟩
  · rw [show d.durZ i = 3 by unfold Dk.durZ; rw [if_neg hb]]
    rw [Bool.not_eq_true] at hb
    rw [hb] at hh
    have HH := Lib.hid hh
    clear h hh hb
    go_enter Tryz.func53, Tryz.ntmps53
    go_wp2_with fail
    refine HH.out.mono ?_
    rintro e w' ⟨rfl, rfl⟩
    go_wp2_with fail
    refine bodyPost_ret (a := Act.mk _ _) (results_tmp2 rfl _ _ _) rfl ?_
    exact ⟨fun e => (by cases e), fun _ => rfl, Below.refl _ _⟩
set_option maxRecDepth 100000 in
theorem rread_any (h : RdAt w R d bn bk bf cn ck cf) (i : Int) : Calls Tryz.prog 50 #[.pointer (some ⟨R, 0, none⟩), .int .i64 i] w (RdR (d.readZ i) (d.newest i.toNat) w) := by
  have hh := rthere_any h i
  have c5 : w.cell? ⟨R, 5, none⟩ = some (.bool d.down) := by
    obtain ⟨h0, r, kv, h1, h2⟩ := h
    obtain ⟨_, _, _, _, _, c5, _⟩ := h2.cR
    rw [← h1.down]; exact c5
  cases hd : d.down with
  | true =>
    rw [show d.readZ i = 13 by unfold Dk.readZ; rw [if_pos hd]]
    rw [hd] at c5
    clear h hh
    go_enter Tryz.func50, Tryz.ntmps50
    go_wp2_with fail
    refine bodyPost_ret (a := Act.mk _ _) (results_tmp2 rfl _ _ _) rfl ?_
    exact ⟨fun e => (by cases e), fun _ => rfl, Below.refl _ _⟩
  | false =>
  rw [hd] at c5
  by_cases hb : hasB i d.dur.length = true
  · rw [show d.readZ i = 0 by unfold Dk.readZ; rw [if_neg (by rw [hd]; simp), if_pos hb]]
    rw [hb] at hh
    have HH := Lib.hid hh
    obtain ⟨k, rfl, hk⟩ := hasB_nat hb
    obtain ⟨h0, r, kv, h1, h2⟩ := h
    obtain ⟨v, hc, hv⟩ := h2.new.cell (i := k) (by rw [(h1.ok h0).1]; exact hk)
    have hso := h2.ok.new _ (show r.new.getD k [] ∈ r.new by rw [List.getD_eq_getElem?_getD, List.getElem?_eq_getElem (by rw [(h1.ok h0).1]; exact hk)]; exact List.getElem_mem (by rw [(h1.ok h0).1]; exact hk))
    rw [((h1.ok h0).2 k hk).1] at hv hso
    rw [Int.toNat_natCast]
    have HC := Lib.hid (rclone_sec hso hv)
    obtain ⟨c0, _⟩ := h2.cR
    rw [(h1.ok h0).1] at c0
    have hii : 0 ≤ (k : Int) ∧ (k : Int) < (d.dur.length : Int) := by omega
    clear h0 h1 h2 hso hv hh hb hk hd
    generalize d.newest k = N at *
    generalize d.dur.length = n at *
    go_enter Tryz.func50, Tryz.ntmps50
    go_wp2_with fail
    refine HH.out.mono ?_
    rintro e w' ⟨rfl, rfl⟩
    go_wp2_with fail
    refine HC.out.mono ?_
    rintro e w1 ⟨⟨v', rfl, hv'⟩, hb1⟩
    have HV' := Lib.hid hv'; have HB1 := Lib.hid hb1
    clear hv' hb1
    go_wp2_with fail
    refine bodyPost_ret (a := Act.mk _ _) (results_tmp2 rfl _ _ _) rfl ?_
    exact ⟨fun _ => ⟨_, rfl, HV'.out⟩, fun e => absurd rfl e, HB1.out⟩
  · rw [show d.readZ i = 3 by unfold Dk.readZ; rw [if_neg (by rw [hd]; simp), if_neg hb]]
    rw [Bool.not_eq_true] at hb
    rw [hb] at hh
    have HH := Lib.hid hh
    clear h hh hb hd
    go_enter Tryz.func50, Tryz.ntmps50
    go_wp2_with fail
    refine HH.out.mono ?_
    rintro e w' ⟨rfl, rfl⟩
    go_wp2_with fail
    refine bodyPost_ret (a := Act.mk _ _) (results_tmp2 rfl _ _ _) rfl ?_
    exact ⟨fun e => (by cases e), fun _ => rfl, Below.refl _ _⟩
end
end Go.Proofs.YtdgmjedkhjeadaaGreat
namespace Go.Proofs.YtdgmjedkhjeadaaGreat
open List (setIfInBounds_toArray set_cons_zero set_cons_succ)
open Go.RowKit
set_option linter.unusedVariables false
theorem infoSec : (Tryz.prog.info? 101).map (fun i => (i.zero, i.size, i.bytes)) = some (some (secV zeroSec), 64, 64) := by kernel_rfl
set_option maxRecDepth 100000 in
theorem CloneSec_any (a : Addr) (n c : Nat) (xs : List Value) (w : World) (hn : n ≤ 1000) (hx : ∀ u ∈ xs, u.oneCell' = true) (h : Rd w w.heap.size 64 (some a) n xs) :
    Calls Tryz.prog 44 #[.slice (some a) n c] w fun e w' => ∃ A' c', e = .returned (.slice A' n c') ∧ n ≤ c' ∧ w'.ownsRow w.heap.size 101 64 (.slice A' n c') n xs ∧ Below w.heap.size w w' := by
  have H := Lib.hid h; clear h
  obtain ⟨i0, hi0, hz0, hz1, hz2⟩ := info_parts infoSec
  have HI0 := Lib.hid hi0; have HZ0 := Lib.hid hz0; have HZ1 := Lib.hid hz1; have HZ2 := Lib.hid hz2
  clear hi0 hz0 hz1 hz2
  have q : ∀ (w : World) (a : Option Addr) (n c n' c' : Nat), (binOp .eql 92 (.slice a n c) (.slice none n' c')).run Tryz.prog w = .ok (.bool a.isNone) w := fun w a n c n' c' => Lib.run_eql_slice_nil w _ _ a n c n' c' Tryz.underlying92
  go_enter Tryz.func44, Tryz.ntmps44
  go_wp2_with (at_builtin; refine wpList_append_rd _ rfl (.tmp 5) (.tmp 6) _ rfl w.heap.size 101 i0 _ 64 64 Tryz.underlying92 HI0.out HZ0.out HZ1.out HZ2.out rfl (by decide) _ 0 [] rfl (World.ownsRow_made w #[] 0 (Nat.le_refl _) (by simp [maxLen]) (by simp)) _ (some a) n c _ rfl (H.out.alloc (Nat.le_refl _) _) hx (by unfold maxLen; omega) (by omega) (by simp) ?_; intro v1 w1 hown1 hg1)
  rw [Nat.zero_add, List.nil_append] at hown1
  obtain ⟨A', c', rfl, hc⟩ := own_form hown1
  go_ret
  exact ⟨A', c', rfl, hc, hown1, (((Below.refl _ _).alloc (Nat.le_refl _) _).grown hg1 (by simp) (fun g hg => by cases hg; exact Nat.le_refl _))⟩
/-- As DkR; and either nothing is changed, or the plan is new, with a row of its own. -/
def PlN (D bs bm cp : Nat) (p : Option Addr) (a : Int) (r : Int × Dk) (d : Dk) (w : World) (e : Ending) (w' : World) : Prop :=
  DkR D bs bm cp p r w e w' ∧ ((w' = w ∧ r.2 = d) ∨ ∃ bp A' n c', DkAt w' D r.2 bs bm cp (some ⟨bp, 0, none⟩) ∧ (w.heap.size ≤ bp ∧ Bk w' bp #[.int .i64 a, .slice A' n c'] 103) ∧ ∀ k, (Value.slice A' n c').ownBlock = some k → w.heap.size ≤ k)
section
variable {w : World} {D : Nat} {d : Dk} {bs bm cp : Nat} {p : Option Addr}
set_option maxRecDepth 100000 in
set_option maxHeartbeats 1000000 in
theorem planN_any (h : DkAt w D d bs bm cp p) (a : Int) (ha : a ≤ 9223372036854775807) (A : Option Addr) (n c : Nat) (l : List Int) (hn : n ≤ 1000000) (hr : Rd w w.heap.size 1 A n (l.map (Value.int .i64))) :
    Calls Tryz.prog 16 #[.pointer (some ⟨D, 0, none⟩), .int .i64 a, .slice A n c] w (PlN D bs bm cp p a (d.planR a l) d w) := by
  have HV := Lib.hid (dvalid_any h)
  have c3 := h.c3
  have H := Lib.hid h
  have hln : l.length = n := by have := hr.1; simpa using this
  cases hd : d.down with
  | true =>
    have HE : Hid (d.planR a l = (13, d)) := Lib.hid (by unfold Dk.planR; rw [if_pos hd])
    rw [hd] at c3
    clear h hr
    go_enter Tryz.func16, Tryz.ntmps16
    go_wp2_with fail
    refine HV.out.mono ?_
    rintro e w' ⟨rfl, rfl⟩
    go_wp2_with fail
    go_ret
    unfold PlN DkR
    rw [HE.out]
    exact ⟨⟨rfl, .refl H.out⟩, .inl ⟨rfl, rfl⟩⟩
  | false =>
    rw [hd] at c3
    by_cases ha0 : a < 0
    · have HE : Hid (d.planR a l = (3, d)) := Lib.hid (by unfold Dk.planR; rw [if_neg (by rw [hd]; simp), if_pos ha0])
      clear h hr
      go_enter Tryz.func16, Tryz.ntmps16
      go_wp2_with fail
      refine HV.out.mono ?_
      rintro e w' ⟨rfl, rfl⟩
      go_wp2_with fail
      go_ret
      unfold PlN DkR
      rw [HE.out]
      exact ⟨⟨rfl, .refl H.out⟩, .inl ⟨rfl, rfl⟩⟩
    · by_cases hl : 256 < n
      · have hli : (256 : Int) < (n : Int) := by omega
        have HE : Hid (d.planR a l = (5, d)) := Lib.hid (by unfold Dk.planR; rw [if_neg (by rw [hd]; simp), if_neg ha0, if_pos (by omega)])
        clear h hr
        go_enter Tryz.func16, Tryz.ntmps16
        go_wp2_with fail
        refine HV.out.mono ?_
        rintro e w' ⟨rfl, rfl⟩
        go_wp2_with fail
        go_ret
        unfold PlN DkR
        rw [HE.out]
        exact ⟨⟨rfl, .refl H.out⟩, .inl ⟨rfl, rfl⟩⟩
      · have hli : ¬ (256 : Int) < (n : Int) := by omega
        have HE : Hid (d.planR a l = if keepOK l = true then (0, { d with plan := some (a.toNat, l.map Int.toNat) }) else (3, d)) := Lib.hid (by unfold Dk.planR; rw [if_neg (by rw [hd]; simp), if_neg ha0, if_neg (by omega)])
        have HR := Lib.hid hr
        have HLN := Lib.hid hln
        have hn256 : n ≤ 256 := by omega
        clear h hr hln
        go_enter Tryz.func16, Tryz.ntmps16
        go_wp2_with fail
        refine HV.out.mono ?_
        rintro e w' ⟨rfl, rfl⟩
        go_wp2_with fail
        go_loopw [8, 27] (fun _ v27 wr => ∃ j : Nat, j ≤ n ∧ v27 = .int .i64 (j : Nat) ∧ (∀ x ∈ l.take j, 0 ≤ x ∧ x ≤ 64) ∧ wr = w) (fun _ v27 _ => n - (intOf v27).toNat)
        case atStart => exact ⟨0, Nat.zero_le _, rfl, by simp, rfl⟩
        case round =>
          obtain ⟨j, hj, rfl, hok, rfl⟩ := hrel
          have HOK := Lib.hid hok
          clear hok
          by_cases hlt : j < n
          · have hji : (j : Int) < (n : Int) := by omega
            obtain ⟨b, off, rfl, hbl, hcell⟩ := HR.out.2 (by omega)
            have hjl : j < l.length := by rw [HLN.out]; exact hlt
            have cj := hcell j (.int .i64 l[j]) (by rw [List.getElem?_map, List.getElem?_eq_getElem hjl]; rfl)
            have htk : l.take (j + 1) = l.take j ++ [l[j]] := List.take_succ_eq_append_getElem hjl
            have hmem : l[j] ∈ l := List.getElem_mem hjl
            have HTK := Lib.hid htk; have HMEM := Lib.hid hmem
            generalize l[j] = x at cj HTK HMEM
            clear hcell hbl htk hmem hjl
            have hnok : ¬ (0 ≤ x ∧ x ≤ 64) → Hid (keepOK l = false) := fun hx => Lib.hid (by
              unfold keepOK
              rw [List.all_eq_false]
              exact ⟨x, HMEM.out, by simp; omega⟩)
            by_cases hx1 : x < 0
            · have HNO := hnok (by omega)
              have hb1 : decide (x < 0) = true := decide_eq_true hx1
              clear hnok
              go_wp2_with fail
              go_ret
              unfold PlN DkR
              rw [HE.out, if_neg (by rw [HNO.out]; simp)]
              exact ⟨⟨rfl, .refl H.out⟩, .inl ⟨rfl, rfl⟩⟩
            · have hb1 : decide (x < 0) = false := decide_eq_false hx1
              by_cases hx2 : 64 < x
              · have HNO := hnok (by omega)
                have hb2 : decide (64 < x) = true := decide_eq_true hx2
                clear hnok
                go_wp2_with fail
                go_ret
                unfold PlN DkR
                rw [HE.out, if_neg (by rw [HNO.out]; simp)]
                exact ⟨⟨rfl, .refl H.out⟩, .inl ⟨rfl, rfl⟩⟩
              · have hb2 : decide (64 < x) = false := decide_eq_false hx2
                clear hnok
                go_wp2_with fail
                go_roundw
                case rel => exact ⟨j + 1, by omega, by go_num, by rw [HTK.out]; intro y hy; rcases List.mem_append.1 hy with hy | hy; exact HOK.out y hy; (rw [List.mem_singleton] at hy; subst hy; omega), by first | rfl | trivial⟩
                case measure => simp [intOf]; omega
          · have hji : ¬ (j : Int) < (n : Int) := by omega
            have hall : ∀ x ∈ l, 0 ≤ x ∧ x ≤ 64 := by have := HOK.out; rwa [List.take_of_length_le (by rw [HLN.out]; omega)] at this
            have HALL := Lib.hid hall
            clear hall
            have HEK : Hid (keepOK l = true) := Lib.hid (by unfold keepOK; rw [List.all_eq_true]; intro x hx; have := HALL.out x hx; simp; omega)
            go_wp2_with fail
            refine (CloneI_any A n c l _ (by omega) HR.out).mono ?_
            rintro e w3 ⟨A', c', rfl, hnc, hown, hb⟩
            have HOWN := Lib.hid hown; have HB := Lib.hid hb
            have HD3 := Lib.hid (H.out.far hb)
            obtain ⟨w4, hw4⟩ : ∃ z, z = w3.alloc (.cells #[.int .i64 a, .slice A' n c'] 103) := ⟨_, rfl⟩
            have HB4 : Hid (Bk w4 w3.heap.size #[.int .i64 a, .slice A' n c'] 103 ∧ Below w3.heap.size w3 w4) := Lib.hid ⟨by rw [hw4]; exact Bk.new _ _ _, by rw [hw4]; exact balloc _ _⟩
            have HD4 := Lib.hid (HD3.out.far HB4.out.2)
            have HW4 := Lib.hid hw4
            have c2 := HD4.out.c2; have f2 := HD4.out.f 2
            rw [hw4] at c2 f2
            clear hown hb hw4 hnc
            go_wp2_with fail
            rw [← HW4.out]
            go_ret
            unfold PlN DkR
            rw [HE.out, if_pos HEK.out]
            have hkp : KpV w4 (.slice A' n c') (l.map Int.toNat) := by
              have h1 := HOWN.out
              rw [← HLN.out] at h1 ⊢
              exact (KpV.own h1 (fun x hx => (HALL.out x hx).1)).far HB4.out.2
            have hpl : PlanAt w4 (some ⟨w3.heap.size, 0, none⟩) (some (a.toNat, l.map Int.toNat)) := ⟨w3.heap.size, _, rfl, by rw [show ((a.toNat : Nat) : Int) = a by omega]; exact HB4.out.1, hkp⟩
            obtain ⟨q1, q2⟩ := HD4.out.setPlan hpl (fun a' k' e => by
              cases e
              refine ⟨by rw [List.length_map, HLN.out]; omega, fun x hx => ?_, by omega⟩
              obtain ⟨y, hy, rfl⟩ := List.mem_map.1 hx
              have := HALL.out y hy
              omega)
            have hb4 := bnextK HB.out HB4.out.2
            have hbk : Bk (w4.setCell ⟨D, 2, none⟩ (.pointer (some ⟨w3.heap.size, 0, none⟩))) w3.heap.size #[.int .i64 a, .slice A' n c'] 103 := HB4.out.1.keepL (KeepL.set _ _ _ _) (by
              rw [List.mem_singleton]
              exact HB4.out.1.ne HD4.out.blk (by decide))
            exact ⟨⟨rfl, ⟨_, q1, .inr (.inr ⟨_, rfl, HB.out.size⟩)⟩, (KeepL.of_below hb4).trans (q2.fpD _ _ _)⟩, .inr ⟨w3.heap.size, A', n, c', q1, ⟨HB.out.size, hbk⟩, fun k hk => (HOWN.out.lt k hk).1⟩⟩
end
end Go.Proofs.YtdgmjedkhjeadaaGreat
namespace Go.Proofs.YtdgmjedkhjeadaaGreat
open List (setIfInBounds_toArray set_cons_zero set_cons_succ)
open Go.RowKit
set_option linter.unusedVariables false
section
variable {w : World} {D : Nat} {d : Dk} {bs bm cp : Nat} {p : Option Addr}
set_option maxRecDepth 100000 in
set_option maxHeartbeats 1000000 in
theorem write_free (h : DkAt w D d bs bm cp p) (ha : 0 ≤ d.age ∧ d.age < 4611686018427387903) (i : Int) (A : Option Addr) (n c : Nat) (l : List Nat) (hb : ∀ x ∈ l, x < 256) (hnc : n ≤ c) (hr : Rd w w.heap.size 1 A n (l.map fun x : Nat => Value.int .u8 x)) :
    Calls Tryz.prog 14 #[.pointer (some ⟨D, 0, none⟩), .int .i64 i, .slice A n c] w (DkR D bs bm cp p (d.write i l) w) := by
  have HV := Lib.hid (dvalid_any h)
  have hh := dhas_any h i
  have c3 := h.c3
  have H := Lib.hid h
  have hln : l.length = n := by have := hr.1; simpa using this
  cases hd : d.down with
  | true =>
    have HE : Hid (d.write i l = (13, d)) := Lib.hid (by unfold Dk.write; rw [if_pos hd])
    rw [hd] at c3
    clear h hh hr
    go_enter Tryz.func14, Tryz.ntmps14
    go_wp2_with fail
    refine HV.out.mono ?_
    rintro e w' ⟨rfl, rfl⟩
    go_wp2_with fail
    go_ret
    unfold DkR
    rw [HE.out]
    exact ⟨rfl, .refl H.out⟩
  | false =>
    rw [hd] at c3
    by_cases hb2 : hasB i d.dur.length = true
    · rw [hb2] at hh
      have HH := Lib.hid hh
      by_cases hl : l.length = 64
      · have hn64 : n = 64 := by omega
        subst hn64
        obtain ⟨k, rfl, hk⟩ := hasB_nat hb2
        obtain ⟨b, off, rfl, hbl, hcell⟩ := hr.2 (by omega)
        have hso : SecOK l := ⟨hl, hb⟩
        have HE : Hid (d.write (k : Int) l = (if (Dk.put { d with age := d.age + 1 } k l).1 = true then 13 else 0, (Dk.put { d with age := d.age + 1 } k l).2)) := Lib.hid (by
          unfold Dk.write
          rw [if_neg (by rw [hd]; simp), if_pos hb2, if_pos hl, Int.toNat_natCast])
        have HR : Hid (w.rangeAt b off (secC l)) := Lib.hid fun j v hv => hcell j v hv
        have hbD : b ≠ D := by
          rintro rfl
          have e := hcell 0 (.int .u8 (l.getD 0 0 : Nat)) (by rw [List.getElem?_map, List.getD_eq_getElem?_getD, List.getElem?_eq_getElem (by omega)]; rfl)
          rw [h.blk.cell] at e
          rcases off with _ | _ | _ | _ | _ | off <;> simp at e
        have hm := h.setAge (d.age + 1)
        obtain ⟨w1, hw1⟩ : ∃ z, z = w.setCell ⟨D, 4, none⟩ (.int .i64 (d.age + 1)) := ⟨_, rfl⟩
        have hk1 : KeepL [D] w w1 := by rw [hw1]; exact KeepL.set _ _ _ _
        have HR1 : Hid (w1.rangeAt b off (secC l)) := Lib.hid fun j v hv => by rw [hk1.cell hbl (by simpa using hbD)]; exact HR.out j v hv
        rw [← hw1] at hm
        have HW1 := Lib.hid hw1; have HM := Lib.hid hm
        have c4 := h.c4; have f4 := h.f 4
        have hwa : IntKind.i64.wrap (d.age + 1) = d.age + 1 := by simp [IntKind.wrap, IntKind.bits, IntKind.signed]; omega
        have HSO := Lib.hid hso; have HK := Lib.hid hk; have HA := Lib.hid ha
        clear h hh hr hb2 hcell hbl hbD hk1 hw1 hm hso hk hnc hln
        go_enter Tryz.func14, Tryz.ntmps14
        go_wp2_with fail
        refine HV.out.mono ?_
        rintro e w' ⟨rfl, rfl⟩
        go_wp2_with fail
        refine HH.out.mono ?_
        rintro e w' ⟨rfl, rfl⟩
        have har : ∀ w, (Instr.arrayAt 100 (.slice (some ⟨b, off, none⟩) 64 c)).run Tryz.prog w = .ok (.pointer (some ⟨b, off, none⟩)) w := fun w => by kernel_rfl
        have HLN : Hid ((Tryz.prog.info? 100).map (·.size) = some (secC l).length) := Lib.hid (by rw [secC_length, hl]; kernel_rfl)
        go_upto_region 10 with fail
        rw [← HW1.out]
        go_wp2_with (refine wpList_load_mid rfl _ _ rfl b off rfl (secC l) _ HR1.out Tryz.underlying100 rfl HLN.out ?_)
        obtain ⟨⟨p1, hd1, hp1⟩, hk1⟩ := HM.out
        have HD1 := Lib.hid hd1; have HP1 := Lib.hid hp1; have HK1 := Lib.hid hk1
        clear hd1 hp1 hk1
        refine (put_any HD1.out (by have := HA.out; exact ⟨by show 0 ≤ d.age + 1; omega, by show d.age + 1 < _; omega⟩) HK.out HSO.out).mono ?_
        rintro e w3 ⟨he, hm3⟩
        have HM3 := Lib.hid hm3
        obtain ⟨z, hz⟩ : ∃ z : Int, z = (if (Dk.put { d with age := d.age + 1 } k l).1 = true then 13 else 0) := ⟨_, rfl⟩
        rw [← hz] at he HE
        subst he
        clear hm3 hz
        go_wp2_with fail
        go_ret
        unfold DkR
        rw [HE.out]
        exact ⟨rfl, DkMut.trans HP1.out HK1.out HM3.out⟩
      · have hln2 : ((n : Int) != 64) = true := by simp; omega
        have HE : Hid (d.write i l = (6, d)) := Lib.hid (by unfold Dk.write; rw [if_neg (by rw [hd]; simp), if_pos hb2, if_neg hl])
        clear h hh hr hb2
        go_enter Tryz.func14, Tryz.ntmps14
        go_wp2_with fail
        refine HV.out.mono ?_
        rintro e w' ⟨rfl, rfl⟩
        go_wp2_with fail
        refine HH.out.mono ?_
        rintro e w' ⟨rfl, rfl⟩
        go_wp2_with fail
        go_ret
        unfold DkR
        rw [HE.out]
        exact ⟨rfl, .refl H.out⟩
    · have HE : Hid (d.write i l = (3, d)) := Lib.hid (by unfold Dk.write; rw [if_neg (by rw [hd]; simp), if_neg hb2])
      rw [Bool.not_eq_true] at hb2
      rw [hb2] at hh
      have HH := Lib.hid hh
      clear h hh hr hb2
      go_enter Tryz.func14, Tryz.ntmps14
      go_wp2_with fail
      refine HV.out.mono ?_
      rintro e w' ⟨rfl, rfl⟩
      go_wp2_with fail
      refine HH.out.mono ?_
      rintro e w' ⟨rfl, rfl⟩
      go_wp2_with fail
      go_ret
      unfold DkR
      rw [HE.out]
      exact ⟨rfl, .refl H.out⟩
end
end Go.Proofs.YtdgmjedkhjeadaaGreat
