/- The contracts of maps.Clone, slices.Clone, and of what a machine tells. Conditions: as each statement says. -/
import Derived.Test.YtoofnkkbebjldaaRcReplay
import Derived.Test.YtoofnkkbebjldaaRecNewA
import Derived.Laws.Externs
import Derived.MapKept
import Derived.Deep.WholeRow
namespace Go.Proofs.Ytoofnkkbebjldaa
open Go.RowKit
set_option linter.unusedVariables false
section
variable {P : Program} (w : World)
theorem mc_equalIn (d : Nat) (t k e : TypeId) (p : Option Nat) (h : P.underlying t = some (.map k e)) : (Op.equalIn (d + 1) t (.map p) (.map none)).run P w = .ok p.isNone w := by
  cases p <;> simp [Op.equalIn, run_underlying h]
theorem mc_eql (t k e : TypeId) (p : Option Nat) (h : P.underlying t = some (.map k e)) : (binOp .eql t (.map p) (.map none)).run P w = .ok (.bool p.isNone) w := by
  simp only [binOp]
  simp [show Op.equal t (.map p) (.map none) = Op.equalIn (9999 + 1) t (.map p) (.map none) from rfl, mc_equalIn w 9999 t k e p h]
theorem mc_assert (t xT k e : TypeId) (v : Value) (h : P.underlying t = some (.map k e)) : (Instr.typeAssert (.iface t v) xT t false).run P w = .ok v w := by
  simp [Instr.typeAssert, run_underlying h, go_sem, Result.andThen]
theorem mc_clone {r : Nat} {es : Array MapEntry} {clock : Nat} (t : TypeId) (hb : w.heap[r]? = some (.map es clock)) :
    (Extern.MapsClone.clone #[.iface t (.map (some r))]).run P w = .ok (.iface t (.map (some w.heap.size))) (w.alloc (.map es clock)) := by
  have e : Extern.MapsClone.clone #[.iface t (.map (some r))] = (getObj r >>= fun o => match o with
      | .map entries clock => (newObj (.map entries clock) >>= fun n => pure (.iface t (.map (some n))))
      | _ => stuck "maps.clone: a map expected") := rfl
  rw [e]
  simp [MapKept.run_getObj_map hb, Result.andThen, go_sem]
end
set_option maxRecDepth 100000 in
set_option maxHeartbeats 2000000 in
theorem mclone_any (km : Nat) (l : List (Qn × Bool)) (w : World) (h : KnAt w km l) :
    Calls Try.prog 58 #[.map (some km)] w fun e w' => e = .returned (.map (some w.heap.size)) ∧ KnAt w' w.heap.size l ∧ Below w.heap.size w w' ∧ w'.heap.size = w.heap.size + 1 := by
  have hq := fun w => mc_eql (P := Try.prog) w 77 _ _ (some km) Try.underlying77
  obtain ⟨n, D, hn, ⟨es, clock, hb, F, hs, hD⟩, hm, hQ⟩ := h
  have HB := Lib.hid hb; have HF := Lib.hid F; have HS := Lib.hid hs; have HD := Lib.hid hD; have HM := Lib.hid hm; have HQ := Lib.hid hQ
  clear hb F hs hD hm hQ
  go_enter Try.func58, Try.ntmps58
  go_wp2
  rw [run_callFunc_extern Try.func73 (by kernel_rfl) (by kernel_rfl) (by kernel_rfl) (e := Extern.MapsClone.clone) (by kernel_rfl), mc_clone w 77 HB.out]
  simp only [Result.andThen]
  rw [Oper.upon_value]
  go_wp2
  rw [mc_assert _ 77 _ _ _ _ Try.underlying77]
  simp only [Result.andThen]
  rw [Oper.upon_value]
  go_wp2
  go_ret
  exact ⟨rfl, ⟨n, D, hn, ⟨es, clock, (MapKept.heap_alloc w _).1, HF.out, HS.out, HD.out⟩, HM.out, HQ.out⟩, (Below.refl _ w).alloc (Nat.le_refl _) _, by simp⟩
theorem aCells_one : ∀ l : List (Qn × Bool), ∀ u ∈ aCells l, u.oneCell' = true
  | [], u, h => by cases h
  | a :: l, u, h => by
    rcases List.mem_cons.1 h with rfl | h
    · rfl
    rcases List.mem_cons.1 h with rfl | h
    · rfl
    rcases List.mem_cons.1 h with rfl | h
    · rfl
    rcases List.mem_cons.1 h with rfl | h
    · rfl
    exact aCells_one l u h
set_option maxRecDepth 100000 in
theorem Clone_ans (A : Option Addr) (n c : Nat) (l : List (Qn × Bool)) (w : World) (hn : n ≤ 1073741824) (hl : l.length = n) (h : Rd w w.heap.size 4 A n (aCells l)) :
    Calls Try.prog 59 #[.slice A n c] w fun e w' => ∃ A' c', e = .returned (.slice A' n c') ∧ n ≤ c' ∧ w'.ownsRow w.heap.size 46 4 (.slice A' n c') n (aCells l) ∧ Below w.heap.size w w' := by
  have H := Lib.hid h; clear h
  obtain ⟨i0, hi0, hz0, hz1, hz2⟩ := info_parts info_answer
  have HI0 := Lib.hid hi0; have HZ0 := Lib.hid hz0; have HZ1 := Lib.hid hz1; have HZ2 := Lib.hid hz2
  clear hi0 hz0 hz1 hz2
  have q : ∀ (w : World) (a : Option Addr) (n c n' c' : Nat), (binOp .eql 27 (.slice a n c) (.slice none n' c')).run Try.prog w = .ok (.bool a.isNone) w := fun w a n c n' c' => Lib.run_eql_slice_nil w _ _ a n c n' c' Try.underlying27
  cases A with
  | none =>
    have hn0 : n = 0 := by
      rcases Nat.eq_zero_or_pos n with h | h
      · exact h
      · obtain ⟨_, _, h1, _⟩ := H.out.2 h; cases h1
    subst hn0
    have hl : l = [] := List.eq_nil_of_length_eq_zero hl
    subst hl
    clear H
    go_enter Try.func59, Try.ntmps59
    go_wp2_with fail
    go_ret
    exact ⟨none, 0, rfl, Nat.le_refl _, World.ownsRow_nil _ _ _ _, Below.refl _ _⟩
  | some a =>
    clear hl
    go_enter Try.func59, Try.ntmps59
    go_wp2_with (at_builtin; refine wpList_append_rd _ rfl (.tmp 5) (.tmp 6) _ rfl w.heap.size 46 i0 _ 4 32 Try.underlying27 HI0.out HZ0.out HZ1.out HZ2.out rfl (by decide) _ 0 [] rfl (World.ownsRow_made w #[] 0 (Nat.le_refl _) (by simp [maxLen]) (by simp)) _ (some a) n c _ rfl (H.out.alloc (Nat.le_refl _) _) (aCells_one l) (by unfold maxLen; omega) (by omega) (by simp) ?_; intro v1 w1 hown1 hg1)
    rw [Nat.zero_add, List.nil_append] at hown1
    obtain ⟨A', c', rfl, hc⟩ := own_form hown1
    go_ret
    exact ⟨A', c', rfl, hc, hown1, (((Below.refl _ _).alloc (Nat.le_refl _) _).grown hg1 (by simp) (fun g hg => by cases hg; exact Nat.le_refl _))⟩
set_option maxHeartbeats 1000000 in
theorem Known_any (L : Lay) (vt : Value) (S : Mst) (w : World) (hm : MAt w L vt S) (hlen : S.told.length ≤ 1000000) :
    Calls Try.prog 42 #[ptrV L] w (RetOwn w 46 4 S.told.length (aCells S.told) id) := by
  obtain ⟨At, ct, hvt, hct⟩ := own_form hm.told
  subst hvt
  have c8 : w.cell? ⟨L.p, 8, none⟩ = some (.slice At S.told.length ct) := hm.cell 8
  have HM := Lib.hid hm; clear hm
  go_enter Try.func42, Try.ntmps42
  go_wp2_with fail
  refine (valid_m L _ S _ HM.out).mono ?_
  rintro e w1 ⟨rfl, rfl⟩
  go_wp2_with fail
  refine (Clone_ans At S.told.length ct S.told _ (by omega) rfl (Rd.own HM.out.told)).mono ?_
  rintro e w2 ⟨A', c', rfl, hc, ho, hb⟩
  have HO := Lib.hid ho; clear ho
  go_wp2_with fail
  go_ret
  exact RetOwn.of (mk := id) HO.out hb
set_option maxHeartbeats 1000000 in
theorem Tell_shut (L : Lay) (vt : Value) (S : Mst) (a : Bool) (w : World) (hm : MAt w L vt S) (ho : S.opn = false) :
    Calls Try.prog 37 #[ptrV L, .bool a] w fun e w' => e = .returned (.int .i64 11) ∧ w = w' := by
  have c21 : w.cell? ⟨L.p, 21, none⟩ = some (.bool false) := by rw [hm.cell 21, ← ho]; rfl
  have HM := Lib.hid hm; clear hm
  go_enter Try.func37, Try.ntmps37
  go_wp2_with fail
  refine (valid_m L vt S _ HM.out).mono ?_
  rintro e w1 ⟨rfl, rfl⟩
  go_wp2_with fail
  go_ret
  exact ⟨rfl, rfl⟩
/-- The layout of a copy. -/
def copyL (L : Lay) (p km : Nat) (A : Option Addr) (c : Nat) : Lay := ⟨L.base, p, km, L.n, L.P, L.B, L.s, L.go, L.co, L.gb, L.cb, A, c, L.os, L.bs⟩
theorem MSt.copy {w : World} {L : Lay} (h : MSt w L) (p km : Nat) (A : Option Addr) (c : Nat) (hc : L.n ≤ c) : MSt w (copyL L p km A c) :=
  ⟨h.hP, h.hB, h.hn, h.hs, ⟨h.pc.1, h.pc.2.1, hc⟩, h.ol, h.bl, h.ord, h.blk, h.ordr, h.blkr⟩
/-- What Copy hands back. -/
def CopyP (L : Lay) (S : Mst) (w : World) (e : Ending) (w' : World) : Prop :=
  ∃ (km' : Nat) (A' : Option Addr) (c' : Nat) (vt' : Value), e = .returned (ptrV (copyL L w.heap.size km' A' c')) ∧ w.heap.size ≤ km' ∧ (∀ k, A' = some ⟨k, 0, none⟩ → w.heap.size ≤ k) ∧ (∀ k, vt'.ownBlock = some k → w.heap.size ≤ k) ∧ MAt w' (copyL L w.heap.size km' A' c') vt' S ∧ Below w.heap.size w w'
theorem info_machine : (Try.prog.info? 79).map (·.size) = some 22 := by kernel_rfl
set_option maxRecDepth 100000 in
set_option maxHeartbeats 2000000 in
theorem mcopy_any (L : Lay) (vt : Value) (S : Mst) (w : World) (hm : MAt w L vt S) (hlen : S.told.length ≤ 1000000) :
    Calls Try.prog 41 #[ptrV L] w (CopyP L S w) := by
  obtain ⟨At, ct, hvt, hct⟩ := own_form hm.told
  subst hvt
  have HM := Lib.hid hm
  have hn := hm.st.hn
  have hpl := hm.lt
  have hbp := hm.pb
  obtain ⟨MC, hMC⟩ : ∃ z, z = mCells L S (.slice At S.told.length ct) := ⟨_, rfl⟩
  have hsz : MC.size = 22 := by rw [hMC]; rfl
  have hall : MC.all (·.oneCell') = true := by rw [hMC]; simp [mCells, Value.oneCell']
  have hbk : w.heap[L.p]? = some (.cells MC 79 (0, 0)) := by rw [hm.cells, hMC]
  have HBK := Lib.hid hbk; have HSZ := Lib.hid hsz; have HALL := Lib.hid hall
  have HI : Hid ((Try.prog.info? 79).map (·.size) = some MC.size) := Lib.hid (by rw [info_machine, hsz])
  have c6 : w.cell? ⟨L.p, 6, none⟩ = some (.slice L.Ab L.n L.cbt) := hm.cell 6
  have d6 : ∀ o, (w.alloc o).cell? ⟨L.p, 6, none⟩ = some (.slice L.Ab L.n L.cbt) := fun o => (World.cell?_alloc_lt _ _ _ hpl).trans c6
  have HMC := Lib.hid hMC
  clear hm hMC hall hsz hbk c6
  go_enter Try.func41, Try.ntmps41
  go_wp2_with fail
  refine (valid_m L _ S _ HM.out).mono ?_
  rintro e w1 ⟨rfl, rfl⟩
  obtain ⟨wA, hwA⟩ : ∃ z, z = w.alloc (.cells MC 79) := ⟨_, rfl⟩
  have BA : Below w.heap.size w wA := by rw [hwA]; exact (Below.refl _ _).alloc (Nat.le_refl _) _
  have pA : wA.heap[w.heap.size]? = some (.cells MC 79 (0, 0)) := by rw [hwA]; exact heap_alloc_new w _
  have sA : wA.heap.size = w.heap.size + 1 := by rw [hwA]; simp
  have hxl : Hid (Rd wA wA.heap.size 1 L.Ab L.n (S.b.map Value.bool)) := Lib.hid (Rd.own (HM.out.below BA).bits)
  have HBA := Lib.hid BA; have HPA := Lib.hid pA; have HSA := Lib.hid sA; have HWA := Lib.hid hwA
  clear BA pA sA hwA
  go_wp2_with (first
    | (refine wpList_load_row rfl 79 _ rfl L.p rfl _ MC (0, 0) _ HBK.out Try.underlying79 rfl HI.out ?_)
    | (refine wpList_plain rfl fun _ hK => wp_store_row 79 _ _ rfl w.heap.size MC rfl rfl _ _ (heap_alloc_new w _) HI.out (by rw [HSZ.out]; rfl) HALL.out (hK _ _ ?_)
       rw [World.setRow_alloc_new]))
  rw [← HWA.out]
  clear d6 HWA
  refine (Clone_bool L.Ab L.n L.cbt S.b _ (by omega) hxl.out).mono ?_
  rintro e w2 ⟨A2, c2', rfl, hc2, ho2, hb2⟩
  have B2 : Below w.heap.size w w2 := HBA.out.trans (hb2.mono HBA.out.size)
  have hp2 : w2.heap[w.heap.size]? = some (.cells MC 79 (0, 0)) := (hb2.block _ (by have := HSA.out; omega)).trans HPA.out
  have e2 : w2.cell? ⟨w.heap.size, 6, none⟩ = some (.slice L.Ab L.n L.cbt) := by rw [cell_of_row _ _ _ _ _ _ hp2, HMC.out]; rfl
  have f2 : w2.frozen? ⟨w.heap.size, 6, none⟩ = false := by simp [World.frozen?, hp2]
  have k7 : (w2.setCell ⟨w.heap.size, 6, none⟩ (.slice A2 L.n c2')).cell? ⟨L.p, 7, none⟩ = some (.map (some L.km)) := (HM.out.below (B2.setCell (p := ⟨w.heap.size, 6, none⟩) (Nat.le_refl _) _)).cell 7
  obtain ⟨w3, hw3⟩ : ∃ z, z = w2.setCell ⟨w.heap.size, 6, none⟩ (.slice A2 L.n c2') := ⟨_, rfl⟩
  have B3 : Below w.heap.size w w3 := by rw [hw3]; exact B2.setCell (p := ⟨w.heap.size, 6, none⟩) (Nat.le_refl _) _
  have hp3 : w3.heap[w.heap.size]? = some (.cells (MC.setIfInBounds 6 (.slice A2 L.n c2')) 79 (0, 0)) := by rw [hw3]; exact blk_setR hp2 _
  have ho3 : w3.ownsRow wA.heap.size 4 1 (.slice A2 L.n c2') L.n (S.b.map Value.bool) := by rw [hw3]; exact ownsRow_setCell_other ho2 (row_ne ho2 hp2 (by decide)) _
  have HB3 := Lib.hid B3; have HP3 := Lib.hid hp3; have HO3 := Lib.hid ho3; have HW3 := Lib.hid hw3
  clear B2 hp2 hb2 ho2 B3 hp3 ho3 hw3 hxl HBA HPA HBK HALL HI
  go_wp2_with fail
  rw [← HW3.out]
  clear k7 e2 f2 HW3
  refine (mclone_any L.km S.told _ (HM.out.below HB3.out).known).mono ?_
  rintro e w4 ⟨rfl, hkn4, hb4, hs4⟩
  have B4 : Below w.heap.size w w4 := HB3.out.trans (hb4.mono HB3.out.size)
  have hlt3 : w.heap.size < w3.heap.size := (Array.getElem?_eq_some_iff.1 HP3.out).1
  have hp4 : w4.heap[w.heap.size]? = some (.cells (MC.setIfInBounds 6 (.slice A2 L.n c2')) 79 (0, 0)) := (hb4.block _ hlt3).trans HP3.out
  have e4 : w4.cell? ⟨w.heap.size, 7, none⟩ = some (.map (some L.km)) := by rw [cell_of_row _ _ _ _ _ _ hp4, HMC.out]; rfl
  have f4 : w4.frozen? ⟨w.heap.size, 7, none⟩ = false := by simp [World.frozen?, hp4]
  have k8 : (w4.setCell ⟨w.heap.size, 7, none⟩ (.map (some w3.heap.size))).cell? ⟨L.p, 8, none⟩ = some (.slice At S.told.length ct) := (HM.out.below (B4.setCell (p := ⟨w.heap.size, 7, none⟩) (Nat.le_refl _) _)).cell 8
  obtain ⟨w5, hw5⟩ : ∃ z, z = w4.setCell ⟨w.heap.size, 7, none⟩ (.map (some w3.heap.size)) := ⟨_, rfl⟩
  have B5 : Below w.heap.size w w5 := by rw [hw5]; exact B4.setCell (p := ⟨w.heap.size, 7, none⟩) (Nat.le_refl _) _
  have hp5 : w5.heap[w.heap.size]? = some (.cells ((MC.setIfInBounds 6 (.slice A2 L.n c2')).setIfInBounds 7 (.map (some w3.heap.size))) 79 (0, 0)) := by rw [hw5]; exact blk_setR hp4 _
  have ho4 := ownsRow_below HO3.out hb4 (Nat.le_refl _)
  have ho5 : w5.ownsRow wA.heap.size 4 1 (.slice A2 L.n c2') L.n (S.b.map Value.bool) := by rw [hw5]; exact ownsRow_setCell_other ho4 (row_ne ho4 hp4 (by decide)) _
  have hkn5 : KnAt w5 w3.heap.size S.told := by rw [hw5]; exact hkn4.keep (Below.heap_setCell _ _ _ _ (by show w3.heap.size ≠ w.heap.size; omega))
  have hs5 : w3.heap.size < w5.heap.size := by rw [hw5, size_setCell, hs4]; omega
  have HB5 := Lib.hid B5; have HP5 := Lib.hid hp5; have HO5 := Lib.hid ho5; have HK5 := Lib.hid hkn5; have HW5 := Lib.hid hw5
  clear B4 hp4 hb4 ho4 B5 hp5 ho5 hkn5 hkn4 hw5 HP3 HO3 hs4
  go_wp2_with fail
  rw [← HW5.out]
  clear k8 e4 f4 HW5
  refine (Clone_ans At S.told.length ct S.told _ (by omega) rfl (Rd.own (HM.out.below HB5.out).told)).mono ?_
  rintro e w6 ⟨A6, c6, rfl, hc6, ho6, hb6⟩
  have B6 : Below w.heap.size w w6 := HB5.out.trans (hb6.mono HB5.out.size)
  have hlt5 : w.heap.size < w5.heap.size := (Array.getElem?_eq_some_iff.1 HP5.out).1
  have hp6 : w6.heap[w.heap.size]? = some (.cells ((MC.setIfInBounds 6 (.slice A2 L.n c2')).setIfInBounds 7 (.map (some w3.heap.size))) 79 (0, 0)) := (hb6.block _ hlt5).trans HP5.out
  have e6 : w6.cell? ⟨w.heap.size, 8, none⟩ = some (.slice At S.told.length ct) := by rw [cell_of_row _ _ _ _ _ _ hp6, HMC.out]; rfl
  have f6 : w6.frozen? ⟨w.heap.size, 8, none⟩ = false := by simp [World.frozen?, hp6]
  have HB6 := Lib.hid B6; have HP6 := Lib.hid hp6; have HO6 := Lib.hid ho6; have HBB := Lib.hid hb6
  clear B6 hp6 ho6 hb6
  go_wp2_with fail
  go_ret
  have ho7 := ownsRow_below HO5.out HBB.out (Nat.le_refl _)
  have hk7 := HK5.out.keep (HBB.out.block _ hs5)
  have B7 : Below w.heap.size w (w6.setCell ⟨w.heap.size, 8, none⟩ (.slice A6 S.told.length c6)) := HB6.out.setCell (p := ⟨w.heap.size, 8, none⟩) (Nat.le_refl _) _
  have hbase : L.base ≤ w.heap.size := by omega
  have hsA := HSA.out
  refine ⟨w3.heap.size, A2, c2', .slice A6 S.told.length c6, rfl, Nat.le_of_lt hlt3, ?_, ?_, ⟨?_, ?_, ?_, ?_, ?_, hbase, ?_⟩, B7⟩
  · intro k hk
    have := (ho7.lt k (by rw [hk]; rfl)).1
    omega
  · intro k hk
    have := (HO6.out.lt k hk).1
    omega
  · rw [show (copyL L w.heap.size w3.heap.size A2 c2').p = w.heap.size from rfl, blk_setR HP6.out, HMC.out]; rfl
  · exact ownsRow_mono (ownsRow_setCell_other HO6.out (row_ne HO6.out HP6.out (by decide)) _) (by show L.base ≤ w5.heap.size; omega)
  · exact ownsRow_mono (ownsRow_setCell_other ho7 (row_ne ho7 HP6.out (by decide)) _) (by show L.base ≤ wA.heap.size; omega)
  · exact hk7.keep (Below.heap_setCell _ _ _ _ (by show w3.heap.size ≠ w.heap.size; omega))
  · show L.base ≤ w3.heap.size; omega
  · exact (HM.out.below B7).st.copy _ _ _ _ hc2
end Go.Proofs.Ytoofnkkbebjldaa
/- The machine's course with any answers, step by step, and a copy beside it. Conditions: as each statement says. -/
namespace Go.Proofs.Ytoofnkkbebjldaa
open Go.RowKit
set_option linter.unusedVariables false
theorem Inv.lay {L L' : Lay} {c : Nat} {S : Mst} (h : Inv L c S) (hn : L'.n = L.n) (hP : L'.P = L.P) (hB : L'.B = L.B) (hs : L'.s = L.s) : Inv L' c S := by
  obtain ⟨l1, l2, l3, n, P, B, s, l4, l5, l6, l7, l8, l9, l10, l11⟩ := L
  obtain ⟨m1, m2, m3, n', P', B', s', m4, m5, m6, m7, m8, m9, m10, m11⟩ := L'
  simp only at hn hP hB hs
  subst hn hP hB hs
  have qok : ∀ q, QOk ⟨l1, l2, l3, n', P', B', s', l4, l5, l6, l7, l8, l9, l10, l11⟩ q → QOk ⟨m1, m2, m3, n', P', B', s', m4, m5, m6, m7, m8, m9, m10, m11⟩ q := fun q ⟨⟨x, y, z⟩, u⟩ => ⟨⟨x, y, z⟩, u⟩
  exact ⟨h.c3, h.bl, h.pass, h.block, h.flips, h.nd, fun a ha => qok _ (h.rng a ha), h.blk, h.blk2, h.s1, h.s3, h.pas2, fun hs => ⟨(h.odd hs).1, qok _ (h.odd hs).2⟩, h.wait, h.go, h.fin⟩
theorem GoT.lay {L L' : Lay} {o : Mst → Option Bool} {x y : Nat × Mst} (h : GoT L o x y) (hn : L'.n = L.n) (hP : L'.P = L.P) (hB : L'.B = L.B) (hs : L'.s = L.s) : GoT L' o x y := by
  obtain ⟨k, h⟩ := h
  refine ⟨k, ?_⟩
  rw [itO_pl L' o k x, hn, hP, hB, hs, ← itO_pl L o k x]
  exact h
/-- The machine behind the first i answers. -/
structure CI (L : Lay) (b ans : List Bool) (i : Nat) (S : Mst) : Prop where
  go : ∀ o : Mst → Option Bool, (∀ T : Mst, T.told.length < i → o T = ans[T.told.length]?) → GoT L o (1, st0 b) (0, S)
  len : S.told.length = i
  inv : Inv L 0 S
theorem CI.lay {L L' : Lay} {b ans : List Bool} {i : Nat} {S : Mst} (h : CI L b ans i S) (hn : L'.n = L.n) (hP : L'.P = L.P) (hB : L'.B = L.B) (hs : L'.s = L.s) : CI L' b ans i S :=
  ⟨fun o ho => (h.go o ho).lay hn hP hB hs, h.len, h.inv.lay hn hP hB hs⟩
theorem CI.copy {L : Lay} {b ans : List Bool} {i : Nat} {S : Mst} (h : CI L b ans i S) (p km : Nat) (A : Option Addr) (c : Nat) : CI (copyL L p km A c) b ans i S := h.lay rfl rfl rfl rfl
theorem CI.start {L : Lay} {b ans : List Bool} (hB : 1 ≤ L.B) (hn : L.n ≤ 512) (hb : b.length = L.n) : CI L b ans 0 (advS L (st0 b)) :=
  ⟨fun o _ => (advS_go (L := L) (S := st0 b) (o := o) hB hn (Inv.start (L := L) hb)).1, by rw [advS_told]; rfl, (advS_go (L := L) (S := st0 b) (o := fun _ => none) hB hn (Inv.start (L := L) hb)).2⟩
theorem CI.tell {L : Lay} {b ans : List Bool} {i : Nat} {S : Mst} {a : Bool} (h : CI L b ans i S) (hB : 1 ≤ L.B) (hn : L.n ≤ 512) (ho : S.opn = true) (ha : ans[i]? = some a) : CI L b ans (i + 1) (advS L { S with told := S.told ++ [(S.next, a)] }) :=
  ⟨fun o hagree => (h.go o (fun T hT => hagree T (by omega))).trans (tell_go (o := o) (a := a) hB hn h.inv ho (by rw [hagree S (by rw [h.len]; omega), h.len, ha])).1,
    by rw [advS_told]; simp [h.len], (tell_go (o := fun _ => some a) (a := a) hB hn h.inv ho rfl).2⟩
/-- The document's course with the first i answers is the machine's. -/
theorem CI.meet {L : Lay} {b ans : List Bool} {i : Nat} {S X : Mst} {R : RLay} (h : CI L b ans i S) (hn : R.n = L.n) (hP : R.P = L.P) (hB : R.B = L.B) (hs : R.s = L.s)
    (hg : GoT R.L (oR R.L ⟨false, [], ans.take i⟩) (1, st0 b) (0, X)) (hf : Fin (oR R.L ⟨false, [], ans.take i⟩) (0, X)) : X = S := by
  have h1 := (h.go (oR R.L ⟨false, [], ans.take i⟩) (fun T hT => by
    unfold oR
    rw [if_neg (by simp)]
    show (ans.take i)[T.told.length]? = _
    rw [List.getElem?_take_of_lt hT])).lay (L' := R.L) hn hP hB hs
  have h2 : Fin (oR R.L ⟨false, [], ans.take i⟩) (0, S) := ⟨rfl, .inr (by
    unfold oR
    rw [if_neg (by simp)]
    show (ans.take i)[S.told.length]? = none
    rw [List.getElem?_eq_none_iff, List.length_take, h.len]
    omega)⟩
  have e := hg.same h1 hf h2
  simpa using e
/-- Where a machine's own lies beyond h, its turning leaves what lies below. -/
structure Far (h : Nat) (L : Lay) (vt : Value) : Prop where
  p : h ≤ L.p
  km : h ≤ L.km
  ab : ∀ k, L.Ab = some ⟨k, 0, none⟩ → h ≤ k
  vt : ∀ k, vt.ownBlock = some k → h ≤ k
theorem MTurn.far {L : Lay} {vt : Value} {w w' : World} {h : Nat} (hT : MTurn L vt w w') (hf : Far h L vt) (hw : h ≤ w.heap.size) : Below h w w' :=
  ⟨hT.os, hT.tape, hT.output, hT.size, fun k hk => hT.block k (by omega) (by have := hf.p; omega) (by have := hf.km; omega) (fun e => by have := hf.ab k e; omega) (fun e => by have := hf.vt k e; omega)⟩
theorem MAt.near {w : World} {L : Lay} {vt : Value} {S : Mst} (h : MAt w L vt S) : L.p < w.heap.size ∧ L.km < w.heap.size ∧ (∀ k, L.Ab = some ⟨k, 0, none⟩ → k < w.heap.size) ∧ (∀ k, vt.ownBlock = some k → k < w.heap.size) :=
  ⟨h.lt, h.known.lt, fun k e => (h.bits.lt k (by rw [e]; rfl)).2, fun k e => (h.told.lt k e).2⟩
/-- A machine made later stays where the other one turns. -/
theorem MAt.beside {w w' : World} {L L' : Lay} {vt vt' : Value} {S S' : Mst} {h : Nat} (hm' : MAt w L' vt' S') (hf : Far h L' vt') (hm : MAt w L vt S) (hp : L.p < h) (hk : L.km < h) (ha : ∀ k, L.Ab = some ⟨k, 0, none⟩ → k < h) (hv : ∀ k, vt.ownBlock = some k → k < h) (hT : MTurn L vt w w') : MAt w' L' vt' S' := by
  have keep : ∀ k, h ≤ k → k < w.heap.size → w'.heap[k]? = w.heap[k]? := fun k h1 h2 => hT.block k h2 (by omega) (by omega) (fun e => by have := ha k e; omega) (fun e => by have := hv k e; omega)
  have own : ∀ {t sz n v xs}, w.ownsRow L'.base t sz v n xs → (∀ k, v.ownBlock = some k → h ≤ k) → w'.ownsRow L'.base t sz v n xs := fun {t sz n v xs} ho hb => by
    refine ⟨ho.1, ?_⟩
    rcases ho.2 with hl | ⟨g, cap, cur, rfl, h1, hg, r⟩
    · exact .inl hl
    · exact .inr ⟨g, cap, cur, rfl, h1, (keep g (hb g rfl) (Array.getElem?_eq_some_iff.1 hg).1).trans hg, r⟩
  refine ⟨(keep _ hf.p hm'.lt).trans hm'.cells, own hm'.told hf.vt, own hm'.bits (fun k e => ?_), hm'.known.keep (keep _ hf.km hm'.known.lt), hm'.kmb, hm'.pb, ?_⟩
  · obtain ⟨A, hA⟩ : ∃ A, A = L'.Ab := ⟨_, rfl⟩
    rw [← hA] at e
    rcases hm'.bits.2 with ⟨hl, _⟩ | ⟨g, cap, cur, hv', _, _, _⟩
    · injection hl with hl _ _; rw [hA, hl] at e; cases e
    · injection hv' with hv' _ _
      rw [hA, hv'] at e
      have : g = k := by simpa [Value.ownBlock] using e
      subst this
      exact hf.ab g hv'
  · exact { hm'.st with
      ord := ownsRow_turn hm hT hm'.st.ord (by decide) (by decide) (by decide)
      blk := ownsRow_turn hm hT hm'.st.blk (by decide) (by decide) (by decide)
      ordr := fun i A c hi => ⟨(hm'.st.ordr i A c hi).1, ownsRow_turn hm hT (hm'.st.ordr i A c hi).2 (by decide) (by decide) (by decide)⟩
      blkr := fun i A c hi => ⟨(hm'.st.blkr i A c hi).1, ownsRow_turn hm hT (hm'.st.blkr i A c hi).2 (by decide) (by decide) (by decide)⟩ }
/-- The document's course stays where its own blocks stay, once no answer is left. -/
theorem RAt.keepU {w w' : World} {R : RLay} {Z : Src} {kv : Nat → Nat → Value} {vt vl vy : Value} {S : Mst} (h : RAt w R Z kv vt vl vy S) (hk : ∀ k, R.base ≤ k → k < w.heap.size → w'.heap[k]? = w.heap[k]?) (hz : Z.ty = false) (hl : Z.ans.length ≤ S.told.length) : RAt w' R Z kv vt vl vy S := by
  have own : ∀ {t sz n v xs}, w.ownsRow R.base t sz v n xs → w'.ownsRow R.base t sz v n xs := fun {t sz n v xs} ho => by
    refine ⟨ho.1, ?_⟩
    rcases ho.2 with hl | ⟨g, cap, cur, rfl, h1, hg, r⟩
    · exact .inl hl
    · exact .inr ⟨g, cap, cur, rfl, h1, (hk g h1 (Array.getElem?_eq_some_iff.1 hg).1).trans hg, r⟩
  refine ⟨(hk _ h.pb h.lt).trans h.cells, own h.told, own h.bits, { h.known with
    out := fun p hp => own (h.known.out p hp)
    row := fun p f hp hf => own (h.known.row p f hp hf) }, h.pb, { h.st with
    ord := own h.st.ord
    ordr := fun i A c hi => ⟨(h.st.ordr i A c hi).1, own (h.st.ordr i A c hi).2⟩
    kno := own h.st.kno }, ?_⟩
  have hsrc := h.src
  unfold RSrc at *
  rw [if_neg (by simp [hz])] at hsrc ⊢
  obtain ⟨h1, A, c, h2, h3, h4⟩ := hsrc
  have e : Z.ans.drop S.told.length = [] := List.drop_of_length_le hl
  rw [e] at h2 h3 ⊢
  exact ⟨h1, A, c, h2, h3, Rd.nil _ _ _ _⟩
theorem RAt.beside {w w' : World} {R : RLay} {Z : Src} {kv : Nat → Nat → Value} {vt vl vy vm : Value} {S : Mst} {L : Lay} {h : Nat} (ha : RAt w R Z kv vt vl vy S) (hb : h ≤ R.base) (hn : L.p < h ∧ L.km < h ∧ (∀ k, L.Ab = some ⟨k, 0, none⟩ → k < h) ∧ (∀ k, vm.ownBlock = some k → k < h)) (hT : MTurn L vm w w') (hz : Z.ty = false) (hl : Z.ans.length ≤ S.told.length) : RAt w' R Z kv vt vl vy S :=
  ha.keepU (fun k h1 h2 => hT.block k h2 (by have := hn.1; omega) (by have := hn.2.1; omega) (fun e => by have := hn.2.2.1 k e; omega) (fun e => by have := hn.2.2.2 k e; omega)) hz hl
end Go.Proofs.Ytoofnkkbebjldaa
/- The contract of course: a machine held against the document's course. Conditions: as each statement says. -/
namespace Go.Proofs.Ytoofnkkbebjldaa
open Go.RowKit
set_option linter.unusedVariables false
set_option maxRecDepth 100000 in
set_option maxHeartbeats 4000000 in
theorem course_any (L : Lay) (vt : Value) (R : RLay) (Z : Src) (kv : Nat → Nat → Value) (vt2 vl vy : Value) (S : Mst) (w : World) (hm : MAt w L vt S) (hr : RAt w R Z kv vt2 vl vy S) (hn : R.n = L.n) (hlen : S.told.length ≤ 1000000) :
    Calls Try.prog 40 #[ptrV L, .pointer (some ⟨R.p, 0, none⟩)] w fun e w' => e = .returned (.bool true) ∧ Below w.heap.size w w' := by
  obtain ⟨At, ct, hvt, hct⟩ := own_form hr.told
  subst hvt
  have HM := Lib.hid hm; have HR := Lib.hid hr; have HN := Lib.hid hn
  have hn5 := hr.st.hn
  clear hm hr hn
  go_enter Try.func40, Try.ntmps40
  go_wp2_with fail
  refine (Ask_ok L vt S _ HM.out).mono ?_
  rintro e w1 ⟨rfl, hb1⟩
  obtain ⟨wq, hwq⟩ : ∃ z, z = w1.alloc (.cells #[.int .i64 S.next.p, .int .i64 S.next.f, .int .i64 S.next.t] 44) := ⟨_, rfl⟩
  have BQ : Below w.heap.size w wq := by rw [hwq]; exact hb1.alloc hb1.size _
  have hbk : wq.heap[w1.heap.size]? = some (.cells #[.int .i64 S.next.p, .int .i64 S.next.f, .int .i64 S.next.t] 44 (0, 0)) := by rw [hwq]; exact heap_alloc_new w1 _
  have b0 : wq.cell? ⟨w1.heap.size, 0, none⟩ = some (.int .i64 S.next.p) := by rw [cell_of_row _ _ _ _ _ _ hbk]; rfl
  have b1 : wq.cell? ⟨w1.heap.size, 1, none⟩ = some (.int .i64 S.next.f) := by rw [cell_of_row _ _ _ _ _ _ hbk]; rfl
  have b2 : wq.cell? ⟨w1.heap.size, 2, none⟩ = some (.int .i64 S.next.t) := by rw [cell_of_row _ _ _ _ _ _ hbk]; rfl
  have hmq := HM.out.below BQ
  have hrq := HR.out.below BQ
  have r5 : wq.cell? ⟨R.p, 5, none⟩ = some (.slice R.Ab R.n R.cbt) := hrq.cell 5
  have r6 : wq.cell? ⟨R.p, 6, none⟩ = some (.int .i64 S.flips) := hrq.cell 6
  have r7 : wq.cell? ⟨R.p, 7, none⟩ = some (.slice At S.told.length ct) := hrq.cell 7
  have r10 : wq.cell? ⟨R.p, 10, none⟩ = some (.int .i64 S.next.p) := hrq.cell 10
  have r11 : wq.cell? ⟨R.p, 11, none⟩ = some (.int .i64 S.next.f) := hrq.cell 11
  have r12 : wq.cell? ⟨R.p, 12, none⟩ = some (.int .i64 S.next.t) := hrq.cell 12
  have r13 : wq.cell? ⟨R.p, 13, none⟩ = some (.bool S.opn) := hrq.cell 13
  have r14 : wq.cell? ⟨R.p, 14, none⟩ = some (.bool S.failed) := hrq.cell 14
  have HWQ := Lib.hid hwq; have HBQ := Lib.hid BQ; have HMQ := Lib.hid hmq; have HRQ := Lib.hid hrq
  clear hwq BQ hmq hrq hbk hb1 HM HR
  go_wp2_with fail
  simp only [kq]
  rw [← HWQ.out]
  clear HWQ
  refine wp_region_held_drew (S := fun w' => Below wq.heap.size wq w') (by kernel_rfl) ?_ (fun hHeld => ?_)
  · (try dsimp only); first | exact hHeld | exact hHeld.drew | exact hx52 | exact hx47 | exact hx43 | exact hx38 | exact Below.refl _ _ | exact (Below.refl _ _).drew | exact Qw.below (⟨1, rfl⟩ : Qw wq wq.drew) _
  refine wpAnyH_take (i := 0) (oi := ⟨some 14, _, _, _, _, _⟩) (v := ?_) rfl (by kernel_rfl) (by kernel_rfl) (by kernel_rfl) (fun _ _ _ h => h) (Or.inl ⟨by rfl, ?_⟩) (by assumption) ?_
  rotate_left
  · (intro w hSw; (try dsimp only at hSw); go_simp; try with_reducible rfl)
  try simp only [Act.put, List.setIfInBounds_toArray, List.set_cons_zero, List.set_cons_succ]
  refine wpAnyH_take (i := 1) (oi := ⟨some 15, _, _, _, _, _⟩) (v := ?_) rfl (by kernel_rfl) (by kernel_rfl) (by kernel_rfl) (fun _ _ _ h => h) (Or.inl ⟨by rfl, ?_⟩) (by assumption) ?_
  rotate_left
  · (intro w hSw; (try dsimp only at hSw); go_simp; try with_reducible rfl)
  try simp only [Act.put, List.setIfInBounds_toArray, List.set_cons_zero, List.set_cons_succ]
  refine wpAnyH_take (i := 2) (oi := ⟨some 16, _, _, _, _, _⟩) (v := ?_) rfl (by kernel_rfl) (by kernel_rfl) (by kernel_rfl) (fun _ _ _ h => h) (Or.inl ⟨by rfl, ?_⟩) (by assumption) ?_
  rotate_left
  · (intro w hSw; (try dsimp only at hSw); go_simp; try with_reducible rfl)
  try simp only [Act.put, List.setIfInBounds_toArray, List.set_cons_zero, List.set_cons_succ]
  refine wpAnyH_take (i := 3) (oi := ⟨some 17, _, _, _, _, _⟩) (v := ?_) rfl (by kernel_rfl) (by kernel_rfl) (by kernel_rfl) (fun _ _ _ h => h) (Or.inl ⟨by rfl, ?_⟩) (by assumption) ?_
  rotate_left
  · (intro w hSw; (try dsimp only at hSw); go_simp; try with_reducible rfl)
  try simp only [Act.put, List.setIfInBounds_toArray, List.set_cons_zero, List.set_cons_succ]
  refine wpAnyH_take (i := 4) (oi := ⟨some 18, _, _, _, _, _⟩) (v := ?_) rfl (by kernel_rfl) (by kernel_rfl) (by kernel_rfl) (fun _ _ _ h => h) (Or.inl ⟨by rfl, ?_⟩) (by assumption) ?_
  rotate_left
  · (intro w hSw; (try dsimp only at hSw); go_simp; try with_reducible rfl)
  try simp only [Act.put, List.setIfInBounds_toArray, List.set_cons_zero, List.set_cons_succ]
  refine wpAnyH_take (i := 5) (oi := ⟨some 19, _, _, _, _, _⟩) (v := ?_) rfl (by kernel_rfl) (by kernel_rfl) (by kernel_rfl) (fun _ _ _ h => h) (Or.inl ⟨by rfl, ?_⟩) (by assumption) ?_
  rotate_left
  · (intro w hSw; (try dsimp only at hSw); go_simp; try with_reducible rfl)
  try simp only [Act.put, List.setIfInBounds_toArray, List.set_cons_zero, List.set_cons_succ]
  refine wpAnyH_take (i := 6) (oi := ⟨some 20, _, _, _, _, _⟩) (v := ?_) rfl (by kernel_rfl) (by kernel_rfl) (by kernel_rfl) (fun _ _ _ h => h) (Or.inl ⟨by rfl, ?_⟩) (by assumption) ?_
  rotate_left
  · (intro w hSw; (try dsimp only at hSw); go_simp; try with_reducible rfl)
  try simp only [Act.put, List.setIfInBounds_toArray, List.set_cons_zero, List.set_cons_succ]
  refine wpAnyH_take (i := 7) (oi := ⟨some 21, _, _, _, _, _⟩) (v := .bool S.opn) rfl (by kernel_rfl) (by kernel_rfl) (by kernel_rfl) (fun _ _ _ h => h) (Or.inl ⟨by rfl, ?_⟩) (by assumption) ?_
  · (intro w hSw; (try dsimp only at hSw); have h0 := bcells_n hSw r13; go_simp)
  try simp only [Act.put, List.setIfInBounds_toArray, List.set_cons_zero, List.set_cons_succ]
  refine wpAnyH_take (i := 8) (oi := ⟨some 22, _, _, _, _, _⟩) (v := .bool true) rfl (by kernel_rfl) (by kernel_rfl) (by kernel_rfl) (fun _ _ _ h => h) (Or.inl ⟨by rfl, ?_⟩) (by assumption) ?_
  · (intro w hSw; (try dsimp only at hSw); go_simp)
  try simp only [Act.put, List.setIfInBounds_toArray, List.set_cons_zero, List.set_cons_succ]
  refine wpAnyH_take (i := 9) (oi := ⟨some 23, _, _, _, _, _⟩) (v := ?_) rfl (by kernel_rfl) (by kernel_rfl) (by kernel_rfl) (fun _ _ _ h => h) (Or.inl ⟨by rfl, ?_⟩) (by assumption) ?_
  rotate_left
  · (intro w hSw; (try dsimp only at hSw); go_simp; try with_reducible rfl)
  try simp only [Act.put, List.setIfInBounds_toArray, List.set_cons_zero, List.set_cons_succ]
  refine wpAnyH_take (i := 10) (oi := ⟨some 24, _, _, _, _, _⟩) (v := ?_) rfl (by kernel_rfl) (by kernel_rfl) (by kernel_rfl) (fun _ _ _ h => h) (Or.inl ⟨by rfl, ?_⟩) (by assumption) ?_
  rotate_left
  · (intro w hSw; (try dsimp only at hSw); go_simp; try with_reducible rfl)
  try simp only [Act.put, List.setIfInBounds_toArray, List.set_cons_zero, List.set_cons_succ]
  refine wpAnyH_take (i := 11) (oi := ⟨some 25, _, _, _, _, _⟩) (v := kq S.next) rfl (by kernel_rfl) (by kernel_rfl) (by kernel_rfl) (fun _ _ _ h => h) (Or.inl ⟨by rfl, ?_⟩) (by assumption) ?_
  · (intro w hSw; (try dsimp only at hSw); have h0 := bcells_n hSw b0; have h1 := bcells_n hSw b1; have h2 := bcells_n hSw b2; go_simp)
  try simp only [Act.put, List.setIfInBounds_toArray, List.set_cons_zero, List.set_cons_succ]
  refine wpAnyH_take (i := 12) (oi := ⟨some 26, _, _, _, _, _⟩) (v := ?_) rfl (by kernel_rfl) (by kernel_rfl) (by kernel_rfl) (fun _ _ _ h => h) (Or.inl ⟨by rfl, ?_⟩) (by assumption) ?_
  rotate_left
  · (intro w hSw; (try dsimp only at hSw); go_simp; try with_reducible rfl)
  try simp only [Act.put, List.setIfInBounds_toArray, List.set_cons_zero, List.set_cons_succ]
  refine wpAnyH_take (i := 13) (oi := ⟨some 27, _, _, _, _, _⟩) (v := ?_) rfl (by kernel_rfl) (by kernel_rfl) (by kernel_rfl) (fun _ _ _ h => h) (Or.inl ⟨by rfl, ?_⟩) (by assumption) ?_
  rotate_left
  · (intro w hSw; (try dsimp only at hSw); go_simp; try with_reducible rfl)
  try simp only [Act.put, List.setIfInBounds_toArray, List.set_cons_zero, List.set_cons_succ]
  refine wpAnyH_take (i := 14) (oi := ⟨some 28, _, _, _, _, _⟩) (v := ?_) rfl (by kernel_rfl) (by kernel_rfl) (by kernel_rfl) (fun _ _ _ h => h) (Or.inl ⟨by rfl, ?_⟩) (by assumption) ?_
  rotate_left
  · (intro w hSw; (try dsimp only at hSw); go_simp; try with_reducible rfl)
  try simp only [Act.put, List.setIfInBounds_toArray, List.set_cons_zero, List.set_cons_succ]
  refine wpAnyH_take (i := 15) (oi := ⟨some 29, _, _, _, _, _⟩) (v := kq S.next) rfl (by kernel_rfl) (by kernel_rfl) (by kernel_rfl) (fun _ _ _ h => h) (Or.inl ⟨by rfl, ?_⟩) (by assumption) ?_
  · (intro w hSw; (try dsimp only at hSw); have h0 := bcells_n hSw r10; have h1 := bcells_n hSw r11; have h2 := bcells_n hSw r12; go_simp)
  try simp only [Act.put, List.setIfInBounds_toArray, List.set_cons_zero, List.set_cons_succ]
  refine wpAnyH_take (i := 16) (oi := ⟨some 30, _, _, _, _, _⟩) (v := .bool true) rfl (by kernel_rfl) (by kernel_rfl) (by kernel_rfl) (fun _ _ _ h => h) (Or.inl ⟨by rfl, ?_⟩) (by assumption) ?_
  · (intro w hSw; (try dsimp only at hSw); go_simp)
  try simp only [Act.put, List.setIfInBounds_toArray, List.set_cons_zero, List.set_cons_succ]
  refine wpAnyH_take (i := 17) (oi := ⟨some 31, _, _, _, _, _⟩) (v := ?_) rfl (by kernel_rfl) (by kernel_rfl) (by kernel_rfl) (fun _ _ _ h => h) (Or.inl ⟨by rfl, ?_⟩) (by assumption) ?_
  rotate_left
  · (intro w hSw; (try dsimp only at hSw); go_simp; try with_reducible rfl)
  try simp only [Act.put, List.setIfInBounds_toArray, List.set_cons_zero, List.set_cons_succ]
  refine wpAnyH_take (i := 18) (oi := ⟨some 32, _, _, _, _, _⟩) (v := ?_) rfl (by kernel_rfl) (by kernel_rfl) (by kernel_rfl) (fun _ _ _ h => h) (Or.inl ⟨by rfl, ?_⟩) (by assumption) ?_
  rotate_left
  · (intro w hSw; (try dsimp only at hSw); go_simp; try with_reducible rfl)
  try simp only [Act.put, List.setIfInBounds_toArray, List.set_cons_zero, List.set_cons_succ]
  refine wpAnyH_take (i := 19) (oi := ⟨some 33, _, _, _, _, _⟩) (v := ?_) rfl (by kernel_rfl) (by kernel_rfl) (by kernel_rfl) (fun _ _ _ h => h) (Or.inl ⟨by rfl, ?_⟩) (by assumption) ?_
  rotate_left
  · (intro w hSw; (try dsimp only at hSw); go_simp; try with_reducible rfl)
  try simp only [Act.put, List.setIfInBounds_toArray, List.set_cons_zero, List.set_cons_succ]
  refine wpAnyH_take (i := 21) (oi := ⟨some 35, _, _, _, _, _⟩) (v := ?_) rfl (by kernel_rfl) (by kernel_rfl) (by kernel_rfl) (fun _ _ _ h => h) (Or.inl ⟨by rfl, ?_⟩) (by assumption) ?_
  rotate_left
  · (intro w hSw; (try dsimp only at hSw); go_simp; try with_reducible rfl)
  try simp only [Act.put, List.setIfInBounds_toArray, List.set_cons_zero, List.set_cons_succ]
  refine wpAnyH_take (i := 22) (oi := ⟨some 36, _, _, _, _, _⟩) (v := ?_) rfl (by kernel_rfl) (by kernel_rfl) (by kernel_rfl) (fun _ _ _ h => h) (Or.inl ⟨by rfl, ?_⟩) (by assumption) ?_
  rotate_left
  · (intro w hSw; (try dsimp only at hSw); go_simp; try with_reducible rfl)
  try simp only [Act.put, List.setIfInBounds_toArray, List.set_cons_zero, List.set_cons_succ]
  refine wpAnyH_take (i := 23) (oi := ⟨some 37, _, _, _, _, _⟩) (v := ?_) rfl (by kernel_rfl) (by kernel_rfl) (by kernel_rfl) (fun _ _ _ h => h) (Or.inl ⟨by rfl, ?_⟩) (by assumption) ?_
  rotate_left
  · (intro w hSw; (try dsimp only at hSw); go_simp; try with_reducible rfl)
  try simp only [Act.put, List.setIfInBounds_toArray, List.set_cons_zero, List.set_cons_succ]
  refine wpAnyH_take (i := 24) (oi := ⟨some 38, _, _, _, _, _⟩) (v := .int .i64 S.flips) rfl (by kernel_rfl) (by kernel_rfl) (by kernel_rfl) (fun _ _ _ h => h) (Or.inl ⟨by rfl, ?_⟩) (by assumption) ?_
  · (intro w hSw; (try dsimp only at hSw); have h0 := bcells_n hSw r6; go_simp)
  try simp only [Act.put, List.setIfInBounds_toArray, List.set_cons_zero, List.set_cons_succ]
  refine wpAnyH_ready (rs := [20]) (by kernel_rfl) (by simp) ?_
  refine AllReadyH.cons (o := ⟨some 34, _, _, _, _, _⟩) rfl (fun K hK => ?_) AllReadyH.nil
  go_simp
  refine (Flips_ok L vt S _ (HMQ.out.below hHeld)).mono ?_
  rintro e wf ⟨rfl, rfl⟩
  go_wp2_with fail
  refine hK.out _ _ ?_ (fun hHeld => ?_)
  · (try dsimp only); first | exact hHeld | exact hHeld.drew | exact hx52 | exact hx47 | exact hx43 | exact hx38 | exact Below.refl _ _ | exact (Below.refl _ _).drew | exact Qw.below (⟨1, rfl⟩ : Qw wq wq.drew) _
  clear hK K
  try simp only [Act.put, List.setIfInBounds_toArray, List.set_cons_zero, List.set_cons_succ]
  refine wpAnyH_take (i := 25) (oi := ⟨some 39, _, _, _, _, _⟩) (v := .bool true) rfl (by kernel_rfl) (by kernel_rfl) (by kernel_rfl) (fun _ _ _ h => h) (Or.inl ⟨by rfl, ?_⟩) (by assumption) ?_
  · (intro w hSw; (try dsimp only at hSw); go_simp)
  try simp only [Act.put, List.setIfInBounds_toArray, List.set_cons_zero, List.set_cons_succ]
  refine wpAnyH_take (i := 26) (oi := ⟨some 40, _, _, _, _, _⟩) (v := ?_) rfl (by kernel_rfl) (by kernel_rfl) (by kernel_rfl) (fun _ _ _ h => h) (Or.inl ⟨by rfl, ?_⟩) (by assumption) ?_
  rotate_left
  · (intro w hSw; (try dsimp only at hSw); go_simp; try with_reducible rfl)
  try simp only [Act.put, List.setIfInBounds_toArray, List.set_cons_zero, List.set_cons_succ]
  refine wpAnyH_take (i := 27) (oi := ⟨some 41, _, _, _, _, _⟩) (v := ?_) rfl (by kernel_rfl) (by kernel_rfl) (by kernel_rfl) (fun _ _ _ h => h) (Or.inl ⟨by rfl, ?_⟩) (by assumption) ?_
  rotate_left
  · (intro w hSw; (try dsimp only at hSw); go_simp; try with_reducible rfl)
  try simp only [Act.put, List.setIfInBounds_toArray, List.set_cons_zero, List.set_cons_succ]
  refine wpAnyH_take (i := 28) (oi := ⟨some 42, _, _, _, _, _⟩) (v := ?_) rfl (by kernel_rfl) (by kernel_rfl) (by kernel_rfl) (fun _ _ _ h => h) (Or.inl ⟨by rfl, ?_⟩) (by assumption) ?_
  rotate_left
  · (intro w hSw; (try dsimp only at hSw); go_simp; try with_reducible rfl)
  try simp only [Act.put, List.setIfInBounds_toArray, List.set_cons_zero, List.set_cons_succ]
  refine wpAnyH_take (i := 30) (oi := ⟨some 44, _, _, _, _, _⟩) (v := ?_) rfl (by kernel_rfl) (by kernel_rfl) (by kernel_rfl) (fun _ _ _ h => h) (Or.inl ⟨by rfl, ?_⟩) (by assumption) ?_
  rotate_left
  · (intro w hSw; (try dsimp only at hSw); go_simp; try with_reducible rfl)
  try simp only [Act.put, List.setIfInBounds_toArray, List.set_cons_zero, List.set_cons_succ]
  refine wpAnyH_take (i := 31) (oi := ⟨some 45, _, _, _, _, _⟩) (v := ?_) rfl (by kernel_rfl) (by kernel_rfl) (by kernel_rfl) (fun _ _ _ h => h) (Or.inl ⟨by rfl, ?_⟩) (by assumption) ?_
  rotate_left
  · (intro w hSw; (try dsimp only at hSw); go_simp; try with_reducible rfl)
  try simp only [Act.put, List.setIfInBounds_toArray, List.set_cons_zero, List.set_cons_succ]
  refine wpAnyH_take (i := 32) (oi := ⟨some 46, _, _, _, _, _⟩) (v := ?_) rfl (by kernel_rfl) (by kernel_rfl) (by kernel_rfl) (fun _ _ _ h => h) (Or.inl ⟨by rfl, ?_⟩) (by assumption) ?_
  rotate_left
  · (intro w hSw; (try dsimp only at hSw); go_simp; try with_reducible rfl)
  try simp only [Act.put, List.setIfInBounds_toArray, List.set_cons_zero, List.set_cons_succ]
  refine wpAnyH_take (i := 33) (oi := ⟨some 47, _, _, _, _, _⟩) (v := .bool S.failed) rfl (by kernel_rfl) (by kernel_rfl) (by kernel_rfl) (fun _ _ _ h => h) (Or.inl ⟨by rfl, ?_⟩) (by assumption) ?_
  · (intro w hSw; (try dsimp only at hSw); have h0 := bcells_n hSw r14; go_simp)
  try simp only [Act.put, List.setIfInBounds_toArray, List.set_cons_zero, List.set_cons_succ]
  refine wpAnyH_ready (rs := [29]) (by kernel_rfl) (by simp) ?_
  refine AllReadyH.cons (o := ⟨some 43, _, _, _, _, _⟩) rfl (fun K hK => ?_) AllReadyH.nil
  go_simp
  refine (Failed_ok L vt S _ (HMQ.out.below hHeld)).mono ?_
  rintro e wf ⟨rfl, rfl⟩
  go_wp2_with fail
  refine hK.out _ _ ?_ (fun hHeld => ?_)
  · (try dsimp only); first | exact hHeld | exact hHeld.drew | exact hx52 | exact hx47 | exact hx43 | exact hx38 | exact Below.refl _ _ | exact (Below.refl _ _).drew | exact Qw.below (⟨1, rfl⟩ : Qw wq wq.drew) _
  clear hK K
  try simp only [Act.put, List.setIfInBounds_toArray, List.set_cons_zero, List.set_cons_succ]
  refine wpAnyH_take (i := 34) (oi := ⟨some 48, _, _, _, _, _⟩) (v := .bool true) rfl (by kernel_rfl) (by kernel_rfl) (by kernel_rfl) (fun _ _ _ h => h) (Or.inl ⟨by rfl, ?_⟩) (by assumption) ?_
  · (intro w hSw; (try dsimp only at hSw); go_simp)
  try simp only [Act.put, List.setIfInBounds_toArray, List.set_cons_zero, List.set_cons_succ]
  refine wpAnyH_take (i := 35) (oi := ⟨some 49, _, _, _, _, _⟩) (v := ?_) rfl (by kernel_rfl) (by kernel_rfl) (by kernel_rfl) (fun _ _ _ h => h) (Or.inl ⟨by rfl, ?_⟩) (by assumption) ?_
  rotate_left
  · (intro w hSw; (try dsimp only at hSw); go_simp; try with_reducible rfl)
  try simp only [Act.put, List.setIfInBounds_toArray, List.set_cons_zero, List.set_cons_succ]
  refine wpAnyH_take (i := 36) (oi := ⟨some 50, _, _, _, _, _⟩) (v := ?_) rfl (by kernel_rfl) (by kernel_rfl) (by kernel_rfl) (fun _ _ _ h => h) (Or.inl ⟨by rfl, ?_⟩) (by assumption) ?_
  rotate_left
  · (intro w hSw; (try dsimp only at hSw); go_simp; try with_reducible rfl)
  try simp only [Act.put, List.setIfInBounds_toArray, List.set_cons_zero, List.set_cons_succ]
  refine wpAnyH_take (i := 37) (oi := ⟨some 51, _, _, _, _, _⟩) (v := ?_) rfl (by kernel_rfl) (by kernel_rfl) (by kernel_rfl) (fun _ _ _ h => h) (Or.inl ⟨by rfl, ?_⟩) (by assumption) ?_
  rotate_left
  · (intro w hSw; (try dsimp only at hSw); go_simp; try with_reducible rfl)
  try simp only [Act.put, List.setIfInBounds_toArray, List.set_cons_zero, List.set_cons_succ]
  refine wpAnyH_take (i := 39) (oi := ⟨some 53, _, _, _, _, _⟩) (v := ?_) rfl (by kernel_rfl) (by kernel_rfl) (by kernel_rfl) (fun _ _ _ h => h) (Or.inl ⟨by rfl, ?_⟩) (by assumption) ?_
  rotate_left
  · (intro w hSw; (try dsimp only at hSw); go_simp; try with_reducible rfl)
  try simp only [Act.put, List.setIfInBounds_toArray, List.set_cons_zero, List.set_cons_succ]
  refine wpAnyH_take (i := 40) (oi := ⟨some 54, _, _, _, _, _⟩) (v := ?_) rfl (by kernel_rfl) (by kernel_rfl) (by kernel_rfl) (fun _ _ _ h => h) (Or.inl ⟨by rfl, ?_⟩) (by assumption) ?_
  rotate_left
  · (intro w hSw; (try dsimp only at hSw); go_simp; try with_reducible rfl)
  try simp only [Act.put, List.setIfInBounds_toArray, List.set_cons_zero, List.set_cons_succ]
  refine wpAnyH_take (i := 41) (oi := ⟨some 55, _, _, _, _, _⟩) (v := ?_) rfl (by kernel_rfl) (by kernel_rfl) (by kernel_rfl) (fun _ _ _ h => h) (Or.inl ⟨by rfl, ?_⟩) (by assumption) ?_
  rotate_left
  · (intro w hSw; (try dsimp only at hSw); go_simp; try with_reducible rfl)
  try simp only [Act.put, List.setIfInBounds_toArray, List.set_cons_zero, List.set_cons_succ]
  refine wpAnyH_take (i := 42) (oi := ⟨some 56, _, _, _, _, _⟩) (v := .slice R.Ab R.n R.cbt) rfl (by kernel_rfl) (by kernel_rfl) (by kernel_rfl) (fun _ _ _ h => h) (Or.inl ⟨by rfl, ?_⟩) (by assumption) ?_
  · (intro w hSw; (try dsimp only at hSw); have h0 := bcells_n hSw r5; go_simp)
  try simp only [Act.put, List.setIfInBounds_toArray, List.set_cons_zero, List.set_cons_succ]
  refine wpAnyH_ready (rs := [38]) (by kernel_rfl) (by simp) ?_
  refine AllReadyH.cons (o := ⟨some 52, _, _, _, _, _⟩) rfl (fun K hK => ?_) AllReadyH.nil
  go_simp
  have hbit := fun w h => Bits_ok L vt S w h
  rw [← HN.out] at hbit
  refine (hbit _ (HMQ.out.below hHeld)).mono ?_
  clear hbit
  rintro e wb ⟨Ax, cx, rfl, hcx, hox, hbx⟩
  have hx38 := hHeld.trans (hbx.mono hHeld.size)
  have HOX := Lib.hid (Rd.own hox)
  clear hox hbx
  go_wp2_with fail
  refine hK.out _ _ ?_ (fun hHeld => ?_)
  · (try dsimp only); first | exact hHeld | exact hHeld.drew | exact hx52 | exact hx47 | exact hx43 | exact hx38 | exact Below.refl _ _ | exact (Below.refl _ _).drew | exact Qw.below (⟨1, rfl⟩ : Qw wq wq.drew) _
  clear hK K
  try simp only [Act.put, List.setIfInBounds_toArray, List.set_cons_zero, List.set_cons_succ]
  refine wpAnyH_ready (rs := [43]) (by kernel_rfl) (by simp) ?_
  refine AllReadyH.cons (o := ⟨some 57, _, _, _, _, _⟩) rfl (fun K hK => ?_) AllReadyH.nil
  go_simp
  refine (Bools_eq Ax R.Ab R.n cx R.cbt S.b _ (by omega) HOX.out (Rd.own (HRQ.out.below hHeld).bits)).mono ?_
  rintro e wc ⟨rfl, hqc⟩
  have hx43 := hHeld.trans (hqc.below _)
  go_wp2_with fail
  refine hK.out _ _ ?_ (fun hHeld => ?_)
  · (try dsimp only); first | exact hHeld | exact hHeld.drew | exact hx52 | exact hx47 | exact hx43 | exact hx38 | exact Below.refl _ _ | exact (Below.refl _ _).drew | exact Qw.below (⟨1, rfl⟩ : Qw wq wq.drew) _
  clear hK K
  try simp only [Act.put, List.setIfInBounds_toArray, List.set_cons_zero, List.set_cons_succ]
  refine wpAnyH_take (i := 44) (oi := ⟨some 58, _, _, _, _, _⟩) (v := ?_) rfl (by kernel_rfl) (by kernel_rfl) (by kernel_rfl) (fun _ _ _ h => h) (Or.inl ⟨by rfl, ?_⟩) (by assumption) ?_
  rotate_left
  · (intro w hSw; (try dsimp only at hSw); go_simp; try with_reducible rfl)
  try simp only [Act.put, List.setIfInBounds_toArray, List.set_cons_zero, List.set_cons_succ]
  refine wpAnyH_take (i := 45) (oi := ⟨some 59, _, _, _, _, _⟩) (v := ?_) rfl (by kernel_rfl) (by kernel_rfl) (by kernel_rfl) (fun _ _ _ h => h) (Or.inl ⟨by rfl, ?_⟩) (by assumption) ?_
  rotate_left
  · (intro w hSw; (try dsimp only at hSw); go_simp; try with_reducible rfl)
  try simp only [Act.put, List.setIfInBounds_toArray, List.set_cons_zero, List.set_cons_succ]
  refine wpAnyH_take (i := 46) (oi := ⟨some 60, _, _, _, _, _⟩) (v := ?_) rfl (by kernel_rfl) (by kernel_rfl) (by kernel_rfl) (fun _ _ _ h => h) (Or.inl ⟨by rfl, ?_⟩) (by assumption) ?_
  rotate_left
  · (intro w hSw; (try dsimp only at hSw); go_simp; try with_reducible rfl)
  try simp only [Act.put, List.setIfInBounds_toArray, List.set_cons_zero, List.set_cons_succ]
  refine wpAnyH_take (i := 48) (oi := ⟨some 62, _, _, _, _, _⟩) (v := ?_) rfl (by kernel_rfl) (by kernel_rfl) (by kernel_rfl) (fun _ _ _ h => h) (Or.inl ⟨by rfl, ?_⟩) (by assumption) ?_
  rotate_left
  · (intro w hSw; (try dsimp only at hSw); go_simp; try with_reducible rfl)
  try simp only [Act.put, List.setIfInBounds_toArray, List.set_cons_zero, List.set_cons_succ]
  refine wpAnyH_take (i := 49) (oi := ⟨some 63, _, _, _, _, _⟩) (v := ?_) rfl (by kernel_rfl) (by kernel_rfl) (by kernel_rfl) (fun _ _ _ h => h) (Or.inl ⟨by rfl, ?_⟩) (by assumption) ?_
  rotate_left
  · (intro w hSw; (try dsimp only at hSw); go_simp; try with_reducible rfl)
  try simp only [Act.put, List.setIfInBounds_toArray, List.set_cons_zero, List.set_cons_succ]
  refine wpAnyH_take (i := 50) (oi := ⟨some 64, _, _, _, _, _⟩) (v := ?_) rfl (by kernel_rfl) (by kernel_rfl) (by kernel_rfl) (fun _ _ _ h => h) (Or.inl ⟨by rfl, ?_⟩) (by assumption) ?_
  rotate_left
  · (intro w hSw; (try dsimp only at hSw); go_simp; try with_reducible rfl)
  try simp only [Act.put, List.setIfInBounds_toArray, List.set_cons_zero, List.set_cons_succ]
  refine wpAnyH_take (i := 51) (oi := ⟨some 65, _, _, _, _, _⟩) (v := .slice At S.told.length ct) rfl (by kernel_rfl) (by kernel_rfl) (by kernel_rfl) (fun _ _ _ h => h) (Or.inl ⟨by rfl, ?_⟩) (by assumption) ?_
  · (intro w hSw; (try dsimp only at hSw); have h0 := bcells_n hSw r7; go_simp)
  try simp only [Act.put, List.setIfInBounds_toArray, List.set_cons_zero, List.set_cons_succ]
  refine wpAnyH_ready (rs := [47]) (by kernel_rfl) (by simp) ?_
  refine AllReadyH.cons (o := ⟨some 61, _, _, _, _, _⟩) rfl (fun K hK => ?_) AllReadyH.nil
  go_simp
  refine (Known_any L vt S _ (HMQ.out.below hHeld) hlen).mono ?_
  rintro e wk ⟨Ak, ck, hek, hck, hok, hbk⟩
  obtain rfl : e = .returned (.slice Ak S.told.length ck) := hek
  have hx47 := hHeld.trans (hbk.mono hHeld.size)
  have HOK := Lib.hid (Rd.own hok)
  clear hok hbk
  go_wp2_with fail
  refine hK.out _ _ ?_ (fun hHeld => ?_)
  · (try dsimp only); first | exact hHeld | exact hHeld.drew | exact hx52 | exact hx47 | exact hx43 | exact hx38 | exact Below.refl _ _ | exact (Below.refl _ _).drew | exact Qw.below (⟨1, rfl⟩ : Qw wq wq.drew) _
  clear hK K
  try simp only [Act.put, List.setIfInBounds_toArray, List.set_cons_zero, List.set_cons_succ]
  refine wpAnyH_ready (rs := [52]) (by kernel_rfl) (by simp) ?_
  refine AllReadyH.cons (o := ⟨some 66, _, _, _, _, _⟩) rfl (fun K hK => ?_) AllReadyH.nil
  go_simp
  refine (Answers_eq Ak At S.told.length ck ct S.told _ (by omega) rfl HOK.out (Rd.own (HRQ.out.below hHeld).told)).mono ?_
  rintro e wd ⟨rfl, hqd⟩
  have hx52 := hHeld.trans (hqd.below _)
  go_wp2_with fail
  refine hK.out _ _ ?_ (fun hHeld => ?_)
  · (try dsimp only); first | exact hHeld | exact hHeld.drew | exact hx52 | exact hx47 | exact hx43 | exact hx38 | exact Below.refl _ _ | exact (Below.refl _ _).drew | exact Qw.below (⟨1, rfl⟩ : Qw wq wq.drew) _
  clear hK K
  try simp only [Act.put, List.setIfInBounds_toArray, List.set_cons_zero, List.set_cons_succ]
  refine wpAnyH_take (i := 53) (oi := ⟨some 67, _, _, _, _, _⟩) (v := ?_) rfl (by kernel_rfl) (by kernel_rfl) (by kernel_rfl) (fun _ _ _ h => h) (Or.inl ⟨by rfl, ?_⟩) (by assumption) ?_
  rotate_left
  · (intro w hSw; (try dsimp only at hSw); go_simp; try with_reducible rfl)
  try simp only [Act.put, List.setIfInBounds_toArray, List.set_cons_zero, List.set_cons_succ]
  refine wpAnyH_take (i := 54) (oi := ⟨some 4, _, _, _, _, _⟩) (v := ?_) rfl (by kernel_rfl) (by kernel_rfl) (by kernel_rfl) (fun _ _ _ h => h) (Or.inl ⟨by rfl, ?_⟩) (by assumption) ?_
  rotate_left
  · (intro w hSw; (try dsimp only at hSw); go_simp; try with_reducible rfl)
  try simp only [Act.put, List.setIfInBounds_toArray, List.set_cons_zero, List.set_cons_succ]
  refine wpAnyH_done (by kernel_rfl) ?_ _
  go_wp2_with fail
  go_ret
  exact ⟨rfl, HBQ.out.trans (hx52.mono HBQ.out.size)⟩
end Go.Proofs.Ytoofnkkbebjldaa
/- The walk of ReconcileCourse: it returns true for any input. Conditions: none beyond the arguments' types. -/
namespace Go.Proofs.Ytoofnkkbebjldaa
open Go.RowKit
set_option linter.unusedVariables false
/-- What lies in memory at a round. -/
structure CW (wN w : World) (P B s n : Nat) (L : Lay) (vt : Value) (S : Mst) : Prop where
  mat : MAt w L vt S
  bl : Below wN.heap.size wN w
  base : wN.heap.size ≤ L.base
  ln : L.n = n
  lP : L.P = P
  lB : L.B = B
  ls : L.s = s
theorem CW.past {wN w w' : World} {P B s n : Nat} {L : Lay} {vt : Value} {S : Mst} (h : CW wN w P B s n L vt S) (hb : Below w.heap.size w w') : CW wN w' P B s n L vt S :=
  { h with mat := h.mat.below hb, bl := h.bl.trans (hb.mono h.bl.size) }
set_option maxRecDepth 100000 in
set_option maxHeartbeats 8000000 in
theorem ReconcileCourse_walk (v0 : Value) (i0 : CascadeArg) (v1 : Value) (i1 : BitsArg) (v2 : Value) (i2 : BitsArg) (at' : Nat) (w : World) (hx0 : IsCascade w v0 i0) (hx1 : IsBits w v1 i1) (hx2 : IsBits w v2 i2) (hat : at' < 256) :
    Calls Try.prog 9 #[v0, v1, v2, .int .u8 at'] w fun e w' => e = .returned (.bool true) ∧ Below w.heap.size w w' := by
  obtain ⟨P, B, s⟩ := i0
  obtain ⟨A, n, c, x⟩ := i1
  obtain ⟨A', m', c', y⟩ := i2
  obtain ⟨rfl, _, _, hs⟩ := hx0
  obtain ⟨rfl, hc, _, hl, h⟩ := hx1
  obtain ⟨rfl, hc', _, hl', h'⟩ := hx2
  simp only at hl hl' hc hc' hs ⊢
  have hs2 : s < two64 := hs
  obtain ⟨b, hb⟩ : ∃ b, b = x.take 48 := ⟨_, rfl⟩
  obtain ⟨ans, hans⟩ : ∃ a, a = y.take 150 := ⟨_, rfl⟩
  obtain ⟨m, hm⟩ : ∃ m, m = min n 48 := ⟨_, rfl⟩
  obtain ⟨k, hk⟩ : ∃ k, k = min m' 150 := ⟨_, rfl⟩
  have hm48 : m ≤ 48 := by omega
  have hk150 : k ≤ 150 := by omega
  have hal : ans.length = k := by rw [hans, List.length_take, hl', hk, Nat.min_comm]
  have H := Lib.hid h; have H' := Lib.hid h'; have HBB := Lib.hid hb; have HAN := Lib.hid hans; have HM := Lib.hid hm; have HK := Lib.hid hk; have HAL := Lib.hid hal
  have HP := Lib.hid (BoxI.mk (heap_alloc_new w (.cells (casC P B s) 24)) : BoxI _ w.heap.size P B (.int .u64 s) 24)
  have HB0 := Lib.hid ((Below.refl w.heap.size w).alloc (Nat.le_refl _) (.cells (casC P B s) 24))
  clear h hs hl h' hl' hb hans hm hk hal
  go_enter Try.func9, Try.ntmps9
  go_wp2_with fail
  refine (short_any A n c 48 x _ hc (by omega) (H.out.past HB0.out)).mono ?_
  rintro e w1 ⟨A1, c1, he, hc1, ho1, hb1⟩
  obtain rfl : e = .returned (.slice A1 (min n 48) c1) := he
  rw [← HM.out, ← HBB.out] at ho1
  rw [← HM.out] at hc1 ⊢
  have HP1 := Lib.hid (HP.out.past hb1); have HB1 := Lib.hid (bnext HB0.out hb1); have HR1 := Lib.hid (Rd.own ho1)
  clear ho1 hb1 HP HB0
  go_wp2_with fail
  refine (short_any A' m' c' 150 y _ hc' (by omega) (H'.out.past HB1.out)).mono ?_
  rintro e w2 ⟨A2, c2, he, hc2, ho2, hb2⟩
  obtain rfl : e = .returned (.slice A2 (min m' 150) c2) := he
  rw [← HK.out, ← HAN.out] at ho2
  rw [← HK.out] at hc2 ⊢
  have HP2 := Lib.hid (HP1.out.past hb2); have HB2 := Lib.hid (bnext HB1.out hb2); have HR2 := Lib.hid (HR1.out.past hb2); have HS2 := Lib.hid (Rd.own ho2)
  have d0 := HP2.out.c0; have d1 := HP2.out.c1; have d2 := HP2.out.c2
  clear ho2 hb2 HP1 HB1 HR1 H H' HBB HAN HM HK
  go_wp2_with fail
  by_cases hck : checkE P B = 0
  · obtain ⟨h1, h2, h3, h4⟩ := checkE_ok.1 hck
    obtain ⟨P, rfl⟩ := Int.eq_ofNat_of_zero_le (a := P) (by omega)
    obtain ⟨B, rfl⟩ := Int.eq_ofNat_of_zero_le (a := B) (by omega)
    have hP1 : 1 ≤ P := by omega
    have hP6 : P ≤ 6 := by omega
    have hB1 : 1 ≤ B := by omega
    have hB5 : B ≤ 512 := by omega
    have HCK := Lib.hid hck
    clear hck h1 h2 h3 h4
    refine (New_ok A1 m c1 P B s b _ hP1 hP6 hB1 hB5 hs2 (by omega) HR2.out).mono ?_
    rintro e w3 ⟨L, vt, rfl, hLn, hLP, hLB, hLs, hbase, hm3, hb3⟩
    have hbl : b.length = m := by have := HR2.out.1; simpa using this
    have HCI : Hid (CI L b ans 0 (advS L (st0 b))) := Lib.hid (CI.start (by omega) (by omega) (by omega))
    have HCW : Hid (CW w2 w3 P B s m L vt (advS L (st0 b))) := Lib.hid ⟨hm3, hb3, Nat.le_of_lt hbase, hLn, hLP, hLB, hLs⟩
    have HP3 := Lib.hid (HP2.out.past hb3)
    have e0 := HP3.out.c0; have e1 := HP3.out.c1; have e2 := HP3.out.c2
    clear d0 d1 d2 hLn hLP hLB hLs hbase hm3 hb3
    go_wp2_with fail
    refine (refCheck_ex _ _ _ _).mono ?_
    rintro e w4 ⟨⟨E, hE, rfl⟩, hs4, hb4⟩
    obtain rfl : E = 0 := hE.trans HCK.out
    have HCW4 := Lib.hid (HCW.out.past hb4)
    clear hE hs4 hb4 HCW HP3 e0 e1 e2
    go_wp2_with fail
    go_loopw [9, 11, 12, 13] (fun mv iv _ _ wr => ∃ (i : Nat) (L : Lay) (vt : Value) (S : Mst), i ≤ k + 1 ∧ iv = .int .i64 i ∧ mv = ptrV L ∧ CW w2 wr P B s m L vt S ∧ (i ≤ k → CI L b ans i S)) (fun _ iv _ _ _ => k + 1 - (intOf iv).toNat)
    case atStart => exact ⟨0, L, vt, _, by omega, rfl, rfl, HCW4.out, fun _ => HCI.out⟩
    case round =>
      obtain ⟨i, L, vt, S, hi, rfl, rfl, hcw, hci⟩ := hrel
      obtain ⟨wa, rfl⟩ : ∃ z : World, z = wr := ⟨_, rfl⟩
      have HW := Lib.hid hcw; have HI := Lib.hid hci
      clear hcw hci HCW4 HCI
      by_cases hik : i ≤ k
      · have hii : (i : Int) ≤ (k : Int) := by omega
        have HPA := Lib.hid (HP2.out.past (HW.out.bl))
        have e0 := HPA.out.c0; have e1 := HPA.out.c1; have e2 := HPA.out.c2
        obtain ⟨A3, hsl, hr3⟩ := slice_hd (P := Try.prog) (t := 25) (sz := 1) Try.underlying25 Try.sizeOf4 (HS2.out.past HW.out.bl) (i : Int) i c2 rfl hik hc2
        have HR3 : Hid (Rd wa wa.heap.size 1 A3 i ((ans.take i).map Value.bool)) := Lib.hid (by simpa [List.map_take] using hr3)
        have HC := Lib.hid (HI.out hik)
        clear hr3
        go_wp2_with fail
        refine wp_region_quiet_tail 5 (by kernel_rfl) (by kernel_rfl) ?_
        simp only [List.take_succ_cons, List.take_zero, List.drop_succ_cons, List.drop_zero]
        repeat (quiet_step (fail))
        refine wpQuiet_nil ?_
        intro _ hw'
        obtain ⟨nr, hw''⟩ := hw'
        subst hw''
        have HQ := Lib.hid (Qw.below (⟨nr, rfl⟩ : Qw wa (wa.drewN nr)) wa.heap.size)
        clear e0 e1 e2 hsl
        go_wp2_with fail
        refine (Replay_any A1 A3 m c1 i c2 P B s b (ans.take i) _ hP1 hP6 hB1 hB5 hs2 (by omega) (by omega) ((HR2.out.past HW.out.bl).past HQ.out) (HR3.out.past HQ.out)).mono ?_
        rintro e w5 ⟨R, X, kv, vt2, vl, vy, rfl, hRn, hRP, hRB, hRs, hRb, hat5, hb5, hgo, hfin, hinv⟩
        obtain rfl : X = S := HC.out.meet (hRn.trans HW.out.ln.symm) (hRP.trans HW.out.lP.symm) (hRB.trans HW.out.lB.symm) (hRs.trans HW.out.ls.symm) hgo hfin
        have HW5 := Lib.hid ((HW.out.past HQ.out).past hb5); have HAT5 := Lib.hid hat5
        have HRN := Lib.hid (hRn.trans HW.out.ln.symm)
        have hlen : X.told.length ≤ 1000 := by have := HC.out.len; omega
        have HNE := Lib.hid HW.out.mat.near
        have HRB : Hid (wa.heap.size ≤ R.base) := Lib.hid (by have := HQ.out.size; omega)
        clear hRn hRP hRB hRs hRb hat5 hb5 hgo hfin hinv HW HQ
        go_wp2_with fail
        refine (course_any L vt R _ kv vt2 vl vy X _ HW5.out.mat HAT5.out HRN.out (by omega)).mono ?_
        rintro e w6 ⟨rfl, hb6⟩
        have HW6 := Lib.hid (HW5.out.past hb6); have HAT6 := Lib.hid (HAT5.out.below hb6)
        clear hb6 HW5 HAT5
        by_cases hq : ((i : Int) == (at' : Int) % 150) = true
        · go_wp2_with fail
          refine (mcopy_any L vt X _ HW6.out.mat (by omega)).mono ?_
          rintro e w7 ⟨km1, A4, c4, vt1, rfl, hk1, ha1, hv1, hm7, hb7⟩
          have HF : Hid (Far w6.heap.size (copyL L w6.heap.size km1 A4 c4) vt1) := Lib.hid ⟨Nat.le_refl _, hk1, ha1, hv1⟩
          have HN7 := Lib.hid hm7; have HB67 := Lib.hid hb7; have HAT7 := Lib.hid (HAT6.out.below hb7); have HW7 := Lib.hid (HW6.out.past hb7)
          have HC1 := Lib.hid (HC.out.copy w6.heap.size km1 A4 c4)
          clear hk1 ha1 hv1 hm7 hb7
          have r13 : w7.cell? ⟨R.p, 13, none⟩ = some (.bool X.opn) := HAT7.out.cell 13
          have r13o : w6.cell? ⟨R.p, 13, none⟩ = some (.bool X.opn) := HAT6.out.cell 13
          have hrl : R.p < w6.heap.size := HAT6.out.lt
          cases hop : X.opn
          · rw [hop] at r13 r13o
            have HO := Lib.hid hop
            clear hop
            go_wp2_with fail
            refine wp_region_held_drew (S := fun w' => Below w6.heap.size w6 w') (by kernel_rfl) ?_ (fun hHeld => ?_)
            · (try dsimp only); first | exact hHeld | exact hHeld.drew | exact hx10 | exact hx9 | exact hx8 | exact hx9.drew | exact hx8.drew | exact HB67.out | exact HB67.out.drew
            refine wpAnyH_take (i := 0) (oi := ⟨some 61, _, _, _, _, _⟩) (v := ?_) rfl (by kernel_rfl) (by kernel_rfl) (by kernel_rfl) (fun _ _ _ h => h) (Or.inl ⟨by rfl, ?_⟩) (by assumption) ?_
            rotate_left
            · (intro w hSw; (try dsimp only at hSw); go_simp; try with_reducible rfl)
            try simp only [Act.put, List.setIfInBounds_toArray, List.set_cons_zero, List.set_cons_succ]
            refine wpAnyH_take (i := 1) (oi := ⟨some 62, _, _, _, _, _⟩) (v := .bool false) rfl (by kernel_rfl) (by kernel_rfl) (by kernel_rfl) (fun _ _ _ h => h) (Or.inl ⟨by rfl, ?_⟩) (by assumption) ?_
            · (intro w hSw; (try dsimp only at hSw); go_simp)
            try simp only [Act.put, List.setIfInBounds_toArray, List.set_cons_zero, List.set_cons_succ]
            refine wpAnyH_take (i := 2) (oi := ⟨some 63, _, _, _, _, _⟩) (v := ?_) rfl (by kernel_rfl) (by kernel_rfl) (by kernel_rfl) (fun _ _ _ h => h) (Or.inl ⟨by rfl, ?_⟩) (by assumption) ?_
            rotate_left
            · (intro w hSw; (try dsimp only at hSw); go_simp; try with_reducible rfl)
            try simp only [Act.put, List.setIfInBounds_toArray, List.set_cons_zero, List.set_cons_succ]
            refine wpAnyH_take (i := 3) (oi := ⟨some 64, _, _, _, _, _⟩) (v := ?_) rfl (by kernel_rfl) (by kernel_rfl) (by kernel_rfl) (fun _ _ _ h => h) (Or.inl ⟨by rfl, ?_⟩) (by assumption) ?_
            rotate_left
            · (intro w hSw; (try dsimp only at hSw); go_simp; try with_reducible rfl)
            try simp only [Act.put, List.setIfInBounds_toArray, List.set_cons_zero, List.set_cons_succ]
            refine wpAnyH_take (i := 4) (oi := ⟨some 65, _, _, _, _, _⟩) (v := ?_) rfl (by kernel_rfl) (by kernel_rfl) (by kernel_rfl) (fun _ _ _ h => h) (Or.inl ⟨by rfl, ?_⟩) (by assumption) ?_
            rotate_left
            · (intro w hSw; (try dsimp only at hSw); go_simp; try with_reducible rfl)
            try simp only [Act.put, List.setIfInBounds_toArray, List.set_cons_zero, List.set_cons_succ]
            refine wpAnyH_ready (rs := [5]) (by kernel_rfl) (by simp) ?_
            refine AllReadyH.cons (o := ⟨some 66, _, _, _, _, _⟩) rfl (fun K hK => ?_) AllReadyH.nil
            go_simp
            have HN7x : Hid (MAt w7.drew (copyL L w6.heap.size km1 A4 c4) vt1 X) := Lib.hid (HN7.out.q (⟨1, rfl⟩ : Qw w7 w7.drew))
            have HAT7x := Lib.hid (HAT7.out.q (⟨1, rfl⟩ : Qw w7 w7.drew))
            refine (course_any (copyL L w6.heap.size km1 A4 c4) vt1 R _ kv vt2 vl vy X _ HN7x.out HAT7x.out HRN.out (by omega)).mono ?_
            rintro e w8 ⟨rfl, hb8⟩
            have hx8 : Below w6.heap.size w6 w8 := hHeld.trans (hb8.mono hHeld.size)
            have HN8 := Lib.hid (HN7x.out.below hb8)
            clear hb8
            go_wp2_with fail
            refine hK.out _ _ ?_ (fun hHeld => ?_)
            · (try dsimp only); first | exact hHeld | exact hHeld.drew | exact hx10 | exact hx9 | exact hx8 | exact hx9.drew | exact hx8.drew | exact HB67.out | exact HB67.out.drew
            clear hK K
            try simp only [Act.put, List.setIfInBounds_toArray, List.set_cons_zero, List.set_cons_succ]
            refine wpAnyH_take (i := 6) (oi := ⟨some 67, _, _, _, _, _⟩) (v := .bool false) rfl (by kernel_rfl) (by kernel_rfl) (by kernel_rfl) (fun _ _ _ h => h) (Or.inl ⟨by rfl, ?_⟩) (by assumption) ?_
            · (intro w hSw; (try dsimp only at hSw); go_simp)
            try simp only [Act.put, List.setIfInBounds_toArray, List.set_cons_zero, List.set_cons_succ]
            refine wpAnyH_take (i := 7) (oi := ⟨some 68, _, _, _, _, _⟩) (v := ?_) rfl (by kernel_rfl) (by kernel_rfl) (by kernel_rfl) (fun _ _ _ h => h) (Or.inl ⟨by rfl, ?_⟩) (by assumption) ?_
            rotate_left
            · (intro w hSw; (try dsimp only at hSw); go_simp; try with_reducible rfl)
            try simp only [Act.put, List.setIfInBounds_toArray, List.set_cons_zero, List.set_cons_succ]
            refine wpAnyH_take (i := 8) (oi := ⟨some 69, _, _, _, _, _⟩) (v := ?_) rfl (by kernel_rfl) (by kernel_rfl) (by kernel_rfl) (fun _ _ _ h => h) (Or.inl ⟨by rfl, ?_⟩) (by assumption) ?_
            rotate_left
            · (intro w hSw; (try dsimp only at hSw); go_simp; try with_reducible rfl)
            try simp only [Act.put, List.setIfInBounds_toArray, List.set_cons_zero, List.set_cons_succ]
            refine wpAnyH_take (i := 9) (oi := ⟨some 70, _, _, _, _, _⟩) (v := ?_) rfl (by kernel_rfl) (by kernel_rfl) (by kernel_rfl) (fun _ _ _ h => h) (Or.inl ⟨by rfl, ?_⟩) (by assumption) ?_
            rotate_left
            · (intro w hSw; (try dsimp only at hSw); go_simp; try with_reducible rfl)
            try simp only [Act.put, List.setIfInBounds_toArray, List.set_cons_zero, List.set_cons_succ]
            refine wpAnyH_take (i := 12) (oi := ⟨some 73, _, _, _, _, _⟩) (v := ?_) rfl (by kernel_rfl) (by kernel_rfl) (by kernel_rfl) (fun _ _ _ h => h) (Or.inl ⟨by rfl, ?_⟩) (by assumption) ?_
            rotate_left
            · (intro w hSw; (try dsimp only at hSw); go_simp; try with_reducible rfl)
            try simp only [Act.put, List.setIfInBounds_toArray, List.set_cons_zero, List.set_cons_succ]
            refine wpAnyH_take (i := 13) (oi := ⟨some 74, _, _, _, _, _⟩) (v := ?_) rfl (by kernel_rfl) (by kernel_rfl) (by kernel_rfl) (fun _ _ _ h => h) (Or.inl ⟨by rfl, ?_⟩) (by assumption) ?_
            rotate_left
            · (intro w hSw; (try dsimp only at hSw); go_simp; try with_reducible rfl)
            try simp only [Act.put, List.setIfInBounds_toArray, List.set_cons_zero, List.set_cons_succ]
            refine wpAnyH_take (i := 14) (oi := ⟨some 75, _, _, _, _, _⟩) (v := ?_) rfl (by kernel_rfl) (by kernel_rfl) (by kernel_rfl) (fun _ _ _ h => h) (Or.inl ⟨by rfl, ?_⟩) (by assumption) ?_
            rotate_left
            · (intro w hSw; (try dsimp only at hSw); go_simp; try with_reducible rfl)
            try simp only [Act.put, List.setIfInBounds_toArray, List.set_cons_zero, List.set_cons_succ]
            refine wpAnyH_take (i := 15) (oi := ⟨some 76, _, _, _, _, _⟩) (v := .bool false) rfl (by kernel_rfl) (by kernel_rfl) (by kernel_rfl) (fun _ _ _ h => h) (Or.inl ⟨by rfl, ?_⟩) (by assumption) ?_
            · (intro w hSw; (try dsimp only at hSw); have h0 := bcells_n hSw r13o; go_simp)
            try simp only [Act.put, List.setIfInBounds_toArray, List.set_cons_zero, List.set_cons_succ]
            refine wpAnyH_ready (rs := [10]) (by kernel_rfl) (by simp) ?_
            refine AllReadyH.cons (o := ⟨some 71, _, _, _, _, _⟩) rfl (fun K hK => ?_) AllReadyH.nil
            go_simp
            refine (Tell_shut (copyL L w6.heap.size km1 A4 c4) vt1 X true _ HN8.out HO.out).mono ?_
            rintro e w9 ⟨rfl, rfl⟩
            have hx9 : Below w6.heap.size w6 w8 := hx8
            go_wp2_with fail
            refine hK.out _ _ ?_ (fun hHeld => ?_)
            · (try dsimp only); first | exact hHeld | exact hHeld.drew | exact hx10 | exact hx9 | exact hx8 | exact hx9.drew | exact hx8.drew | exact HB67.out | exact HB67.out.drew
            clear hK K
            try simp only [Act.put, List.setIfInBounds_toArray, List.set_cons_zero, List.set_cons_succ]
            refine wpAnyH_take (i := 11) (oi := ⟨some 72, _, _, _, _, _⟩) (v := .bool false) rfl (by kernel_rfl) (by kernel_rfl) (by kernel_rfl) (fun _ _ _ h => h) (Or.inl ⟨by rfl, ?_⟩) (by assumption) ?_
            · (intro w hSw; (try dsimp only at hSw); go_simp)
            try simp only [Act.put, List.setIfInBounds_toArray, List.set_cons_zero, List.set_cons_succ]
            refine wpAnyH_take (i := 16) (oi := ⟨some 77, _, _, _, _, _⟩) (v := .bool false) rfl (by kernel_rfl) (by kernel_rfl) (by kernel_rfl) (fun _ _ _ h => h) (Or.inl ⟨by rfl, ?_⟩) (by assumption) ?_
            · (intro w hSw; (try dsimp only at hSw); go_simp)
            try simp only [Act.put, List.setIfInBounds_toArray, List.set_cons_zero, List.set_cons_succ]
            refine wpAnyH_take (i := 17) (oi := ⟨some 78, _, _, _, _, _⟩) (v := ?_) rfl (by kernel_rfl) (by kernel_rfl) (by kernel_rfl) (fun _ _ _ h => h) (Or.inl ⟨by rfl, ?_⟩) (by assumption) ?_
            rotate_left
            · (intro w hSw; (try dsimp only at hSw); go_simp; try with_reducible rfl)
            try simp only [Act.put, List.setIfInBounds_toArray, List.set_cons_zero, List.set_cons_succ]
            refine wpAnyH_take (i := 18) (oi := ⟨some 79, _, _, _, _, _⟩) (v := ?_) rfl (by kernel_rfl) (by kernel_rfl) (by kernel_rfl) (fun _ _ _ h => h) (Or.inl ⟨by rfl, ?_⟩) (by assumption) ?_
            rotate_left
            · (intro w hSw; (try dsimp only at hSw); go_simp; try with_reducible rfl)
            try simp only [Act.put, List.setIfInBounds_toArray, List.set_cons_zero, List.set_cons_succ]
            refine wpAnyH_take (i := 19) (oi := ⟨some 80, _, _, _, _, _⟩) (v := ?_) rfl (by kernel_rfl) (by kernel_rfl) (by kernel_rfl) (fun _ _ _ h => h) (Or.inl ⟨by rfl, ?_⟩) (by assumption) ?_
            rotate_left
            · (intro w hSw; (try dsimp only at hSw); go_simp; try with_reducible rfl)
            try simp only [Act.put, List.setIfInBounds_toArray, List.set_cons_zero, List.set_cons_succ]
            refine wpAnyH_take (i := 20) (oi := ⟨some 81, _, _, _, _, _⟩) (v := ?_) rfl (by kernel_rfl) (by kernel_rfl) (by kernel_rfl) (fun _ _ _ h => h) (Or.inl ⟨by rfl, ?_⟩) (by assumption) ?_
            rotate_left
            · (intro w hSw; (try dsimp only at hSw); go_simp; try with_reducible rfl)
            try simp only [Act.put, List.setIfInBounds_toArray, List.set_cons_zero, List.set_cons_succ]
            refine wpAnyH_ready (rs := [21]) (by kernel_rfl) (by simp) ?_
            refine AllReadyH.cons (o := ⟨some 82, _, _, _, _, _⟩) rfl (fun K hK => ?_) AllReadyH.nil
            go_simp
            refine (course_any L vt R _ kv vt2 vl vy X _ (HW6.out.mat.below hHeld) (HAT6.out.below hHeld) HRN.out (by omega)).mono ?_
            rintro e w10 ⟨rfl, hb10⟩
            have hx10 : Below w6.heap.size w6 w10 := hHeld.trans (hb10.mono hHeld.size)
            clear hb10
            go_wp2_with fail
            refine hK.out _ _ ?_ (fun hHeld => ?_)
            · (try dsimp only); first | exact hHeld | exact hHeld.drew | exact hx10 | exact hx9 | exact hx8 | exact hx9.drew | exact hx8.drew | exact HB67.out | exact HB67.out.drew
            clear hK K
            try simp only [Act.put, List.setIfInBounds_toArray, List.set_cons_zero, List.set_cons_succ]
            refine wpAnyH_take (i := 22) (oi := ⟨some 83, _, _, _, _, _⟩) (v := .bool false) rfl (by kernel_rfl) (by kernel_rfl) (by kernel_rfl) (fun _ _ _ h => h) (Or.inl ⟨by rfl, ?_⟩) (by assumption) ?_
            · (intro w hSw; (try dsimp only at hSw); go_simp)
            try simp only [Act.put, List.setIfInBounds_toArray, List.set_cons_zero, List.set_cons_succ]
            refine wpAnyH_take (i := 23) (oi := ⟨some 84, _, _, _, _, _⟩) (v := ?_) rfl (by kernel_rfl) (by kernel_rfl) (by kernel_rfl) (fun _ _ _ h => h) (Or.inl ⟨by rfl, ?_⟩) (by assumption) ?_
            rotate_left
            · (intro w hSw; (try dsimp only at hSw); go_simp; try with_reducible rfl)
            try simp only [Act.put, List.setIfInBounds_toArray, List.set_cons_zero, List.set_cons_succ]
            refine wpAnyH_done (by kernel_rfl) ?_ _
            go_wp2_with fail
            have HW10 := Lib.hid (HW6.out.past hx10); have HAT10 := Lib.hid (HAT6.out.below hx10)
            refine (mcopy_any L vt X _ HW10.out.mat (by omega)).mono ?_
            rintro e w11 ⟨km2, A5, c5, vtc, rfl, hk2, ha2, hv2, hm11, hb11⟩
            have HF2 : Hid (Far w10.heap.size (copyL L w10.heap.size km2 A5 c5) vtc) := Lib.hid ⟨Nat.le_refl _, hk2, ha2, hv2⟩
            have HNR := Lib.hid HW10.out.mat.near
            have HN11 := Lib.hid hm11; have HM11 := Lib.hid (HW10.out.past hb11); have HAT11 := Lib.hid (HAT10.out.below hb11)
            have HC2 := Lib.hid (HC.out.copy w10.heap.size km2 A5 c5)
            have r13c : w11.cell? ⟨R.p, 13, none⟩ = some (.bool false) := by rw [← HO.out]; exact HAT11.out.cell 13
            clear hk2 ha2 hv2 hm11 hb11 r13 r13o
            go_wp2_with fail
            refine wp_region_held_drew (S := fun w' => w'.cell? ⟨R.p, 13, none⟩ = some (.bool false)) (by kernel_rfl) ?_ (fun hHeld => ?_)
            · (try dsimp only); first | exact r13c | exact r13d | exact r13e | exact hHeld
            refine wpAnyH_take (i := 0) (oi := ⟨some 88, _, _, _, _, _⟩) (v := ?_) rfl (by kernel_rfl) (by kernel_rfl) (by kernel_rfl) (fun _ _ _ h => h) (Or.inl ⟨by rfl, ?_⟩) (by assumption) ?_
            rotate_left
            · (intro w hSw; (try dsimp only at hSw); go_simp; try with_reducible rfl)
            try simp only [Act.put, List.setIfInBounds_toArray, List.set_cons_zero, List.set_cons_succ]
            refine wpAnyH_take (i := 1) (oi := ⟨some 89, _, _, _, _, _⟩) (v := .bool false) rfl (by kernel_rfl) (by kernel_rfl) (by kernel_rfl) (fun _ _ _ h => h) (Or.inl ⟨by rfl, ?_⟩) (by assumption) ?_
            · (intro w hSw; (try dsimp only at hSw); go_simp)
            try simp only [Act.put, List.setIfInBounds_toArray, List.set_cons_zero, List.set_cons_succ]
            refine wpAnyH_take (i := 2) (oi := ⟨some 90, _, _, _, _, _⟩) (v := ?_) rfl (by kernel_rfl) (by kernel_rfl) (by kernel_rfl) (fun _ _ _ h => h) (Or.inl ⟨by rfl, ?_⟩) (by assumption) ?_
            rotate_left
            · (intro w hSw; (try dsimp only at hSw); go_simp; try with_reducible rfl)
            try simp only [Act.put, List.setIfInBounds_toArray, List.set_cons_zero, List.set_cons_succ]
            refine wpAnyH_take (i := 3) (oi := ⟨some 91, _, _, _, _, _⟩) (v := ?_) rfl (by kernel_rfl) (by kernel_rfl) (by kernel_rfl) (fun _ _ _ h => h) (Or.inl ⟨by rfl, ?_⟩) (by assumption) ?_
            rotate_left
            · (intro w hSw; (try dsimp only at hSw); go_simp; try with_reducible rfl)
            try simp only [Act.put, List.setIfInBounds_toArray, List.set_cons_zero, List.set_cons_succ]
            refine wpAnyH_take (i := 6) (oi := ⟨some 94, _, _, _, _, _⟩) (v := ?_) rfl (by kernel_rfl) (by kernel_rfl) (by kernel_rfl) (fun _ _ _ h => h) (Or.inl ⟨by rfl, ?_⟩) (by assumption) ?_
            rotate_left
            · (intro w hSw; (try dsimp only at hSw); go_simp; try with_reducible rfl)
            try simp only [Act.put, List.setIfInBounds_toArray, List.set_cons_zero, List.set_cons_succ]
            refine wpAnyH_take (i := 7) (oi := ⟨some 95, _, _, _, _, _⟩) (v := ?_) rfl (by kernel_rfl) (by kernel_rfl) (by kernel_rfl) (fun _ _ _ h => h) (Or.inl ⟨by rfl, ?_⟩) (by assumption) ?_
            rotate_left
            · (intro w hSw; (try dsimp only at hSw); go_simp; try with_reducible rfl)
            try simp only [Act.put, List.setIfInBounds_toArray, List.set_cons_zero, List.set_cons_succ]
            refine wpAnyH_take (i := 8) (oi := ⟨some 96, _, _, _, _, _⟩) (v := ?_) rfl (by kernel_rfl) (by kernel_rfl) (by kernel_rfl) (fun _ _ _ h => h) (Or.inl ⟨by rfl, ?_⟩) (by assumption) ?_
            rotate_left
            · (intro w hSw; (try dsimp only at hSw); go_simp; try with_reducible rfl)
            try simp only [Act.put, List.setIfInBounds_toArray, List.set_cons_zero, List.set_cons_succ]
            refine wpAnyH_take (i := 9) (oi := ⟨some 97, _, _, _, _, _⟩) (v := .bool false) rfl (by kernel_rfl) (by kernel_rfl) (by kernel_rfl) (fun _ _ _ h => h) (Or.inl ⟨by rfl, ?_⟩) (by assumption) ?_
            · (intro w hSw; (try dsimp only at hSw); go_simp)
            try simp only [Act.put, List.setIfInBounds_toArray, List.set_cons_zero, List.set_cons_succ]
            refine wpAnyH_ready (rs := [4]) (by kernel_rfl) (by simp) ?_
            refine AllReadyH.cons (o := ⟨some 92, _, _, _, _, _⟩) rfl (fun K hK => ?_) AllReadyH.nil
            go_simp
            refine (Tell_shut L vt X false _ (HM11.out.mat.q (⟨1, rfl⟩ : Qw w11 w11.drew)) HO.out).mono ?_
            rintro e w12 ⟨rfl, hw12⟩
            have HN12 : Hid (MAt w12 (copyL L w10.heap.size km2 A5 c5) vtc X) := Lib.hid (by rw [← hw12]; exact HN11.out.q (⟨1, rfl⟩ : Qw w11 w11.drew))
            have HAT12 : Hid (RAt w12 R ⟨false, [], ans.take i⟩ kv vt2 vl vy X) := Lib.hid (by rw [← hw12]; exact HAT11.out.q (⟨1, rfl⟩ : Qw w11 w11.drew))
            have HW12 : Hid (CW w2 w12 P B s m (copyL L w10.heap.size km2 A5 c5) vtc X) := Lib.hid ⟨HN12.out, by rw [← hw12]; exact HM11.out.bl.trans (Qw.below (⟨1, rfl⟩ : Qw w11 w11.drew) _), HW6.out.base, HW6.out.ln, HW6.out.lP, HW6.out.lB, HW6.out.ls⟩
            have r13d : w12.cell? ⟨R.p, 13, none⟩ = some (.bool false) := by rw [← HO.out]; exact HAT12.out.cell 13
            clear hw12
            go_wp2_with fail
            refine hK.out _ _ ?_ (fun hHeld => ?_)
            · (try dsimp only); first | exact r13c | exact r13d | exact r13e | exact hHeld
            clear hK K
            try simp only [Act.put, List.setIfInBounds_toArray, List.set_cons_zero, List.set_cons_succ]
            refine wpAnyH_take (i := 5) (oi := ⟨some 93, _, _, _, _, _⟩) (v := .bool false) rfl (by kernel_rfl) (by kernel_rfl) (by kernel_rfl) (fun _ _ _ h => h) (Or.inl ⟨by rfl, ?_⟩) (by assumption) ?_
            · (intro w hSw; (try dsimp only at hSw); go_simp)
            try simp only [Act.put, List.setIfInBounds_toArray, List.set_cons_zero, List.set_cons_succ]
            refine wpAnyH_take (i := 10) (oi := ⟨some 98, _, _, _, _, _⟩) (v := .bool false) rfl (by kernel_rfl) (by kernel_rfl) (by kernel_rfl) (fun _ _ _ h => h) (Or.inl ⟨by rfl, ?_⟩) (by assumption) ?_
            · (intro w hSw; (try dsimp only at hSw); go_simp)
            try simp only [Act.put, List.setIfInBounds_toArray, List.set_cons_zero, List.set_cons_succ]
            refine wpAnyH_take (i := 11) (oi := ⟨some 99, _, _, _, _, _⟩) (v := ?_) rfl (by kernel_rfl) (by kernel_rfl) (by kernel_rfl) (fun _ _ _ h => h) (Or.inl ⟨by rfl, ?_⟩) (by assumption) ?_
            rotate_left
            · (intro w hSw; (try dsimp only at hSw); go_simp; try with_reducible rfl)
            try simp only [Act.put, List.setIfInBounds_toArray, List.set_cons_zero, List.set_cons_succ]
            refine wpAnyH_take (i := 12) (oi := ⟨some 100, _, _, _, _, _⟩) (v := ?_) rfl (by kernel_rfl) (by kernel_rfl) (by kernel_rfl) (fun _ _ _ h => h) (Or.inl ⟨by rfl, ?_⟩) (by assumption) ?_
            rotate_left
            · (intro w hSw; (try dsimp only at hSw); go_simp; try with_reducible rfl)
            try simp only [Act.put, List.setIfInBounds_toArray, List.set_cons_zero, List.set_cons_succ]
            refine wpAnyH_take (i := 13) (oi := ⟨some 101, _, _, _, _, _⟩) (v := ?_) rfl (by kernel_rfl) (by kernel_rfl) (by kernel_rfl) (fun _ _ _ h => h) (Or.inl ⟨by rfl, ?_⟩) (by assumption) ?_
            rotate_left
            · (intro w hSw; (try dsimp only at hSw); go_simp; try with_reducible rfl)
            try simp only [Act.put, List.setIfInBounds_toArray, List.set_cons_zero, List.set_cons_succ]
            refine wpAnyH_take (i := 14) (oi := ⟨some 102, _, _, _, _, _⟩) (v := ?_) rfl (by kernel_rfl) (by kernel_rfl) (by kernel_rfl) (fun _ _ _ h => h) (Or.inl ⟨by rfl, ?_⟩) (by assumption) ?_
            rotate_left
            · (intro w hSw; (try dsimp only at hSw); go_simp; try with_reducible rfl)
            try simp only [Act.put, List.setIfInBounds_toArray, List.set_cons_zero, List.set_cons_succ]
            refine wpAnyH_ready (rs := [15]) (by kernel_rfl) (by simp) ?_
            refine AllReadyH.cons (o := ⟨some 103, _, _, _, _, _⟩) rfl (fun K hK => ?_) AllReadyH.nil
            go_simp
            refine (course_any (copyL L w10.heap.size km2 A5 c5) vtc R _ kv vt2 vl vy X _ HN12.out HAT12.out HRN.out (by omega)).mono ?_
            rintro e w13 ⟨rfl, hb13⟩
            have HW13 := Lib.hid (HW12.out.past hb13); have HAT13 := Lib.hid (HAT12.out.below hb13)
            have r13e : w13.cell? ⟨R.p, 13, none⟩ = some (.bool false) := by rw [← HO.out]; exact HAT13.out.cell 13
            clear hb13
            go_wp2_with fail
            refine hK.out _ _ ?_ (fun hHeld => ?_)
            · (try dsimp only); first | exact r13c | exact r13d | exact r13e | exact hHeld
            clear hK K
            try simp only [Act.put, List.setIfInBounds_toArray, List.set_cons_zero, List.set_cons_succ]
            refine wpAnyH_take (i := 16) (oi := ⟨some 104, _, _, _, _, _⟩) (v := .bool false) rfl (by kernel_rfl) (by kernel_rfl) (by kernel_rfl) (fun _ _ _ h => h) (Or.inl ⟨by rfl, ?_⟩) (by assumption) ?_
            · (intro w hSw; (try dsimp only at hSw); go_simp)
            try simp only [Act.put, List.setIfInBounds_toArray, List.set_cons_zero, List.set_cons_succ]
            refine wpAnyH_take (i := 17) (oi := ⟨some 105, _, _, _, _, _⟩) (v := ?_) rfl (by kernel_rfl) (by kernel_rfl) (by kernel_rfl) (fun _ _ _ h => h) (Or.inl ⟨by rfl, ?_⟩) (by assumption) ?_
            rotate_left
            · (intro w hSw; (try dsimp only at hSw); go_simp; try with_reducible rfl)
            try simp only [Act.put, List.setIfInBounds_toArray, List.set_cons_zero, List.set_cons_succ]
            refine wpAnyH_done (by kernel_rfl) ?_ _
            clear r13c r13d r13e
            have r13 : w13.cell? ⟨R.p, 13, none⟩ = some (.bool false) := by rw [← HO.out]; exact HAT13.out.cell 13
            go_wp2_with fail
            refine (Tell_shut (copyL L w10.heap.size km2 A5 c5) vtc X false _ HW13.out.mat HO.out).mono ?_
            rintro e wt ⟨rfl, rfl⟩
            go_wp2_with fail
            refine (Tell_shut (copyL L w10.heap.size km2 A5 c5) vtc X true _ HW13.out.mat HO.out).mono ?_
            rintro e wt ⟨rfl, rfl⟩
            go_wp2_with fail
            refine (course_any (copyL L w10.heap.size km2 A5 c5) vtc R _ kv vt2 vl vy X _ HW13.out.mat HAT13.out HRN.out (by omega)).mono ?_
            rintro e w7 ⟨rfl, hb7⟩
            have HW7 := Lib.hid (HW13.out.past hb7)
            clear hb7 r13
            go_wp2_with fail
            refine (works_any _).mono ?_
            rintro e w9 ⟨rfl, hb9⟩
            have HB9 := Lib.hid (bnext (bnext HB2.out HW7.out.bl) hb9)
            clear hb9
            go_wp2_with fail
            go_ret
            exact ⟨rfl, HB9.out⟩
          · rw [hop] at r13 r13o
            have HO := Lib.hid hop
            clear hop
            go_wp2_with fail
            refine wp_region_held_drew (S := fun w' => Below w6.heap.size w6 w') (by kernel_rfl) ?_ (fun hHeld => ?_)
            · (try dsimp only); first | exact hHeld | exact hHeld.drew | exact hx10 | exact hx9 | exact hx8 | exact hx9.drew | exact hx8.drew | exact HB67.out | exact HB67.out.drew
            refine wpAnyH_take (i := 0) (oi := ⟨some 61, _, _, _, _, _⟩) (v := ?_) rfl (by kernel_rfl) (by kernel_rfl) (by kernel_rfl) (fun _ _ _ h => h) (Or.inl ⟨by rfl, ?_⟩) (by assumption) ?_
            rotate_left
            · (intro w hSw; (try dsimp only at hSw); go_simp; try with_reducible rfl)
            try simp only [Act.put, List.setIfInBounds_toArray, List.set_cons_zero, List.set_cons_succ]
            refine wpAnyH_take (i := 1) (oi := ⟨some 62, _, _, _, _, _⟩) (v := .bool false) rfl (by kernel_rfl) (by kernel_rfl) (by kernel_rfl) (fun _ _ _ h => h) (Or.inl ⟨by rfl, ?_⟩) (by assumption) ?_
            · (intro w hSw; (try dsimp only at hSw); go_simp)
            try simp only [Act.put, List.setIfInBounds_toArray, List.set_cons_zero, List.set_cons_succ]
            refine wpAnyH_take (i := 2) (oi := ⟨some 63, _, _, _, _, _⟩) (v := ?_) rfl (by kernel_rfl) (by kernel_rfl) (by kernel_rfl) (fun _ _ _ h => h) (Or.inl ⟨by rfl, ?_⟩) (by assumption) ?_
            rotate_left
            · (intro w hSw; (try dsimp only at hSw); go_simp; try with_reducible rfl)
            try simp only [Act.put, List.setIfInBounds_toArray, List.set_cons_zero, List.set_cons_succ]
            refine wpAnyH_take (i := 3) (oi := ⟨some 64, _, _, _, _, _⟩) (v := ?_) rfl (by kernel_rfl) (by kernel_rfl) (by kernel_rfl) (fun _ _ _ h => h) (Or.inl ⟨by rfl, ?_⟩) (by assumption) ?_
            rotate_left
            · (intro w hSw; (try dsimp only at hSw); go_simp; try with_reducible rfl)
            try simp only [Act.put, List.setIfInBounds_toArray, List.set_cons_zero, List.set_cons_succ]
            refine wpAnyH_take (i := 4) (oi := ⟨some 65, _, _, _, _, _⟩) (v := ?_) rfl (by kernel_rfl) (by kernel_rfl) (by kernel_rfl) (fun _ _ _ h => h) (Or.inl ⟨by rfl, ?_⟩) (by assumption) ?_
            rotate_left
            · (intro w hSw; (try dsimp only at hSw); go_simp; try with_reducible rfl)
            try simp only [Act.put, List.setIfInBounds_toArray, List.set_cons_zero, List.set_cons_succ]
            refine wpAnyH_ready (rs := [5]) (by kernel_rfl) (by simp) ?_
            refine AllReadyH.cons (o := ⟨some 66, _, _, _, _, _⟩) rfl (fun K hK => ?_) AllReadyH.nil
            go_simp
            have HN7x : Hid (MAt w7.drew (copyL L w6.heap.size km1 A4 c4) vt1 X) := Lib.hid (HN7.out.q (⟨1, rfl⟩ : Qw w7 w7.drew))
            have HAT7x := Lib.hid (HAT7.out.q (⟨1, rfl⟩ : Qw w7 w7.drew))
            refine (course_any (copyL L w6.heap.size km1 A4 c4) vt1 R _ kv vt2 vl vy X _ HN7x.out HAT7x.out HRN.out (by omega)).mono ?_
            rintro e w8 ⟨rfl, hb8⟩
            have hx8 : Below w6.heap.size w6 w8 := hHeld.trans (hb8.mono hHeld.size)
            have HN8 := Lib.hid (HN7x.out.below hb8)
            clear hb8
            go_wp2_with fail
            refine hK.out _ _ ?_ (fun hHeld => ?_)
            · (try dsimp only); first | exact hHeld | exact hHeld.drew | exact hx10 | exact hx9 | exact hx8 | exact hx9.drew | exact hx8.drew | exact HB67.out | exact HB67.out.drew
            clear hK K
            try simp only [Act.put, List.setIfInBounds_toArray, List.set_cons_zero, List.set_cons_succ]
            refine wpAnyH_take (i := 6) (oi := ⟨some 67, _, _, _, _, _⟩) (v := .bool false) rfl (by kernel_rfl) (by kernel_rfl) (by kernel_rfl) (fun _ _ _ h => h) (Or.inl ⟨by rfl, ?_⟩) (by assumption) ?_
            · (intro w hSw; (try dsimp only at hSw); go_simp)
            try simp only [Act.put, List.setIfInBounds_toArray, List.set_cons_zero, List.set_cons_succ]
            refine wpAnyH_take (i := 7) (oi := ⟨some 68, _, _, _, _, _⟩) (v := ?_) rfl (by kernel_rfl) (by kernel_rfl) (by kernel_rfl) (fun _ _ _ h => h) (Or.inl ⟨by rfl, ?_⟩) (by assumption) ?_
            rotate_left
            · (intro w hSw; (try dsimp only at hSw); go_simp; try with_reducible rfl)
            try simp only [Act.put, List.setIfInBounds_toArray, List.set_cons_zero, List.set_cons_succ]
            refine wpAnyH_take (i := 8) (oi := ⟨some 69, _, _, _, _, _⟩) (v := ?_) rfl (by kernel_rfl) (by kernel_rfl) (by kernel_rfl) (fun _ _ _ h => h) (Or.inl ⟨by rfl, ?_⟩) (by assumption) ?_
            rotate_left
            · (intro w hSw; (try dsimp only at hSw); go_simp; try with_reducible rfl)
            try simp only [Act.put, List.setIfInBounds_toArray, List.set_cons_zero, List.set_cons_succ]
            refine wpAnyH_take (i := 9) (oi := ⟨some 70, _, _, _, _, _⟩) (v := ?_) rfl (by kernel_rfl) (by kernel_rfl) (by kernel_rfl) (fun _ _ _ h => h) (Or.inl ⟨by rfl, ?_⟩) (by assumption) ?_
            rotate_left
            · (intro w hSw; (try dsimp only at hSw); go_simp; try with_reducible rfl)
            try simp only [Act.put, List.setIfInBounds_toArray, List.set_cons_zero, List.set_cons_succ]
            refine wpAnyH_take (i := 12) (oi := ⟨some 73, _, _, _, _, _⟩) (v := ?_) rfl (by kernel_rfl) (by kernel_rfl) (by kernel_rfl) (fun _ _ _ h => h) (Or.inl ⟨by rfl, ?_⟩) (by assumption) ?_
            rotate_left
            · (intro w hSw; (try dsimp only at hSw); go_simp; try with_reducible rfl)
            try simp only [Act.put, List.setIfInBounds_toArray, List.set_cons_zero, List.set_cons_succ]
            refine wpAnyH_take (i := 13) (oi := ⟨some 74, _, _, _, _, _⟩) (v := ?_) rfl (by kernel_rfl) (by kernel_rfl) (by kernel_rfl) (fun _ _ _ h => h) (Or.inl ⟨by rfl, ?_⟩) (by assumption) ?_
            rotate_left
            · (intro w hSw; (try dsimp only at hSw); go_simp; try with_reducible rfl)
            try simp only [Act.put, List.setIfInBounds_toArray, List.set_cons_zero, List.set_cons_succ]
            refine wpAnyH_take (i := 14) (oi := ⟨some 75, _, _, _, _, _⟩) (v := ?_) rfl (by kernel_rfl) (by kernel_rfl) (by kernel_rfl) (fun _ _ _ h => h) (Or.inl ⟨by rfl, ?_⟩) (by assumption) ?_
            rotate_left
            · (intro w hSw; (try dsimp only at hSw); go_simp; try with_reducible rfl)
            try simp only [Act.put, List.setIfInBounds_toArray, List.set_cons_zero, List.set_cons_succ]
            refine wpAnyH_take (i := 15) (oi := ⟨some 76, _, _, _, _, _⟩) (v := .bool true) rfl (by kernel_rfl) (by kernel_rfl) (by kernel_rfl) (fun _ _ _ h => h) (Or.inl ⟨by rfl, ?_⟩) (by assumption) ?_
            · (intro w hSw; (try dsimp only at hSw); have h0 := bcells_n hSw r13o; go_simp)
            try simp only [Act.put, List.setIfInBounds_toArray, List.set_cons_zero, List.set_cons_succ]
            refine wpAnyH_ready (rs := [10]) (by kernel_rfl) (by simp) ?_
            refine AllReadyH.cons (o := ⟨some 71, _, _, _, _, _⟩) rfl (fun K hK => ?_) AllReadyH.nil
            go_simp
            obtain ⟨⟨hqp, hft, hqt⟩, hqlt⟩ := HC1.out.inv.next (by show 1 ≤ L.B; rw [HW6.out.lB]; exact hB1) HO.out
            refine (Tell_any (copyL L w6.heap.size km1 A4 c4) vt1 X true _ HN8.out HC1.out.inv.wfm HO.out (QOk.ok ⟨⟨hqp, hft, hqt⟩, hqlt⟩ (by show L.P ≤ 6; rw [HW6.out.lP]; exact hP6) (by show L.n ≤ 512; rw [HW6.out.ln]; omega)) (HC1.out.inv.wait rfl HO.out).1 (by omega)).mono ?_
            rintro e w9 ⟨rfl, vt9, hm9, hT9, hv9⟩
            have hx9 : Below w6.heap.size w6 w9 := hx8.trans (hT9.far HF.out hx8.size)
            clear hm9 hT9 hv9 hqp hft hqt hqlt
            go_wp2_with fail
            refine hK.out _ _ ?_ (fun hHeld => ?_)
            · (try dsimp only); first | exact hHeld | exact hHeld.drew | exact hx10 | exact hx9 | exact hx8 | exact hx9.drew | exact hx8.drew | exact HB67.out | exact HB67.out.drew
            clear hK K
            try simp only [Act.put, List.setIfInBounds_toArray, List.set_cons_zero, List.set_cons_succ]
            refine wpAnyH_take (i := 11) (oi := ⟨some 72, _, _, _, _, _⟩) (v := .bool true) rfl (by kernel_rfl) (by kernel_rfl) (by kernel_rfl) (fun _ _ _ h => h) (Or.inl ⟨by rfl, ?_⟩) (by assumption) ?_
            · (intro w hSw; (try dsimp only at hSw); go_simp)
            try simp only [Act.put, List.setIfInBounds_toArray, List.set_cons_zero, List.set_cons_succ]
            refine wpAnyH_take (i := 16) (oi := ⟨some 77, _, _, _, _, _⟩) (v := .bool false) rfl (by kernel_rfl) (by kernel_rfl) (by kernel_rfl) (fun _ _ _ h => h) (Or.inl ⟨by rfl, ?_⟩) (by assumption) ?_
            · (intro w hSw; (try dsimp only at hSw); go_simp)
            try simp only [Act.put, List.setIfInBounds_toArray, List.set_cons_zero, List.set_cons_succ]
            refine wpAnyH_take (i := 17) (oi := ⟨some 78, _, _, _, _, _⟩) (v := ?_) rfl (by kernel_rfl) (by kernel_rfl) (by kernel_rfl) (fun _ _ _ h => h) (Or.inl ⟨by rfl, ?_⟩) (by assumption) ?_
            rotate_left
            · (intro w hSw; (try dsimp only at hSw); go_simp; try with_reducible rfl)
            try simp only [Act.put, List.setIfInBounds_toArray, List.set_cons_zero, List.set_cons_succ]
            refine wpAnyH_take (i := 18) (oi := ⟨some 79, _, _, _, _, _⟩) (v := ?_) rfl (by kernel_rfl) (by kernel_rfl) (by kernel_rfl) (fun _ _ _ h => h) (Or.inl ⟨by rfl, ?_⟩) (by assumption) ?_
            rotate_left
            · (intro w hSw; (try dsimp only at hSw); go_simp; try with_reducible rfl)
            try simp only [Act.put, List.setIfInBounds_toArray, List.set_cons_zero, List.set_cons_succ]
            refine wpAnyH_take (i := 19) (oi := ⟨some 80, _, _, _, _, _⟩) (v := ?_) rfl (by kernel_rfl) (by kernel_rfl) (by kernel_rfl) (fun _ _ _ h => h) (Or.inl ⟨by rfl, ?_⟩) (by assumption) ?_
            rotate_left
            · (intro w hSw; (try dsimp only at hSw); go_simp; try with_reducible rfl)
            try simp only [Act.put, List.setIfInBounds_toArray, List.set_cons_zero, List.set_cons_succ]
            refine wpAnyH_take (i := 20) (oi := ⟨some 81, _, _, _, _, _⟩) (v := ?_) rfl (by kernel_rfl) (by kernel_rfl) (by kernel_rfl) (fun _ _ _ h => h) (Or.inl ⟨by rfl, ?_⟩) (by assumption) ?_
            rotate_left
            · (intro w hSw; (try dsimp only at hSw); go_simp; try with_reducible rfl)
            try simp only [Act.put, List.setIfInBounds_toArray, List.set_cons_zero, List.set_cons_succ]
            refine wpAnyH_ready (rs := [21]) (by kernel_rfl) (by simp) ?_
            refine AllReadyH.cons (o := ⟨some 82, _, _, _, _, _⟩) rfl (fun K hK => ?_) AllReadyH.nil
            go_simp
            refine (course_any L vt R _ kv vt2 vl vy X _ (HW6.out.mat.below hHeld) (HAT6.out.below hHeld) HRN.out (by omega)).mono ?_
            rintro e w10 ⟨rfl, hb10⟩
            have hx10 : Below w6.heap.size w6 w10 := hHeld.trans (hb10.mono hHeld.size)
            clear hb10
            go_wp2_with fail
            refine hK.out _ _ ?_ (fun hHeld => ?_)
            · (try dsimp only); first | exact hHeld | exact hHeld.drew | exact hx10 | exact hx9 | exact hx8 | exact hx9.drew | exact hx8.drew | exact HB67.out | exact HB67.out.drew
            clear hK K
            try simp only [Act.put, List.setIfInBounds_toArray, List.set_cons_zero, List.set_cons_succ]
            refine wpAnyH_take (i := 22) (oi := ⟨some 83, _, _, _, _, _⟩) (v := .bool false) rfl (by kernel_rfl) (by kernel_rfl) (by kernel_rfl) (fun _ _ _ h => h) (Or.inl ⟨by rfl, ?_⟩) (by assumption) ?_
            · (intro w hSw; (try dsimp only at hSw); go_simp)
            try simp only [Act.put, List.setIfInBounds_toArray, List.set_cons_zero, List.set_cons_succ]
            refine wpAnyH_take (i := 23) (oi := ⟨some 84, _, _, _, _, _⟩) (v := ?_) rfl (by kernel_rfl) (by kernel_rfl) (by kernel_rfl) (fun _ _ _ h => h) (Or.inl ⟨by rfl, ?_⟩) (by assumption) ?_
            rotate_left
            · (intro w hSw; (try dsimp only at hSw); go_simp; try with_reducible rfl)
            try simp only [Act.put, List.setIfInBounds_toArray, List.set_cons_zero, List.set_cons_succ]
            refine wpAnyH_done (by kernel_rfl) ?_ _
            go_wp2_with fail
            have HW10 := Lib.hid (HW6.out.past hx10); have HAT10 := Lib.hid (HAT6.out.below hx10)
            refine (mcopy_any L vt X _ HW10.out.mat (by omega)).mono ?_
            rintro e w11 ⟨km2, A5, c5, vtc, rfl, hk2, ha2, hv2, hm11, hb11⟩
            have HF2 : Hid (Far w10.heap.size (copyL L w10.heap.size km2 A5 c5) vtc) := Lib.hid ⟨Nat.le_refl _, hk2, ha2, hv2⟩
            have HNR := Lib.hid HW10.out.mat.near
            have HN11 := Lib.hid hm11; have HM11 := Lib.hid (HW10.out.past hb11); have HAT11 := Lib.hid (HAT10.out.below hb11)
            have HC2 := Lib.hid (HC.out.copy w10.heap.size km2 A5 c5)
            have r13c : w11.cell? ⟨R.p, 13, none⟩ = some (.bool true) := by rw [← HO.out]; exact HAT11.out.cell 13
            clear hk2 ha2 hv2 hm11 hb11 r13 r13o
            go_wp2_with fail
            refine wp_region_held_drew (S := fun w' => w'.cell? ⟨R.p, 13, none⟩ = some (.bool true)) (by kernel_rfl) ?_ (fun hHeld => ?_)
            · (try dsimp only); first | exact r13c | exact r13d | exact r13e | exact hHeld
            refine wpAnyH_take (i := 0) (oi := ⟨some 88, _, _, _, _, _⟩) (v := ?_) rfl (by kernel_rfl) (by kernel_rfl) (by kernel_rfl) (fun _ _ _ h => h) (Or.inl ⟨by rfl, ?_⟩) (by assumption) ?_
            rotate_left
            · (intro w hSw; (try dsimp only at hSw); go_simp; try with_reducible rfl)
            try simp only [Act.put, List.setIfInBounds_toArray, List.set_cons_zero, List.set_cons_succ]
            refine wpAnyH_take (i := 1) (oi := ⟨some 89, _, _, _, _, _⟩) (v := .bool false) rfl (by kernel_rfl) (by kernel_rfl) (by kernel_rfl) (fun _ _ _ h => h) (Or.inl ⟨by rfl, ?_⟩) (by assumption) ?_
            · (intro w hSw; (try dsimp only at hSw); go_simp)
            try simp only [Act.put, List.setIfInBounds_toArray, List.set_cons_zero, List.set_cons_succ]
            refine wpAnyH_take (i := 2) (oi := ⟨some 90, _, _, _, _, _⟩) (v := ?_) rfl (by kernel_rfl) (by kernel_rfl) (by kernel_rfl) (fun _ _ _ h => h) (Or.inl ⟨by rfl, ?_⟩) (by assumption) ?_
            rotate_left
            · (intro w hSw; (try dsimp only at hSw); go_simp; try with_reducible rfl)
            try simp only [Act.put, List.setIfInBounds_toArray, List.set_cons_zero, List.set_cons_succ]
            refine wpAnyH_take (i := 3) (oi := ⟨some 91, _, _, _, _, _⟩) (v := ?_) rfl (by kernel_rfl) (by kernel_rfl) (by kernel_rfl) (fun _ _ _ h => h) (Or.inl ⟨by rfl, ?_⟩) (by assumption) ?_
            rotate_left
            · (intro w hSw; (try dsimp only at hSw); go_simp; try with_reducible rfl)
            try simp only [Act.put, List.setIfInBounds_toArray, List.set_cons_zero, List.set_cons_succ]
            refine wpAnyH_take (i := 6) (oi := ⟨some 94, _, _, _, _, _⟩) (v := ?_) rfl (by kernel_rfl) (by kernel_rfl) (by kernel_rfl) (fun _ _ _ h => h) (Or.inl ⟨by rfl, ?_⟩) (by assumption) ?_
            rotate_left
            · (intro w hSw; (try dsimp only at hSw); go_simp; try with_reducible rfl)
            try simp only [Act.put, List.setIfInBounds_toArray, List.set_cons_zero, List.set_cons_succ]
            refine wpAnyH_take (i := 7) (oi := ⟨some 95, _, _, _, _, _⟩) (v := ?_) rfl (by kernel_rfl) (by kernel_rfl) (by kernel_rfl) (fun _ _ _ h => h) (Or.inl ⟨by rfl, ?_⟩) (by assumption) ?_
            rotate_left
            · (intro w hSw; (try dsimp only at hSw); go_simp; try with_reducible rfl)
            try simp only [Act.put, List.setIfInBounds_toArray, List.set_cons_zero, List.set_cons_succ]
            refine wpAnyH_take (i := 8) (oi := ⟨some 96, _, _, _, _, _⟩) (v := ?_) rfl (by kernel_rfl) (by kernel_rfl) (by kernel_rfl) (fun _ _ _ h => h) (Or.inl ⟨by rfl, ?_⟩) (by assumption) ?_
            rotate_left
            · (intro w hSw; (try dsimp only at hSw); go_simp; try with_reducible rfl)
            try simp only [Act.put, List.setIfInBounds_toArray, List.set_cons_zero, List.set_cons_succ]
            refine wpAnyH_take (i := 9) (oi := ⟨some 97, _, _, _, _, _⟩) (v := .bool true) rfl (by kernel_rfl) (by kernel_rfl) (by kernel_rfl) (fun _ _ _ h => h) (Or.inl ⟨by rfl, ?_⟩) (by assumption) ?_
            · (intro w hSw; (try dsimp only at hSw); go_simp)
            try simp only [Act.put, List.setIfInBounds_toArray, List.set_cons_zero, List.set_cons_succ]
            refine wpAnyH_ready (rs := [4]) (by kernel_rfl) (by simp) ?_
            refine AllReadyH.cons (o := ⟨some 92, _, _, _, _, _⟩) rfl (fun K hK => ?_) AllReadyH.nil
            go_simp
            obtain ⟨⟨hqp, hft, hqt⟩, hqlt⟩ := HC.out.inv.next (by rw [HW6.out.lB]; exact hB1) HO.out
            refine (Tell_any L vt X false _ (HM11.out.mat.q (⟨1, rfl⟩ : Qw w11 w11.drew)) HC.out.inv.wfm HO.out (QOk.ok ⟨⟨hqp, hft, hqt⟩, hqlt⟩ (by rw [HW6.out.lP]; exact hP6) (by rw [HW6.out.ln]; omega)) (HC.out.inv.wait rfl HO.out).1 (by omega)).mono ?_
            rintro e w12 ⟨rfl, vt9, hm9, hT9, hv9⟩
            have HN12 : Hid (MAt w12 (copyL L w10.heap.size km2 A5 c5) vtc X) := Lib.hid ((HN11.out.q (⟨1, rfl⟩ : Qw w11 w11.drew)).beside HF2.out (HM11.out.mat.q (⟨1, rfl⟩ : Qw w11 w11.drew)) HNR.out.1 HNR.out.2.1 HNR.out.2.2.1 HNR.out.2.2.2 hT9)
            have HAT12 := Lib.hid ((HAT11.out.q (⟨1, rfl⟩ : Qw w11 w11.drew)).beside HRB.out HNE.out hT9 rfl (by show (ans.take i).length ≤ _; rw [List.length_take, HC.out.len]; omega))
            have HBL12 : Hid (Below w2.heap.size w2 w12) := Lib.hid ((HM11.out.bl.trans (Qw.below (⟨1, rfl⟩ : Qw w11 w11.drew) _)).trans (hT9.old (HM11.out.mat.q (⟨1, rfl⟩ : Qw w11 w11.drew)) HM11.out.base))
            have HW12 : Hid (CW w2 w12 P B s m (copyL L w10.heap.size km2 A5 c5) vtc X) := Lib.hid ⟨HN12.out, HBL12.out, HW6.out.base, HW6.out.ln, HW6.out.lP, HW6.out.lB, HW6.out.ls⟩
            have r13d : w12.cell? ⟨R.p, 13, none⟩ = some (.bool true) := by rw [← HO.out]; exact HAT12.out.cell 13
            clear hm9 hT9 hv9 hqp hft hqt hqlt
            go_wp2_with fail
            refine hK.out _ _ ?_ (fun hHeld => ?_)
            · (try dsimp only); first | exact r13c | exact r13d | exact r13e | exact hHeld
            clear hK K
            try simp only [Act.put, List.setIfInBounds_toArray, List.set_cons_zero, List.set_cons_succ]
            refine wpAnyH_take (i := 5) (oi := ⟨some 93, _, _, _, _, _⟩) (v := .bool true) rfl (by kernel_rfl) (by kernel_rfl) (by kernel_rfl) (fun _ _ _ h => h) (Or.inl ⟨by rfl, ?_⟩) (by assumption) ?_
            · (intro w hSw; (try dsimp only at hSw); go_simp)
            try simp only [Act.put, List.setIfInBounds_toArray, List.set_cons_zero, List.set_cons_succ]
            refine wpAnyH_take (i := 10) (oi := ⟨some 98, _, _, _, _, _⟩) (v := .bool false) rfl (by kernel_rfl) (by kernel_rfl) (by kernel_rfl) (fun _ _ _ h => h) (Or.inl ⟨by rfl, ?_⟩) (by assumption) ?_
            · (intro w hSw; (try dsimp only at hSw); go_simp)
            try simp only [Act.put, List.setIfInBounds_toArray, List.set_cons_zero, List.set_cons_succ]
            refine wpAnyH_take (i := 11) (oi := ⟨some 99, _, _, _, _, _⟩) (v := ?_) rfl (by kernel_rfl) (by kernel_rfl) (by kernel_rfl) (fun _ _ _ h => h) (Or.inl ⟨by rfl, ?_⟩) (by assumption) ?_
            rotate_left
            · (intro w hSw; (try dsimp only at hSw); go_simp; try with_reducible rfl)
            try simp only [Act.put, List.setIfInBounds_toArray, List.set_cons_zero, List.set_cons_succ]
            refine wpAnyH_take (i := 12) (oi := ⟨some 100, _, _, _, _, _⟩) (v := ?_) rfl (by kernel_rfl) (by kernel_rfl) (by kernel_rfl) (fun _ _ _ h => h) (Or.inl ⟨by rfl, ?_⟩) (by assumption) ?_
            rotate_left
            · (intro w hSw; (try dsimp only at hSw); go_simp; try with_reducible rfl)
            try simp only [Act.put, List.setIfInBounds_toArray, List.set_cons_zero, List.set_cons_succ]
            refine wpAnyH_take (i := 13) (oi := ⟨some 101, _, _, _, _, _⟩) (v := ?_) rfl (by kernel_rfl) (by kernel_rfl) (by kernel_rfl) (fun _ _ _ h => h) (Or.inl ⟨by rfl, ?_⟩) (by assumption) ?_
            rotate_left
            · (intro w hSw; (try dsimp only at hSw); go_simp; try with_reducible rfl)
            try simp only [Act.put, List.setIfInBounds_toArray, List.set_cons_zero, List.set_cons_succ]
            refine wpAnyH_take (i := 14) (oi := ⟨some 102, _, _, _, _, _⟩) (v := ?_) rfl (by kernel_rfl) (by kernel_rfl) (by kernel_rfl) (fun _ _ _ h => h) (Or.inl ⟨by rfl, ?_⟩) (by assumption) ?_
            rotate_left
            · (intro w hSw; (try dsimp only at hSw); go_simp; try with_reducible rfl)
            try simp only [Act.put, List.setIfInBounds_toArray, List.set_cons_zero, List.set_cons_succ]
            refine wpAnyH_ready (rs := [15]) (by kernel_rfl) (by simp) ?_
            refine AllReadyH.cons (o := ⟨some 103, _, _, _, _, _⟩) rfl (fun K hK => ?_) AllReadyH.nil
            go_simp
            refine (course_any (copyL L w10.heap.size km2 A5 c5) vtc R _ kv vt2 vl vy X _ HN12.out HAT12.out HRN.out (by omega)).mono ?_
            rintro e w13 ⟨rfl, hb13⟩
            have HW13 := Lib.hid (HW12.out.past hb13); have HAT13 := Lib.hid (HAT12.out.below hb13)
            have r13e : w13.cell? ⟨R.p, 13, none⟩ = some (.bool true) := by rw [← HO.out]; exact HAT13.out.cell 13
            clear hb13
            go_wp2_with fail
            refine hK.out _ _ ?_ (fun hHeld => ?_)
            · (try dsimp only); first | exact r13c | exact r13d | exact r13e | exact hHeld
            clear hK K
            try simp only [Act.put, List.setIfInBounds_toArray, List.set_cons_zero, List.set_cons_succ]
            refine wpAnyH_take (i := 16) (oi := ⟨some 104, _, _, _, _, _⟩) (v := .bool false) rfl (by kernel_rfl) (by kernel_rfl) (by kernel_rfl) (fun _ _ _ h => h) (Or.inl ⟨by rfl, ?_⟩) (by assumption) ?_
            · (intro w hSw; (try dsimp only at hSw); go_simp)
            try simp only [Act.put, List.setIfInBounds_toArray, List.set_cons_zero, List.set_cons_succ]
            refine wpAnyH_take (i := 17) (oi := ⟨some 105, _, _, _, _, _⟩) (v := ?_) rfl (by kernel_rfl) (by kernel_rfl) (by kernel_rfl) (fun _ _ _ h => h) (Or.inl ⟨by rfl, ?_⟩) (by assumption) ?_
            rotate_left
            · (intro w hSw; (try dsimp only at hSw); go_simp; try with_reducible rfl)
            try simp only [Act.put, List.setIfInBounds_toArray, List.set_cons_zero, List.set_cons_succ]
            refine wpAnyH_done (by kernel_rfl) ?_ _
            clear r13c r13d r13e
            have r13 : w13.cell? ⟨R.p, 13, none⟩ = some (.bool true) := by rw [← HO.out]; exact HAT13.out.cell 13
            by_cases hlt : i < k
            · have hlti : (i : Int) < (k : Int) := by omega
              have HSW := Lib.hid (HS2.out.past HW13.out.bl)
              obtain ⟨g, off, hA, hg, hcc⟩ := HSW.out.2 (by omega)
              subst hA
              have hil : i < ans.length := by rw [HAL.out]; exact hlt
              have ca : w13.cell? ⟨g, off + i, none⟩ = some (.bool ans[i]) := hcc i _ (by simp [hil])
              obtain ⟨av, hav⟩ : ∃ a, a = ans[i] := ⟨_, rfl⟩
              rw [← hav] at ca
              have HA := Lib.hid (show ans[i]? = some av by rw [hav]; exact List.getElem?_eq_getElem hil)
              clear hcc hav HSW
              go_wp2_with fail
              obtain ⟨⟨hqp, hft, hqt⟩, hqlt⟩ := HC2.out.inv.next (by rw [HW13.out.lB]; exact hB1) HO.out
              refine (Tell_any (copyL L w10.heap.size km2 A5 c5) vtc X av _ HW13.out.mat HC2.out.inv.wfm HO.out (QOk.ok ⟨⟨hqp, hft, hqt⟩, hqlt⟩ (by rw [HW13.out.lP]; exact hP6) (by rw [HW13.out.ln]; omega)) (HC2.out.inv.wait rfl HO.out).1 (by omega)).mono ?_
              rintro e w8 ⟨rfl, vt8, hm8, hT8, hv8⟩
              have HW8 : Hid (CW w2 w8 P B s m (copyL L w10.heap.size km2 A5 c5) vt8 (advS (copyL L w10.heap.size km2 A5 c5) { X with told := X.told ++ [(X.next, av)] })) := Lib.hid ⟨hm8, HW13.out.bl.trans (hT8.old HW13.out.mat HW13.out.base), HW13.out.base, HW13.out.ln, HW13.out.lP, HW13.out.lB, HW13.out.ls⟩
              have HC8 := Lib.hid (HC2.out.tell (by rw [HW13.out.lB]; exact hB1) (by rw [HW13.out.ln]; omega) HO.out HA.out)
              clear hm8 hT8 hv8 ca r13 hqp hft hqt hqlt
              go_wp2_with fail
              go_roundw
              case rel => exact ⟨i + 1, (copyL L w10.heap.size km2 A5 c5), vt8, _, by omega, by go_num, rfl, HW8.out, fun _ => HC8.out⟩
              case measure => simp [intOf]; omega
            · have hlti : ¬ (i : Int) < (k : Int) := by omega
              go_wp2_with fail
              go_roundw
              case rel => exact ⟨i + 1, (copyL L w10.heap.size km2 A5 c5), vtc, X, by omega, by go_num, rfl, HW13.out, fun h => absurd h (by omega)⟩
              case measure => simp [intOf]; omega
        · have hq' : ((i : Int) == (at' : Int) % 150) = false := by simpa using hq
          clear hq
          have r13 : w6.cell? ⟨R.p, 13, none⟩ = some (.bool X.opn) := HAT6.out.cell 13
          cases hop : X.opn
          · rw [hop] at r13
            have HO := Lib.hid hop
            clear hop
            go_wp2_with fail
            refine (Tell_shut L vt X false _ HW6.out.mat HO.out).mono ?_
            rintro e wt ⟨rfl, rfl⟩
            go_wp2_with fail
            refine (Tell_shut L vt X true _ HW6.out.mat HO.out).mono ?_
            rintro e wt ⟨rfl, rfl⟩
            go_wp2_with fail
            refine (course_any L vt R _ kv vt2 vl vy X _ HW6.out.mat HAT6.out HRN.out (by omega)).mono ?_
            rintro e w7 ⟨rfl, hb7⟩
            have HW7 := Lib.hid (HW6.out.past hb7)
            clear hb7 r13
            go_wp2_with fail
            refine (works_any _).mono ?_
            rintro e w9 ⟨rfl, hb9⟩
            have HB9 := Lib.hid (bnext (bnext HB2.out HW7.out.bl) hb9)
            clear hb9
            go_wp2_with fail
            go_ret
            exact ⟨rfl, HB9.out⟩
          · rw [hop] at r13
            have HO := Lib.hid hop
            clear hop
            by_cases hlt : i < k
            · have hlti : (i : Int) < (k : Int) := by omega
              have HSW := Lib.hid (HS2.out.past HW6.out.bl)
              obtain ⟨g, off, hA, hg, hcc⟩ := HSW.out.2 (by omega)
              subst hA
              have hil : i < ans.length := by rw [HAL.out]; exact hlt
              have ca : w6.cell? ⟨g, off + i, none⟩ = some (.bool ans[i]) := hcc i _ (by simp [hil])
              obtain ⟨av, hav⟩ : ∃ a, a = ans[i] := ⟨_, rfl⟩
              rw [← hav] at ca
              have HA := Lib.hid (show ans[i]? = some av by rw [hav]; exact List.getElem?_eq_getElem hil)
              clear hcc hav HSW
              go_wp2_with fail
              obtain ⟨⟨hqp, hft, hqt⟩, hqlt⟩ := HC.out.inv.next (by rw [HW6.out.lB]; exact hB1) HO.out
              refine (Tell_any L vt X av _ HW6.out.mat HC.out.inv.wfm HO.out (QOk.ok ⟨⟨hqp, hft, hqt⟩, hqlt⟩ (by rw [HW6.out.lP]; exact hP6) (by rw [HW6.out.ln]; omega)) (HC.out.inv.wait rfl HO.out).1 (by omega)).mono ?_
              rintro e w8 ⟨rfl, vt8, hm8, hT8, hv8⟩
              have HW8 : Hid (CW w2 w8 P B s m L vt8 (advS L { X with told := X.told ++ [(X.next, av)] })) := Lib.hid ⟨hm8, HW6.out.bl.trans (hT8.old HW6.out.mat HW6.out.base), HW6.out.base, HW6.out.ln, HW6.out.lP, HW6.out.lB, HW6.out.ls⟩
              have HC8 := Lib.hid (HC.out.tell (by rw [HW6.out.lB]; exact hB1) (by rw [HW6.out.ln]; omega) HO.out HA.out)
              clear hm8 hT8 hv8 ca r13 hqp hft hqt hqlt
              go_wp2_with fail
              go_roundw
              case rel => exact ⟨i + 1, L, vt8, _, by omega, by go_num, rfl, HW8.out, fun _ => HC8.out⟩
              case measure => simp [intOf]; omega
            · have hlti : ¬ (i : Int) < (k : Int) := by omega
              go_wp2_with fail
              go_roundw
              case rel => exact ⟨i + 1, L, vt, X, by omega, by go_num, rfl, HW6.out, fun h => absurd h (by omega)⟩
              case measure => simp [intOf]; omega
      · have hii : ¬ (i : Int) ≤ (k : Int) := by omega
        go_wp2_with fail
        refine (works_any _).mono ?_
        rintro e w9 ⟨rfl, hb9⟩
        have HB9 := Lib.hid (bnext (bnext HB2.out HW.out.bl) hb9)
        clear hb9
        go_wp2_with fail
        go_ret
        exact ⟨rfl, HB9.out⟩
  · have h2 := Check_err hck
    have hse : saneE P B (m : Int) = 2 := by unfold saneE; rw [if_pos hck]
    refine (New_bad A1 m c1 P B s _ (by rw [hse]; decide)).mono ?_
    rintro e w3 ⟨⟨E, hE, rfl⟩, hb3⟩
    obtain rfl : E = 2 := hE.trans hse
    have HP3 := Lib.hid (HP2.out.past hb3); have HB3 := Lib.hid (bnext HB2.out hb3); have H2 := Lib.hid h2
    have e0 := HP3.out.c0; have e1 := HP3.out.c1; have e2 := HP3.out.c2
    clear hb3 hE hse h2 d0 d1 d2 hck
    go_wp2_with fail
    refine (refCheck_ex _ _ _ _).mono ?_
    rintro e w4 ⟨⟨E, hE, rfl⟩, hs4, hb4⟩
    obtain rfl : E = 2 := hE.trans H2.out
    have HB4 := Lib.hid (bnext HB3.out hb4)
    clear hE hs4 hb4 e0 e1 e2
    go_wp2_with fail
    refine (works_any _).mono ?_
    rintro e w9 ⟨rfl, hb9⟩
    have HB9 := Lib.hid (bnext HB4.out hb9)
    clear hb9
    go_wp2_with fail
    go_ret
    exact ⟨rfl, HB9.out⟩
end Go.Proofs.Ytoofnkkbebjldaa
