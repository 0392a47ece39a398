/- The walk of AlgebraView: it returns true for any case, any other secret and any places. -/
import Derived.Test.YthmooplhhkafcaaGathWalk
import Derived.Deep.DeepCutAuto
namespace Go.Proofs.Ythmooplhhkafcaa
open Go.RowKit
set_option linter.unusedVariables false
set_option maxRecDepth 100000 in
theorem View_big (A A' AO AP : Option Addr) (n c m c' om oc pm pc : Nat) (NI KI : Int) (w : World) (hn : n ≤ 9223372036854775807) (h : 60 < n) :
    Calls Try.prog 5 #[.agg #[.slice A n c, .int .i64 NI, .int .i64 KI, .slice A' m c'], .slice AO om oc, .slice AP pm pc] w fun e w' => e = .returned (.bool true) ∧ Below w.heap.size w w' := by
  have g1 : (60 : Int) < (n : Int) := by omega
  clear h
  go_enter Try.func5, Try.ntmps5
  go_wp2_with (go_at_call 12; refine (known_any _).mono ?_; rintro e w9 ⟨rfl, hb9⟩)
  go_ret
  exact ⟨rfl, ((Below.refl _ _).alloc (Nat.le_refl _) _).trans (hb9.mono (by simp))⟩
theorem Rd.firsts {w : World} {B n k : Nat} {A : Option Addr} {xs : List Value} (h : Rd w B 1 A n xs) (hk : k ≤ n) : Rd w B 1 A k (xs.take k) := by
  refine ⟨by rw [List.length_take, h.1]; omega, fun h0 => ?_⟩
  obtain ⟨b, off, e, hb, hc⟩ := h.2 (by omega)
  refine ⟨b, off, e, hb, fun j u hu => hc j u ?_⟩
  rw [List.getElem?_take] at hu
  split at hu
  · exact hu
  · cases hu
/-- The places that are left of those that were chosen. -/
def HeadP (w : World) (at' : List Nat) (q : Nat) (v : Value) (wx : World) : Prop := ∃ (A : Option Addr) (M c : Nat), v = .slice A M c ∧ M ≤ c ∧ M ≤ q ∧ M ≤ at'.length ∧ Rd w w.heap.size 1 A M ((at'.take M).map (fun a : Nat => Value.int .i64 a)) ∧ wx = w
set_option maxRecDepth 100000 in
set_option maxHeartbeats 4000000 in
theorem View_law (A A' AO AP : Option Addr) (n c m c' om oc pm pc : Nat) (NI KI : Int) (sec cs oth pick : List Nat) (w : World) (hn : n ≤ 60) (hm : m ≤ 9223372036854775807) (hom : om ≤ 9223372036854775807) (hpm : pm ≤ 9223372036854775807) (hnc : n ≤ c) (hs : Bytes sec) (hcs : Bytes cs) (ho : Bytes oth) (hp : Bytes pick)
    (h : Rd w w.heap.size 1 A n (u8s sec)) (h' : Rd w w.heap.size 1 A' m (u8s cs)) (hot : Rd w w.heap.size 1 AO om (u8s oth)) (hpk : Rd w w.heap.size 1 AP pm (u8s pick)) :
    Calls Try.prog 5 #[.agg #[.slice A n c, .int .i64 NI, .int .i64 KI, .slice A' m c'], .slice AO om oc, .slice AP pm pc] w fun e w' => e = .returned (.bool true) ∧ Below w.heap.size w w' := by
  have g1 : (n : Int) ≤ 60 := by omega
  have hsl : sec.length = n := by have := h.1; simpa [u8s] using this
  have HS := Lib.hid hs; have HCS := Lib.hid hcs; have HP := Lib.hid hp; have HO := Lib.hid ho; have HSL := Lib.hid hsl
  obtain ⟨wa, hwa⟩ : ∃ wa, wa = w.alloc (.cells #[.slice A n c, .int .i64 NI, .int .i64 KI, .slice A' m c'] 51) := ⟨_, rfl⟩
  have Ba : Below w.heap.size w wa := by rw [hwa]; exact (Below.refl _ _).alloc (Nat.le_refl _) _
  have sa : wa.heap.size = w.heap.size + 1 := by rw [hwa]; simp
  have RS := Lib.hid ((h.below Ba).mono (by omega) : Rd wa wa.heap.size 1 A n (u8s sec)); have RC := Lib.hid ((h'.below Ba).mono (by omega) : Rd wa wa.heap.size 1 A' m (u8s cs)); have RO := Lib.hid ((hot.below Ba).mono (by omega) : Rd wa wa.heap.size 1 AO om (u8s oth)); have RP := Lib.hid ((hpk.below Ba).mono (by omega) : Rd wa wa.heap.size 1 AP pm (u8s pick))
  have HWA := Lib.hid hwa
  clear h h' hpk hot hs hcs hp ho hwa hsl
  go_enter Try.func5, Try.ntmps5
  go_wp2_with fail
  rw [← HWA.out]
  clear HWA
  refine (fits_any _ _ _ _ _ _ _ _ sec cs _ hn hm HCS.out RC.out).mono ?_
  rintro e w1 ⟨N, q, c2, A2, co, hN1, hN2, hqN, hc2, hcb, hcl, rfl, hr2, hb1⟩
  have s1 := hb1.size
  have B1 : Below w.heap.size w w1 := Ba.trans (hb1.mono (by omega))
  obtain ⟨m2, hm2⟩ : ∃ m2, m2 = n * q := ⟨_, rfl⟩
  rw [← hm2] at hc2 hcl hr2 ⊢
  have hm29 : m2 ≤ 60 * 15 := by rw [hm2]; exact Nat.mul_le_mul hn (by omega)
  have HM := Lib.hid hm2; have HCB := Lib.hid hcb; have HCL := Lib.hid hcl
  obtain ⟨wb, hwb⟩ : ∃ wb, wb = w1.alloc (.cells #[.slice A n c, .int .i64 N, .int .i64 ((q : Int) + 1), .slice A2 m2 c2] 51) := ⟨_, rfl⟩
  have Bb : Below w1.heap.size w1 wb := by rw [hwb]; exact (Below.refl _ _).alloc (Nat.le_refl _) _
  have sb : wb.heap.size = w1.heap.size + 1 := by rw [hwb]; simp
  have hblk : wb.heap[w1.heap.size]? = some (.cells #[.slice A n c, .int .i64 N, .int .i64 ((q : Int) + 1), .slice A2 m2 c2] 51 (0, 0)) := by rw [hwb]; exact heap_alloc_new w1 _
  have x01 : wb.cell? ⟨w1.heap.size, 0, none⟩ = some (.slice A n c) := by rw [cell_of_row _ _ _ _ _ _ hblk]; rfl
  have x11 : wb.cell? ⟨w1.heap.size, 1, none⟩ = some (.int .i64 N) := by rw [cell_of_row _ _ _ _ _ _ hblk]; rfl
  have x21 : wb.cell? ⟨w1.heap.size, 2, none⟩ = some (.int .i64 ((q : Int) + 1)) := by rw [cell_of_row _ _ _ _ _ _ hblk]; rfl
  have x31 : wb.cell? ⟨w1.heap.size, 3, none⟩ = some (.slice A2 m2 c2) := by rw [cell_of_row _ _ _ _ _ _ hblk]; rfl
  have SEC1 := Lib.hid (((RS.out.below hb1).mono s1).below Bb |>.mono (by omega) : Rd wb wb.heap.size 1 A n (u8s sec)); have PK1 := Lib.hid (((RP.out.below hb1).mono s1).below Bb |>.mono (by omega) : Rd wb wb.heap.size 1 AP pm (u8s pick)); have OT1 := Lib.hid (((RO.out.below hb1).mono s1).below Bb |>.mono (by omega) : Rd wb wb.heap.size 1 AO om (u8s oth)); have CO1 := Lib.hid ((hr2.below Bb).mono (by omega) : Rd wb wb.heap.size 1 A2 m2 (u8s co))
  have Bwb : Below w.heap.size w wb := B1.trans (Bb.mono (by omega))
  have HWB := Lib.hid hwb
  have gN1 : (1 : Int) ≤ (N : Int) := by omega
  have gN2 : (N : Int) ≤ 16 := by omega
  have gq : (q : Int) + 1 ≤ 16 := by omega
  have hsz1 : w.heap.size ≤ w1.heap.size := B1.size
  generalize hCe : w1.heap.size = C at *
  have HCE := Lib.hid hCe
  clear hCe hwb hcb hcl hm2 hr2 RS RC RP RO hblk hb1 Ba B1 Bb
  have hmk := fun w => make_u8 w n (by omega)
  go_wp2_with fail
  clear hmk
  rw [HCE.out]
  rw [← HWB.out]
  clear HWB HCE
  clear s1
  obtain ⟨w1, hw1⟩ : ∃ x, x = wb := ⟨_, rfl⟩
  subst hw1
  have s1 : C < w1.heap.size := by omega
  have B1 : Below w.heap.size w w1 := Bwb
  have SBC := Lib.hid sb
  clear Bwb sb sa
  have hbz : Bytes (List.replicate n 0) := Bytes.zeros n
  have HBZ := Lib.hid hbz; clear hbz
  obtain ⟨w2, hw2⟩ : ∃ w2, w2 = w1.alloc (.cells (Array.replicate n (.int .u8 0)) 5) := ⟨_, rfl⟩
  have hb2 : Below w1.heap.size w1 w2 := by rw [hw2]; exact (Below.refl _ _).alloc (Nat.le_refl _) _
  have hz2 : w2.heap[w1.heap.size]? = some (.cells (u8s (List.replicate n 0)).toArray 5 (0, 0)) := by
    rw [hw2, heap_alloc_new w1 _]; simp [u8s]
  have Z2 := Lib.hid (row_rd (n := n) hz2 (by simp))
  rw [SBC.out] at Z2
  rw [← hw2]
  clear hz2 hw2 SBC
  have s2 := hb2.size
  have B2 : Below w.heap.size w w2 := B1.trans (hb2.mono (by omega))
  have SEC2 := Lib.hid ((SEC1.out.below hb2).mono s2); clear SEC1
  have PK2 := Lib.hid ((PK1.out.below hb2).mono s2); clear PK1
  have CO2 := Lib.hid ((CO1.out.below hb2).mono s2); clear CO1
  have OT2 := Lib.hid ((OT1.out.below hb2).mono s2); clear OT1
  have x02 := (hb2.cell (p := ⟨C, 0, none⟩) (by simp only; omega)).trans x01; clear x01
  have x12 := (hb2.cell (p := ⟨C, 1, none⟩) (by simp only; omega)).trans x11; clear x11
  have x22 := (hb2.cell (p := ⟨C, 2, none⟩) (by simp only; omega)).trans x21; clear x21
  have x32 := (hb2.cell (p := ⟨C, 3, none⟩) (by simp only; omega)).trans x31; clear x31
  go_wp2_with fail
  refine (xor_any _ _ _ _ _ _ (List.replicate n 0) oth _ (by omega) hom HBZ.out HO.out (Z2.out) (OT2.out)).mono ?_
  rintro e w3 ⟨A3, c3, rfl, hc3, hr3, hb3⟩
  have s3 := hb3.size
  have B3 : Below w.heap.size w w3 := B2.trans (hb3.mono (by omega))
  have SEC3 := Lib.hid ((SEC2.out.below hb3).mono s3); clear SEC2
  have PK3 := Lib.hid ((PK2.out.below hb3).mono s3); clear PK2
  have CO3 := Lib.hid ((CO2.out.below hb3).mono s3); clear CO2
  have OT3 := Lib.hid ((OT2.out.below hb3).mono s3); clear OT2
  have Z3 := Lib.hid ((Z2.out.below hb3).mono s3); clear Z2
  have x03 := (hb3.cell (p := ⟨C, 0, none⟩) (by simp only; omega)).trans x02; clear x02
  have x13 := (hb3.cell (p := ⟨C, 1, none⟩) (by simp only; omega)).trans x12; clear x12
  have x23 := (hb3.cell (p := ⟨C, 2, none⟩) (by simp only; omega)).trans x22; clear x22
  have x33 := (hb3.cell (p := ⟨C, 3, none⟩) (by simp only; omega)).trans x32; clear x32
  have TW3 := Lib.hid hr3; clear hr3
  clear Z3 OT3
  have hsb : Bytes (xorP (List.replicate n 0) oth) := xorP_bytes HBZ.out HO.out
  have hsl2 : (xorP (List.replicate n 0) oth).length = n := by rw [xorP_len]; simp
  generalize xorP (List.replicate n 0) oth = sec2 at TW3 hsb hsl2
  have HSB := Lib.hid hsb; have HSL2 := Lib.hid hsl2; clear hsb hsl2
  go_wp2_with fail
  refine (chosen_any _ _ _ N pick _ hpm HP.out hN1 hN2 (PK3.out)).mono ?_
  rintro e w4 ⟨at', A4, c4, hnd, hlt, hc4, rfl, hra, hb4⟩
  have s4 := hb4.size
  have B4 : Below w.heap.size w w4 := B3.trans (hb4.mono (by omega))
  have SEC4 := Lib.hid ((SEC3.out.below hb4).mono s4); clear SEC3
  have PK4 := Lib.hid ((PK3.out.below hb4).mono s4); clear PK3
  have CO4 := Lib.hid ((CO3.out.below hb4).mono s4); clear CO3
  have TW4 := Lib.hid ((TW3.out.below hb4).mono s4); clear TW3
  have x04 := (hb4.cell (p := ⟨C, 0, none⟩) (by simp only; omega)).trans x03; clear x03
  have x14 := (hb4.cell (p := ⟨C, 1, none⟩) (by simp only; omega)).trans x13; clear x13
  have x24 := (hb4.cell (p := ⟨C, 2, none⟩) (by simp only; omega)).trans x23; clear x23
  have x34 := (hb4.cell (p := ⟨C, 3, none⟩) (by simp only; omega)).trans x33; clear x33
  have AT4 := Lib.hid hra; have HND := Lib.hid hnd; have HLT := Lib.hid hlt
  have hal : at'.length ≤ 16 := Nat.le_trans (nodup_le N at' hnd hlt) hN2
  clear hra hnd hlt
  clear PK4
  go_upto_region 6 with fail
  go_cut [9] (fun s9 wx => HeadP w4 at' q s9 wx)
  case first => as_aux_lemma =>
    have hmin : (min (at'.length : Int) (q : Int)).toNat = min at'.length q := by omega
    have HMI := Lib.hid hmin; clear hmin
    go_wp2_with fail
    go_meet
    exact ⟨A4, min at'.length q, c4, by rw [HMI.out], by omega, by omega, by omega, by have := (AT4.out).firsts (k := min at'.length q) (by omega); rwa [← List.map_take] at this, rfl⟩
  case rest => as_aux_lemma =>
    obtain ⟨A5, M, c5, rfl, hc5, hMq, hMl, hr5, hwx⟩ := hcut
    have hwy := hwx.symm
    clear hwx
    subst hwy
    obtain ⟨at2, hat2⟩ : ∃ l, l = at'.take M := ⟨_, rfl⟩
    have HND2 : Hid at2.Nodup := Lib.hid (by rw [hat2]; exact HND.out.sublist (List.take_sublist _ _))
    have HLT2 : Hid (∀ a ∈ at2, a < N) := Lib.hid (fun a ha => HLT.out a (by rw [hat2] at ha; exact List.mem_of_mem_take ha))
    have hlen2 : at2.length = M := by rw [hat2, List.length_take]; omega
    rw [← hat2] at hr5
    have PL4 := Lib.hid hr5
    have hat16 : ∀ a ∈ at2, a < 16 := fun a ha => Nat.lt_of_lt_of_le (HLT2.out a ha) hN2
    have H16 := Lib.hid hat16
    have HL2 := Lib.hid hlen2
    clear hat16 hr5 hat2 AT4 HLT HND hlen2
    go_wp2_with fail
    go_loopw [10, 11] (fun vo v wr => ∃ (k : Nat) (l : List ShareV), k ≤ M ∧ v = .int .i64 k ∧ ShOwn wr w4.heap.size vo k l ∧ l.map ShareV.view = (at2.take k).map (fun a => (a + 1, List.replicate n 0)) ∧ (∀ s ∈ l, s.n = n) ∧ Below w4.heap.size w4 wr) (fun _ v _ => M - (intOf v).toNat)
    case atStart => exact ⟨0, [], Nat.zero_le _, rfl, ShOwn.nil _ _, rfl, (fun _ h => by cases h), Below.refl _ _⟩
    case round =>
      obtain ⟨wa, rfl⟩ : ∃ wa : World, wa = wr := ⟨_, rfl⟩
      obtain ⟨k, l, hk, rfl, hown, hm, hn', hbw⟩ := hrel
      have HOW := Lib.hid hown; have HMV := Lib.hid hm; have HNN := Lib.hid hn'
      have hsz := hbw.size
      clear hown hm hn'
      by_cases hlt : k < M
      · have hlt' : (k : Int) < (M : Int) := by omega
        obtain ⟨ba, oa, rfl, hba, hca⟩ := PL4.out.2 (by omega)
        have hka : k < at2.length := by rw [HL2.out]; exact hlt
        have ca : wa.cell? ⟨ba, oa + k, none⟩ = some (.int .i64 (at2[k] : Nat)) := (hbw.cell (p := ⟨ba, oa + k, none⟩) hba).trans (hca k _ (by simp [hka]))
        have xs : wa.cell? ⟨C, 0, none⟩ = some (.slice A n c) := (hbw.cell (p := ⟨C, 0, none⟩) (by simp only; omega)).trans x04
        have ha16 := H16.out _ (List.getElem_mem hka)
        have HV : Hid ((at2.take (k + 1)).map (fun a => (a + 1, List.replicate n 0)) = (at2.take k).map (fun a => (a + 1, List.replicate n 0)) ++ [(at2[k] + 1, List.replicate n 0)]) := Lib.hid (by rw [take_snoc _ _ hka, List.map_append]; rfl)
        generalize at2[k] = a at ca ha16 HV
        clear hca hka
        have hmk := fun w => make_u8 w n (by omega)
        have hw8 : IntKind.u8.wrap ((a : Int) + 1) = (a : Int) + 1 := by rw [IntKind.wrap_u8]; omega
        have hw64 : IntKind.i64.wrap ((a : Int) + 1) = (a : Int) + 1 := i64_small (a + 1) (by omega)
        have hfar : Below wa.heap.size wa (wa.drew.alloc (.cells (Array.replicate n (.int .u8 0)) 5)) := ((Qw.refl wa).drew.below _).alloc (Nat.le_refl _) _
        have HO2 := Lib.hid (HOW.out.past hfar)
        have HSN : Hid (ShareV.own (wa.drew.alloc (.cells (Array.replicate n (.int .u8 0)) 5)) w4.heap.size ⟨a + 1, some ⟨wa.heap.size, 0, none⟩, n, n, List.replicate n 0⟩) := Lib.hid ⟨by simp only; omega, Bytes.zeros n, Nat.le_refl _, by simp only; omega, by simp, fun h0 => by
          have h1 := own_new wa.drew (Array.replicate n (.int .u8 0)) 5 n (by simp) (by omega)
          have e : u8s (List.replicate n 0) = (Array.replicate n (Value.int .u8 0)).toList := by simp [u8s]
          dsimp only
          rw [e]
          exact ownsRow_mono h1 hsz⟩
        have hki : (k : Int) < (M : Int) := by omega
        go_wp2_with fail
        refine wp_region_held_drew (S := fun w' => Below w4.heap.size wa w') (by kernel_rfl) ?_ (fun hHeld => ?_)
        · (try dsimp only); first | exact Below.refl _ _ | exact (Qw.refl wa).drew.below _ | exact hHeld.alloc (Nat.le_trans hsz (by simp)) _ | (refine hHeld.alloc ?_ _; simp; omega) | exact ((hfar.mono hsz)).trans hb3
        refine wpAnyH_take (i := 0) (oi := ⟨some 50, _, _, _, _, _⟩) (v := ?_) rfl (by kernel_rfl) (by kernel_rfl) (by kernel_rfl) (fun _ _ _ h => h) (Or.inl ⟨by rfl, ?_⟩) (by assumption) ?_
        rotate_left
        · (intro w hSw; (try dsimp only at hSw); go_simp; try with_reducible rfl)
        try simp only [Act.put, List.setIfInBounds_toArray, List.set_cons_zero, List.set_cons_succ]
        refine wpAnyH_take (i := 1) (oi := ⟨some 51, _, _, _, _, _⟩) (v := ?_) rfl (by kernel_rfl) (by kernel_rfl) (by kernel_rfl) (fun _ _ _ h => h) (Or.inl ⟨by rfl, ?_⟩) (by assumption) ?_
        rotate_left
        · (intro w hSw; (try dsimp only at hSw); go_simp; try with_reducible rfl)
        try simp only [Act.put, List.setIfInBounds_toArray, List.set_cons_zero, List.set_cons_succ]
        refine wpAnyH_take (i := 2) (oi := ⟨some 52, _, _, _, _, _⟩) (v := ?_) rfl (by kernel_rfl) (by kernel_rfl) (by kernel_rfl) (fun _ _ _ h => h) (Or.inl ⟨by rfl, ?_⟩) (by assumption) ?_
        rotate_left
        · (intro w hSw; (try dsimp only at hSw); go_simp; try with_reducible rfl)
        try simp only [Act.put, List.setIfInBounds_toArray, List.set_cons_zero, List.set_cons_succ]
        refine wpAnyH_take (i := 3) (oi := ⟨some 53, _, _, _, _, _⟩) (v := ?_) rfl (by kernel_rfl) (by kernel_rfl) (by kernel_rfl) (fun _ _ _ h => h) (Or.inl ⟨by rfl, ?_⟩) (by assumption) ?_
        rotate_left
        · (intro w hSw; (try dsimp only at hSw); go_simp; try with_reducible rfl)
        try simp only [Act.put, List.setIfInBounds_toArray, List.set_cons_zero, List.set_cons_succ]
        refine wpAnyH_take (i := 4) (oi := ⟨some 54, _, _, _, _, _⟩) (v := .int .i64 a) rfl (by kernel_rfl) (by kernel_rfl) (by kernel_rfl) (fun _ _ _ h => h) (Or.inl ⟨by rfl, ?_⟩) (by assumption) ?_
        · (intro w hSw; (try dsimp only at hSw); have hq := (hSw.cell (p := ⟨ba, oa + k, none⟩) hba).trans ca; go_simp)
        try simp only [Act.put, List.setIfInBounds_toArray, List.set_cons_zero, List.set_cons_succ]
        refine wpAnyH_take (i := 5) (oi := ⟨some 55, _, _, _, _, _⟩) (v := ?_) rfl (by kernel_rfl) (by kernel_rfl) (by kernel_rfl) (fun _ _ _ h => h) (Or.inl ⟨by rfl, ?_⟩) (by assumption) ?_
        rotate_left
        · (intro w hSw; (try dsimp only at hSw); go_simp; try with_reducible rfl)
        try simp only [Act.put, List.setIfInBounds_toArray, List.set_cons_zero, List.set_cons_succ]
        refine wpAnyH_take (i := 6) (oi := ⟨some 56, _, _, _, _, _⟩) (v := ?_) rfl (by kernel_rfl) (by kernel_rfl) (by kernel_rfl) (fun _ _ _ h => h) (Or.inl ⟨by rfl, ?_⟩) (by assumption) ?_
        rotate_left
        · (intro w hSw; (try dsimp only at hSw); go_simp; try with_reducible rfl)
        try simp only [Act.put, List.setIfInBounds_toArray, List.set_cons_zero, List.set_cons_succ]
        refine wpAnyH_take (i := 7) (oi := ⟨some 57, _, _, _, _, _⟩) (v := ?_) rfl (by kernel_rfl) (by kernel_rfl) (by kernel_rfl) (fun _ _ _ h => h) (Or.inl ⟨by rfl, ?_⟩) (by assumption) ?_
        rotate_left
        · (intro w hSw; (try dsimp only at hSw); go_simp; try with_reducible rfl)
        try simp only [Act.put, List.setIfInBounds_toArray, List.set_cons_zero, List.set_cons_succ]
        refine wpAnyH_take (i := 8) (oi := ⟨some 58, _, _, _, _, _⟩) (v := .slice A n c) rfl (by kernel_rfl) (by kernel_rfl) (by kernel_rfl) (fun _ _ _ h => h) (Or.inl ⟨by rfl, ?_⟩) (by assumption) ?_
        · (intro w hSw; (try dsimp only at hSw); have hq := (hSw.cell (p := ⟨C, 0, none⟩) (by simp only; omega)).trans xs; go_simp)
        try simp only [Act.put, List.setIfInBounds_toArray, List.set_cons_zero, List.set_cons_succ]
        refine wpAnyH_take (i := 9) (oi := ⟨some 59, _, _, _, _, _⟩) (v := ?_) rfl (by kernel_rfl) (by kernel_rfl) (by kernel_rfl) (fun _ _ _ h => h) (Or.inl ⟨by rfl, ?_⟩) (by assumption) ?_
        rotate_left
        · (intro w hSw; (try dsimp only at hSw); go_simp; try with_reducible rfl)
        try simp only [Act.put, List.setIfInBounds_toArray, List.set_cons_zero, List.set_cons_succ]
        refine wpAnyH_ready (rs := [10]) (by kernel_rfl) (by simp) ?_
        refine AllReadyH.cons (o := ⟨some 60, _, _, _, _, _⟩) rfl (fun K hK => ?_) AllReadyH.nil
        go_simp
        refine hK.out _ _ ?_ (fun hHeld => ?_)
        · (try dsimp only); first | exact Below.refl _ _ | exact (Qw.refl wa).drew.below _ | exact hHeld.alloc (Nat.le_trans hsz (by simp)) _ | (refine hHeld.alloc ?_ _; simp; omega) | exact ((hfar.mono hsz)).trans hb3
        clear hK K
        try simp only [Act.put, List.setIfInBounds_toArray, List.set_cons_zero, List.set_cons_succ]
        refine wpAnyH_take (i := 11) (oi := ⟨some 61, _, _, _, _, _⟩) (v := ?_) rfl (by kernel_rfl) (by kernel_rfl) (by kernel_rfl) (fun _ _ _ h => h) (Or.inl ⟨by rfl, ?_⟩) (by assumption) ?_
        rotate_left
        · (intro w hSw; (try dsimp only at hSw); go_simp; try with_reducible rfl)
        try simp only [Act.put, List.setIfInBounds_toArray, List.set_cons_zero, List.set_cons_succ]
        refine wpAnyH_ready (rs := [12]) (by kernel_rfl) (by simp) ?_
        refine AllReadyH.cons (o := ⟨some 62, _, _, _, _, _⟩) rfl (fun K hK => ?_) AllReadyH.nil
        go_simp
        refine hK.out _ _ ?_ (fun hHeld => ?_)
        · (try dsimp only); first | exact Below.refl _ _ | exact (Qw.refl wa).drew.below _ | exact hHeld.alloc (Nat.le_trans hsz (by simp)) _ | (refine hHeld.alloc ?_ _; simp; omega) | exact ((hfar.mono hsz)).trans hb3
        clear hK K
        try simp only [Act.put, List.setIfInBounds_toArray, List.set_cons_zero, List.set_cons_succ]
        refine wpAnyH_ready (rs := [13]) (by kernel_rfl) (by simp) ?_
        refine AllReadyH.cons (o := ⟨some 63, _, _, _, _, _⟩) rfl (fun K hK => ?_) AllReadyH.nil
        refine step_push elB_share (.tmp 50) (.tmp 62) (by rfl) (by rfl) w4.heap.size k _ (by rfl) HO2.out.2.1 (by rw [World.size_alloc]; rfl) (by rfl) (by intro u hu; simp at hu; rcases hu with rfl | rfl <;> rfl) (by omega) (by decide) (by simp; omega) ?_
        intro v3 w3 hown3 hb3 hg3
        refine hK.out _ _ ?_ (fun hHeld => ?_)
        · (try dsimp only); first | exact Below.refl _ _ | exact (Qw.refl wa).drew.below _ | exact hHeld.alloc (Nat.le_trans hsz (by simp)) _ | (refine hHeld.alloc ?_ _; simp; omega) | exact ((hfar.mono hsz)).trans hb3
        clear hK K
        try simp only [Act.put, List.setIfInBounds_toArray, List.set_cons_zero, List.set_cons_succ]
        refine wpAnyH_take (i := 14) (oi := ⟨some 10, _, _, _, _, _⟩) (v := ?_) rfl (by kernel_rfl) (by kernel_rfl) (by kernel_rfl) (fun _ _ _ h => h) (Or.inl ⟨by rfl, ?_⟩) (by assumption) ?_
        rotate_left
        · (intro w hSw; (try dsimp only at hSw); go_simp; try with_reducible rfl)
        try simp only [Act.put, List.setIfInBounds_toArray, List.set_cons_zero, List.set_cons_succ]
        refine wpAnyH_done (by kernel_rfl) ?_ _
        go_wp2_with fail
        refine ⟨⟨k + 1, l ++ [⟨a + 1, some ⟨wa.heap.size, 0, none⟩, n, n, List.replicate n 0⟩], hlt, by go_num, (HO2.out.push HSN.out (by simpa using hown3) hg3), by rw [List.map_append, HMV.out, HV.out]; rfl, ?_, hbw.trans hHeld⟩, by simp [intOf]; omega⟩
        intro s hs
        rcases List.mem_append.1 hs with h | h
        · exact HNN.out s h
        · rw [List.mem_singleton.1 h]
      · have hlt' : ¬ (k : Int) < (M : Int) := by omega
        obtain rfl : k = M := by omega
        have hv := HMV.out
        rw [List.take_of_length_le (by rw [HL2.out]; exact Nat.le_refl _)] at hv
        obtain ⟨A6, c6, rfl, hc6⟩ := own_form HOW.out.2.1
        have hnr := HOW.out.rd
        have hsn := HNN.out
        clear HOW HMV HNN
        obtain ⟨w5, hw5⟩ : ∃ x, x = wa := ⟨_, rfl⟩
        subst hw5
        have hb5 := hbw
        have s5 := hb5.size
        have B5 : Below w.heap.size w w5 := B4.trans (hb5.mono (by omega))
        have SEC5 := Lib.hid ((SEC4.out.below hb5).mono s5); clear SEC4
        have CO5 := Lib.hid ((CO4.out.below hb5).mono s5); clear CO4
        have TW5 := Lib.hid ((TW4.out.below hb5).mono s5); clear TW4
        have PL5 := Lib.hid ((PL4.out.below hb5).mono s5); clear PL4
        have x05 := (hb5.cell (p := ⟨C, 0, none⟩) (by simp only; omega)).trans x04; clear x04
        have x15 := (hb5.cell (p := ⟨C, 1, none⟩) (by simp only; omega)).trans x14; clear x14
        have x25 := (hb5.cell (p := ⟨C, 2, none⟩) (by simp only; omega)).trans x24; clear x24
        have x35 := (hb5.cell (p := ⟨C, 3, none⟩) (by simp only; omega)).trans x34; clear x34
        obtain ⟨hchk, hview⟩ := view_same hv hsn HS.out HSB.out HCB.out HSL.out HSL2.out (HCL.out.trans HM.out) (by omega) HND2.out H16.out (by rw [HL2.out]; exact hMq)
        have hxa : xorP sec sec2 = addP sec sec2 := xorP_add (by rw [HSL.out, HSL2.out])
        rw [← hxa] at hview
        have hg := (chk_good n _ [] hchk).1
        have hbs : ShBytes l := fun s hs => ⟨(hnr.2.2 s hs).1, (hnr.2.2 s hs).2.1⟩
        have hxb : Bytes (xorP sec sec2) := xorP_bytes HS.out HSB.out
        have hdl : (coinsX l (xorP sec sec2) q n).length = m2 := by rw [coinsX_len hg hbs hxb (by rw [hnr.1]; exact hMq) n, HM.out]
        have hdb : Bytes (coinsX l (xorP sec sec2) q n) := coinsX_bytes hg hbs hxb n
        have hxc : xorP co (coinsX l (xorP sec sec2) q n) = addP co (coinsX l (xorP sec sec2) q n) := xorP_add (by rw [HCL.out, hdl])
        rw [← hxc] at hview
        have hxcb : Bytes (xorP co (coinsX l (xorP sec sec2) q n)) := xorP_bytes HCB.out hdb
        have NR5 := Lib.hid hnr; have HCH := Lib.hid hchk; have HVW := Lib.hid hview; have HXB := Lib.hid hxb; have HDB := Lib.hid hdb; have HXCB := Lib.hid hxcb; have HDL := Lib.hid hdl
        have hMq2 : (k : Int) ≤ (q : Int) := by omega
        clear hnr hchk hview hxa hg hbs hxb hdl hdb hxc hxcb hv hsn
        go_wp2_with fail
        refine wp_region_held_drew (S := fun w' => Below w5.heap.size w5 w') (by kernel_rfl) ?_ (fun hHeld => ?_)
        · (try dsimp only); first | exact Below.refl _ _ | exact (Qw.refl w5).drew.below _ | exact hHeld.trans (hb6.mono hHeld.size) | exact hHeld.trans (hbx.mono hHeld.size)
        refine wpAnyH_take (i := 0) (oi := ⟨some 65, _, _, _, _, _⟩) (v := ?_) rfl (by kernel_rfl) (by kernel_rfl) (by kernel_rfl) (fun _ _ _ h => h) (Or.inl ⟨by rfl, ?_⟩) (by assumption) ?_
        rotate_left
        · (intro w hSw; (try dsimp only at hSw); go_simp; try with_reducible rfl)
        try simp only [Act.put, List.setIfInBounds_toArray, List.set_cons_zero, List.set_cons_succ]
        refine wpAnyH_take (i := 1) (oi := ⟨some 66, _, _, _, _, _⟩) (v := ?_) rfl (by kernel_rfl) (by kernel_rfl) (by kernel_rfl) (fun _ _ _ h => h) (Or.inl ⟨by rfl, ?_⟩) (by assumption) ?_
        rotate_left
        · (intro w hSw; (try dsimp only at hSw); go_simp; try with_reducible rfl)
        try simp only [Act.put, List.setIfInBounds_toArray, List.set_cons_zero, List.set_cons_succ]
        refine wpAnyH_take (i := 2) (oi := ⟨some 67, _, _, _, _, _⟩) (v := .int .i64 ((q : Int) + 1)) rfl (by kernel_rfl) (by kernel_rfl) (by kernel_rfl) (fun _ _ _ h => h) (Or.inl ⟨by rfl, ?_⟩) (by assumption) ?_
        · (intro w hSw; (try dsimp only at hSw); have hq := bcells3 hSw x25; go_simp)
        try simp only [Act.put, List.setIfInBounds_toArray, List.set_cons_zero, List.set_cons_succ]
        refine wpAnyH_take (i := 3) (oi := ⟨some 68, _, _, _, _, _⟩) (v := ?_) rfl (by kernel_rfl) (by kernel_rfl) (by kernel_rfl) (fun _ _ _ h => h) (Or.inl ⟨by rfl, ?_⟩) (by assumption) ?_
        rotate_left
        · (intro w hSw; (try dsimp only at hSw); go_simp; try with_reducible rfl)
        try simp only [Act.put, List.setIfInBounds_toArray, List.set_cons_zero, List.set_cons_succ]
        refine wpAnyH_take (i := 4) (oi := ⟨some 69, _, _, _, _, _⟩) (v := .slice A n c) rfl (by kernel_rfl) (by kernel_rfl) (by kernel_rfl) (fun _ _ _ h => h) (Or.inl ⟨by rfl, ?_⟩) (by assumption) ?_
        · (intro w hSw; (try dsimp only at hSw); have hq := bcells3 hSw x05; go_simp)
        try simp only [Act.put, List.setIfInBounds_toArray, List.set_cons_zero, List.set_cons_succ]
        refine wpAnyH_take (i := 5) (oi := ⟨some 70, _, _, _, _, _⟩) (v := ?_) rfl (by kernel_rfl) (by kernel_rfl) (by kernel_rfl) (fun _ _ _ h => h) (Or.inl ⟨by rfl, ?_⟩) (by assumption) ?_
        rotate_left
        · (intro w hSw; (try dsimp only at hSw); go_simp; try with_reducible rfl)
        try simp only [Act.put, List.setIfInBounds_toArray, List.set_cons_zero, List.set_cons_succ]
        refine wpAnyH_ready (rs := [6]) (by kernel_rfl) (by simp) ?_
        refine AllReadyH.cons (o := ⟨some 71, _, _, _, _, _⟩) rfl (fun K hK => ?_) AllReadyH.nil
        go_simp
        refine (xor_any _ _ _ _ _ _ sec sec2 _ (by omega) (by omega) HS.out HSB.out ((SEC5.out.below hHeld).mono hHeld.size) ((TW5.out.below hHeld).mono hHeld.size)).mono ?_
        rintro e w6 ⟨A7, c7, rfl, hc7, hr7, hb6⟩
        go_wp2_with fail
        refine hK.out _ _ ?_ (fun hHeld => ?_)
        · (try dsimp only); first | exact Below.refl _ _ | exact (Qw.refl w5).drew.below _ | exact hHeld.trans (hb6.mono hHeld.size) | exact hHeld.trans (hbx.mono hHeld.size)
        clear hK K
        try simp only [Act.put, List.setIfInBounds_toArray, List.set_cons_zero, List.set_cons_succ]
        refine wpAnyH_ready (rs := [7]) (by kernel_rfl) (by simp) ?_
        refine AllReadyH.cons (o := ⟨some 72, _, _, _, _, _⟩) rfl (fun K hK => ?_) AllReadyH.nil
        go_simp
        refine (Expl_ok _ _ _ _ _ _ q l (xorP sec sec2) _ (by omega) (by omega) (by omega) ((NR5.out.below hHeld).mono hHeld.size) HXB.out hr7 HCH.out).mono ?_
        rintro e w7 ⟨A8, m8, c8, rfl, hc8, hS8, hr8, hbx⟩
        go_wp2_with fail
        refine hK.out _ _ ?_ (fun hHeld => ?_)
        · (try dsimp only); first | exact Below.refl _ _ | exact (Qw.refl w5).drew.below _ | exact hHeld.trans (hb6.mono hHeld.size) | exact hHeld.trans (hbx.mono hHeld.size)
        clear hK K
        try simp only [Act.put, List.setIfInBounds_toArray, List.set_cons_zero, List.set_cons_succ]
        refine wpAnyH_take (i := 8) (oi := ⟨some 64, _, _, _, _, _⟩) (v := ?_) rfl (by kernel_rfl) (by kernel_rfl) (by kernel_rfl) (fun _ _ _ h => h) (Or.inl ⟨by rfl, ?_⟩) (by assumption) ?_
        rotate_left
        · (intro w hSw; (try dsimp only at hSw); go_simp; try with_reducible rfl)
        try simp only [Act.put, List.setIfInBounds_toArray, List.set_cons_zero, List.set_cons_succ]
        refine wpAnyH_take (i := 9) (oi := ⟨some 73, _, _, _, _, _⟩) (v := ?_) rfl (by kernel_rfl) (by kernel_rfl) (by kernel_rfl) (fun _ _ _ h => h) (Or.inl ⟨by rfl, ?_⟩) (by assumption) ?_
        rotate_left
        · (intro w hSw; (try dsimp only at hSw); go_simp; try with_reducible rfl)
        try simp only [Act.put, List.setIfInBounds_toArray, List.set_cons_zero, List.set_cons_succ]
        refine wpAnyH_take (i := 10) (oi := ⟨some 74, _, _, _, _, _⟩) (v := ?_) rfl (by kernel_rfl) (by kernel_rfl) (by kernel_rfl) (fun _ _ _ h => h) (Or.inl ⟨by rfl, ?_⟩) (by assumption) ?_
        rotate_left
        · (intro w hSw; (try dsimp only at hSw); go_simp; try with_reducible rfl)
        try simp only [Act.put, List.setIfInBounds_toArray, List.set_cons_zero, List.set_cons_succ]
        refine wpAnyH_take (i := 11) (oi := ⟨some 12, _, _, _, _, _⟩) (v := ?_) rfl (by kernel_rfl) (by kernel_rfl) (by kernel_rfl) (fun _ _ _ h => h) (Or.inl ⟨by rfl, ?_⟩) (by assumption) ?_
        rotate_left
        · (intro w hSw; (try dsimp only at hSw); go_simp; try with_reducible rfl)
        try simp only [Act.put, List.setIfInBounds_toArray, List.set_cons_zero, List.set_cons_succ]
        refine wpAnyH_take (i := 12) (oi := ⟨some 13, _, _, _, _, _⟩) (v := ?_) rfl (by kernel_rfl) (by kernel_rfl) (by kernel_rfl) (fun _ _ _ h => h) (Or.inl ⟨by rfl, ?_⟩) (by assumption) ?_
        rotate_left
        · (intro w hSw; (try dsimp only at hSw); go_simp; try with_reducible rfl)
        try simp only [Act.put, List.setIfInBounds_toArray, List.set_cons_zero, List.set_cons_succ]
        refine wpAnyH_done (by kernel_rfl) ?_ _
        have hb7 : Below w5.heap.size w5 w7 := hHeld
        obtain rfl : m2 = m8 := by rw [← hS8, HDL.out]
        have s7 := hb7.size
        have B7 : Below w.heap.size w w7 := B5.trans (hb7.mono (by omega))
        have SEC7 := Lib.hid ((SEC5.out.below hb7).mono s7); clear SEC5
        have CO7 := Lib.hid ((CO5.out.below hb7).mono s7); clear CO5
        have TW7 := Lib.hid ((TW5.out.below hb7).mono s7); clear TW5
        have PL7 := Lib.hid ((PL5.out.below hb7).mono s7); clear PL5
        have NR7 := Lib.hid ((NR5.out.below hb7).mono s7); clear NR5
        have x07 := (hb7.cell (p := ⟨C, 0, none⟩) (by simp only; omega)).trans x05; clear x05
        have x17 := (hb7.cell (p := ⟨C, 1, none⟩) (by simp only; omega)).trans x15; clear x15
        have x27 := (hb7.cell (p := ⟨C, 2, none⟩) (by simp only; omega)).trans x25; clear x25
        have x37 := (hb7.cell (p := ⟨C, 3, none⟩) (by simp only; omega)).trans x35; clear x35
        have DD7 := Lib.hid hr8
        clear hr8 hS8 hr7 hbx hb6 NR7
        obtain ⟨D, hD⟩ : ∃ D, D = coinsX l (xorP sec sec2) q n := ⟨_, rfl⟩
        rw [← hD] at HVW HDB HDL HXCB DD7
        clear hD
        go_wp2_with fail
        refine (Split_ok _ _ _ _ _ _ N q sec co _ (by omega) hN1 hN2 hqN HM.out hc2 HS.out HCB.out (SEC7.out) (CO7.out)).mono ?_
        rintro e w8 ⟨rfl, hsw, hb8⟩
        have s8 := hb8.size
        have B8 : Below w.heap.size w w8 := B7.trans (hb8.mono (by omega))
        have SEC8 := Lib.hid ((SEC7.out.below hb8).mono s8); clear SEC7
        have CO8 := Lib.hid ((CO7.out.below hb8).mono s8); clear CO7
        have TW8 := Lib.hid ((TW7.out.below hb8).mono s8); clear TW7
        have PL8 := Lib.hid ((PL7.out.below hb8).mono s8); clear PL7
        have DD8 := Lib.hid ((DD7.out.below hb8).mono s8); clear DD7
        have x08 := (hb8.cell (p := ⟨C, 0, none⟩) (by simp only; omega)).trans x07; clear x07
        have x18 := (hb8.cell (p := ⟨C, 1, none⟩) (by simp only; omega)).trans x17; clear x17
        have x28 := (hb8.cell (p := ⟨C, 2, none⟩) (by simp only; omega)).trans x27; clear x27
        have x38 := (hb8.cell (p := ⟨C, 3, none⟩) (by simp only; omega)).trans x37; clear x37
        have SH8 : Hid (ShR w8 w8.heap.size (some ⟨w7.heap.size, 0, none⟩) N (progV w7.heap.size n N q sec co)) := Lib.hid ((hsw.shr (by omega) hN2 HS.out HCB.out).mono (by rw [hsw.1]; exact Nat.le_refl _))
        clear hsw
        go_wp2_with fail
        refine wp_region_held_drew (S := fun w' => Below w8.heap.size w8 w') (by kernel_rfl) ?_ (fun hHeld => ?_)
        · (try dsimp only); first | exact Below.refl _ _ | exact (Qw.refl w8).drew.below _ | exact hHeld.trans (hb9.mono hHeld.size) | exact hHeld.trans (hbx.mono hHeld.size)
        refine wpAnyH_take (i := 0) (oi := ⟨some 88, _, _, _, _, _⟩) (v := ?_) rfl (by kernel_rfl) (by kernel_rfl) (by kernel_rfl) (fun _ _ _ h => h) (Or.inl ⟨by rfl, ?_⟩) (by assumption) ?_
        rotate_left
        · (intro w hSw; (try dsimp only at hSw); go_simp; try with_reducible rfl)
        try simp only [Act.put, List.setIfInBounds_toArray, List.set_cons_zero, List.set_cons_succ]
        refine wpAnyH_take (i := 1) (oi := ⟨some 89, _, _, _, _, _⟩) (v := ?_) rfl (by kernel_rfl) (by kernel_rfl) (by kernel_rfl) (fun _ _ _ h => h) (Or.inl ⟨by rfl, ?_⟩) (by assumption) ?_
        rotate_left
        · (intro w hSw; (try dsimp only at hSw); go_simp; try with_reducible rfl)
        try simp only [Act.put, List.setIfInBounds_toArray, List.set_cons_zero, List.set_cons_succ]
        refine wpAnyH_take (i := 2) (oi := ⟨some 90, _, _, _, _, _⟩) (v := .int .i64 N) rfl (by kernel_rfl) (by kernel_rfl) (by kernel_rfl) (fun _ _ _ h => h) (Or.inl ⟨by rfl, ?_⟩) (by assumption) ?_
        · (intro w hSw; (try dsimp only at hSw); have hq := bcells3 hSw x18; go_simp)
        try simp only [Act.put, List.setIfInBounds_toArray, List.set_cons_zero, List.set_cons_succ]
        refine wpAnyH_take (i := 3) (oi := ⟨some 91, _, _, _, _, _⟩) (v := ?_) rfl (by kernel_rfl) (by kernel_rfl) (by kernel_rfl) (fun _ _ _ h => h) (Or.inl ⟨by rfl, ?_⟩) (by assumption) ?_
        rotate_left
        · (intro w hSw; (try dsimp only at hSw); go_simp; try with_reducible rfl)
        try simp only [Act.put, List.setIfInBounds_toArray, List.set_cons_zero, List.set_cons_succ]
        refine wpAnyH_take (i := 4) (oi := ⟨some 92, _, _, _, _, _⟩) (v := .int .i64 ((q : Int) + 1)) rfl (by kernel_rfl) (by kernel_rfl) (by kernel_rfl) (fun _ _ _ h => h) (Or.inl ⟨by rfl, ?_⟩) (by assumption) ?_
        · (intro w hSw; (try dsimp only at hSw); have hq := bcells3 hSw x28; go_simp)
        try simp only [Act.put, List.setIfInBounds_toArray, List.set_cons_zero, List.set_cons_succ]
        refine wpAnyH_take (i := 5) (oi := ⟨some 93, _, _, _, _, _⟩) (v := ?_) rfl (by kernel_rfl) (by kernel_rfl) (by kernel_rfl) (fun _ _ _ h => h) (Or.inl ⟨by rfl, ?_⟩) (by assumption) ?_
        rotate_left
        · (intro w hSw; (try dsimp only at hSw); go_simp; try with_reducible rfl)
        try simp only [Act.put, List.setIfInBounds_toArray, List.set_cons_zero, List.set_cons_succ]
        refine wpAnyH_take (i := 6) (oi := ⟨some 94, _, _, _, _, _⟩) (v := .slice A2 m2 c2) rfl (by kernel_rfl) (by kernel_rfl) (by kernel_rfl) (fun _ _ _ h => h) (Or.inl ⟨by rfl, ?_⟩) (by assumption) ?_
        · (intro w hSw; (try dsimp only at hSw); have hq := bcells3 hSw x38; go_simp)
        try simp only [Act.put, List.setIfInBounds_toArray, List.set_cons_zero, List.set_cons_succ]
        refine wpAnyH_take (i := 7) (oi := ⟨some 95, _, _, _, _, _⟩) (v := ?_) rfl (by kernel_rfl) (by kernel_rfl) (by kernel_rfl) (fun _ _ _ h => h) (Or.inl ⟨by rfl, ?_⟩) (by assumption) ?_
        rotate_left
        · (intro w hSw; (try dsimp only at hSw); go_simp; try with_reducible rfl)
        try simp only [Act.put, List.setIfInBounds_toArray, List.set_cons_zero, List.set_cons_succ]
        refine wpAnyH_ready (rs := [8]) (by kernel_rfl) (by simp) ?_
        refine AllReadyH.cons (o := ⟨some 96, _, _, _, _, _⟩) rfl (fun K hK => ?_) AllReadyH.nil
        go_simp
        refine (xor_any _ _ _ _ _ _ co D _ (by omega) (by omega) HCB.out HDB.out ((CO8.out.below hHeld).mono hHeld.size) ((DD8.out.below hHeld).mono hHeld.size)).mono ?_
        rintro e w9 ⟨A9, c9, rfl, hc9, hr9, hb9⟩
        go_wp2_with fail
        refine hK.out _ _ ?_ (fun hHeld => ?_)
        · (try dsimp only); first | exact Below.refl _ _ | exact (Qw.refl w8).drew.below _ | exact hHeld.trans (hb9.mono hHeld.size) | exact hHeld.trans (hbx.mono hHeld.size)
        clear hK K
        try simp only [Act.put, List.setIfInBounds_toArray, List.set_cons_zero, List.set_cons_succ]
        refine wpAnyH_ready (rs := [9]) (by kernel_rfl) (by simp) ?_
        refine AllReadyH.cons (o := ⟨some 97, _, _, _, _, _⟩) rfl (fun K hK => ?_) AllReadyH.nil
        go_simp
        refine (Split_ok _ _ _ _ _ _ N q sec2 (xorP co D) _ (by omega) hN1 hN2 hqN HM.out hc9 HSB.out HXCB.out ((TW8.out.below hHeld).mono hHeld.size) hr9).mono ?_
        rintro e w10 ⟨rfl, hsw, hbx⟩
        go_wp2_with fail
        refine hK.out _ _ ?_ (fun hHeld => ?_)
        · (try dsimp only); first | exact Below.refl _ _ | exact (Qw.refl w8).drew.below _ | exact hHeld.trans (hb9.mono hHeld.size) | exact hHeld.trans (hbx.mono hHeld.size)
        clear hK K
        try simp only [Act.put, List.setIfInBounds_toArray, List.set_cons_zero, List.set_cons_succ]
        refine wpAnyH_take (i := 10) (oi := ⟨some 87, _, _, _, _, _⟩) (v := ?_) rfl (by kernel_rfl) (by kernel_rfl) (by kernel_rfl) (fun _ _ _ h => h) (Or.inl ⟨by rfl, ?_⟩) (by assumption) ?_
        rotate_left
        · (intro w hSw; (try dsimp only at hSw); go_simp; try with_reducible rfl)
        try simp only [Act.put, List.setIfInBounds_toArray, List.set_cons_zero, List.set_cons_succ]
        refine wpAnyH_take (i := 11) (oi := ⟨some 98, _, _, _, _, _⟩) (v := ?_) rfl (by kernel_rfl) (by kernel_rfl) (by kernel_rfl) (fun _ _ _ h => h) (Or.inl ⟨by rfl, ?_⟩) (by assumption) ?_
        rotate_left
        · (intro w hSw; (try dsimp only at hSw); go_simp; try with_reducible rfl)
        try simp only [Act.put, List.setIfInBounds_toArray, List.set_cons_zero, List.set_cons_succ]
        refine wpAnyH_take (i := 12) (oi := ⟨some 99, _, _, _, _, _⟩) (v := ?_) rfl (by kernel_rfl) (by kernel_rfl) (by kernel_rfl) (fun _ _ _ h => h) (Or.inl ⟨by rfl, ?_⟩) (by assumption) ?_
        rotate_left
        · (intro w hSw; (try dsimp only at hSw); go_simp; try with_reducible rfl)
        try simp only [Act.put, List.setIfInBounds_toArray, List.set_cons_zero, List.set_cons_succ]
        refine wpAnyH_take (i := 13) (oi := ⟨some 16, _, _, _, _, _⟩) (v := ?_) rfl (by kernel_rfl) (by kernel_rfl) (by kernel_rfl) (fun _ _ _ h => h) (Or.inl ⟨by rfl, ?_⟩) (by assumption) ?_
        rotate_left
        · (intro w hSw; (try dsimp only at hSw); go_simp; try with_reducible rfl)
        try simp only [Act.put, List.setIfInBounds_toArray, List.set_cons_zero, List.set_cons_succ]
        refine wpAnyH_take (i := 14) (oi := ⟨some 17, _, _, _, _, _⟩) (v := ?_) rfl (by kernel_rfl) (by kernel_rfl) (by kernel_rfl) (fun _ _ _ h => h) (Or.inl ⟨by rfl, ?_⟩) (by assumption) ?_
        rotate_left
        · (intro w hSw; (try dsimp only at hSw); go_simp; try with_reducible rfl)
        try simp only [Act.put, List.setIfInBounds_toArray, List.set_cons_zero, List.set_cons_succ]
        refine wpAnyH_done (by kernel_rfl) ?_ _
        have hb10 : Below w8.heap.size w8 w10 := hHeld
        have SM10 : Hid (ShR w10 w10.heap.size (some ⟨w9.heap.size, 0, none⟩) N (progV w9.heap.size n N q sec2 (xorP co D))) := Lib.hid ((hsw.shr (by omega) hN2 HSB.out HXCB.out).mono (by rw [hsw.1]; exact Nat.le_refl _))
        clear hsw hbx hb9 hr9
        have s10 := hb10.size
        have B10 : Below w.heap.size w w10 := B8.trans (hb10.mono (by omega))
        have SEC10 := Lib.hid ((SEC8.out.below hb10).mono s10); clear SEC8
        have CO10 := Lib.hid ((CO8.out.below hb10).mono s10); clear CO8
        have TW10 := Lib.hid ((TW8.out.below hb10).mono s10); clear TW8
        have PL10 := Lib.hid ((PL8.out.below hb10).mono s10); clear PL8
        have DD10 := Lib.hid ((DD8.out.below hb10).mono s10); clear DD8
        have SH10 := Lib.hid ((SH8.out.below hb10).mono s10); clear SH8
        have x010 := (hb10.cell (p := ⟨C, 0, none⟩) (by simp only; omega)).trans x08; clear x08
        have x110 := (hb10.cell (p := ⟨C, 1, none⟩) (by simp only; omega)).trans x18; clear x18
        have x210 := (hb10.cell (p := ⟨C, 2, none⟩) (by simp only; omega)).trans x28; clear x28
        have x310 := (hb10.cell (p := ⟨C, 3, none⟩) (by simp only; omega)).trans x38; clear x38
        have HVX : Hid (∀ a ∈ at2, shareY sec2 (xorP co D) q (a + 1) n = shareY sec co q (a + 1) n) := HVW
        clear HVW
        go_wp2_with fail
        go_loopw [18] (fun v wr => ∃ t : Nat, t ≤ k ∧ v = .int .i64 t ∧ Qw w10 wr) (fun v _ => k - (intOf v).toNat)
        case atStart => exact ⟨0, Nat.zero_le _, rfl, Qw.refl _⟩
        case round =>
          obtain ⟨t, ht, rfl, hqx⟩ := hrel
          by_cases hti : t < k
          · have hti' : (t : Int) < (k : Int) := by omega
            obtain ⟨ba, oa, rfl, hba, hca⟩ := PL10.out.2 (by omega)
            have hka : t < at2.length := by rw [HL2.out]; exact hti
            have ca : wr.cell? ⟨ba, oa + t, none⟩ = some (.int .i64 (at2[t] : Nat)) := (hqx.cell _).trans (hca t _ (by simp [hka]))
            have haN := HLT2.out _ (List.getElem_mem hka)
            have HYE := Lib.hid (HVX.out _ (List.getElem_mem hka))
            generalize at2[t] = a at ca haN HYE
            obtain ⟨b1, o1, s1', hA1, hl1, hb1l, d0, d1, hok1⟩ := (SH10.out.q hqx).at haN
            have hp1 : s1' = ⟨a + 1, some ⟨w7.heap.size + 1 + a, 0, none⟩, n, n, shareY sec co q (a + 1) n⟩ := by
              have hlen : a < (progV w7.heap.size n N q sec co).length := by rw [progV_len]; exact haN
              rw [List.getElem?_eq_getElem hlen] at hl1
              rw [← Option.some.inj hl1, progV_get]
            subst hp1
            injection hA1 with hA1; injection hA1 with e1 e2 _
            subst e1 e2
            obtain ⟨b2, o2, s2', hA2, hl2, hb2l, f0, f1, hok2⟩ := (SM10.out.q hqx).at haN
            have hp2 : s2' = ⟨a + 1, some ⟨w9.heap.size + 1 + a, 0, none⟩, n, n, shareY sec2 (xorP co D) q (a + 1) n⟩ := by
              have hlen : a < (progV w9.heap.size n N q sec2 (xorP co D)).length := by rw [progV_len]; exact haN
              rw [List.getElem?_eq_getElem hlen] at hl2
              rw [← Option.some.inj hl2, progV_get]
            subst hp2
            injection hA2 with hA2; injection hA2 with e1 e2 _
            subst e1 e2
            have r1 := hok1.2.2.2.2.2
            have r2 := hok2.2.2.2.2.2
            have hyb : Bytes (shareY sec co q (a + 1) n) := shareY_bytes HS.out HCB.out
            dsimp only at d1 f1 r1 r2
            rw [Nat.zero_add] at d1 f1
            rw [HYE.out] at r2
            have HY := Lib.hid hyb; have HR1 := Lib.hid r1; have HR2 := Lib.hid r2
            have haN' : (a : Int) < (N : Int) := by omega
            clear hca hka hl1 hl2 hok1 hok2 d0 f0 r1 r2 hyb
            have HSAME : Hid (∀ kk : Nat, Calls Try.prog 18 #[.slice (some ⟨w7.heap.size + 1 + a, 0, none⟩) n n, .slice (some ⟨w9.heap.size + 1 + a, 0, none⟩) n n] (wr.drewN kk) fun e w' => e = .returned (.bool true) ∧ wr.drewN kk = w') := Lib.hid fun kk => same_yes _ _ _ _ _ _ (shareY sec co q (a + 1) n) _ _ HY.out (HR1.out.drewN kk) (HR2.out.drewN kk)
            go_wp2_with fail
            go_quiet ((go_at_call 18; exact quiet_e (HSAME.out _)))
            go_wp2_with fail
            go_roundw
            case rel => exact ⟨t + 1, hti, by go_num, hqx.drewN _⟩
            case measure => simp [intOf]; omega
          · have hti' : ¬ (t : Int) < (k : Int) := by omega
            have Bx := B10.trans (hqx.below w.heap.size)
            go_wp2_with (go_at_call 12; refine (known_any _).mono ?_; rintro e w11 ⟨rfl, hb11⟩)
            go_ret
            exact ⟨rfl, Bx.trans (hb11.mono Bx.size)⟩
theorem AlgebraView_walk (v0 : Value) (i0 : CaseArg) (v1 : Value) (i1 : BytesArg) (v2 : Value) (i2 : BytesArg) (w : World) (hx0 : IsCase w v0 i0) (hx1 : IsBytes w v1 i1) (hx2 : IsBytes w v2 i2) :
    Calls Try.prog 5 #[v0, v1, v2] w fun e w' => e = .returned (.bool true) ∧ Below w.heap.size w w' := by
  obtain ⟨u0, u3, rfl, ⟨rfl, a1, a2, a3, a4, a5⟩, hN, hK, ⟨rfl, b1, b2, b3, b4, b5⟩⟩ := hx0
  obtain ⟨rfl, c1, c2, c3, c4, c5⟩ := hx1
  obtain ⟨rfl, d1, d2, d3, d4, d5⟩ := hx2
  by_cases h : 60 < i0.f0.n
  · exact View_big _ _ _ _ _ _ _ _ _ _ _ _ _ _ w (by omega) h
  · exact View_law _ _ _ _ _ _ _ _ _ _ _ _ _ _ i0.f0.l i0.f3.l i1.l i2.l w (by omega) (by omega) (by omega) (by omega) a1 a4 b4 c4 d4 a5 b5 c5 d5
end Go.Proofs.Ythmooplhhkafcaa
