/- The contract of through of the program. Conditions: as the statement says. -/
import Derived.Test.YthmooplhhkafcaaThru
import Derived.Test.YthmooplhhkafcaaSlices
namespace Go.Proofs.Ythmooplhhkafcaa
open Go.RowKit
set_option linter.unusedVariables false
theorem upN_eq (nodes : List Nat) (n x : Nat) (h : nodes.length = n + 1) : upN nodes x = addP (0 :: nodes.take n) (mulP nodes x) := by unfold upN; rw [h]; rfl
theorem stepO_eq (out nodes : List Nat) (n x y : Nat) (h : nodes.length = n + 1) : stepO out nodes x y = addP out (mulP (nodes.take n) (gm 8 (y ^^^ valF out x) (inv 8 (valF nodes x)))) := by unfold stepO; rw [h]; rfl
theorem over_8 (a : Nat) (ha : a < 256) (h0 : a ≠ 0) (w : World) : Calls Try.prog 79 #[.int .i64 8, .int .u64 a] w fun e w' => e = .returned (.int .u64 (inv 8 a)) ∧ w = w' := over_any 8 (.inl rfl) a ha h0 w
theorem product_nat (a b : Nat) (ha : a < 256) (hb : b < 256) (w : World) : Calls Try.prog 64 #[.int .u8 a, .int .u8 b] w fun e w' => e = .returned (.int .u8 (gm 8 a b)) ∧ w = w' := by
  have := product_any a b (by omega) (by omega) (by omega) (by omega) w
  simpa using this
/-- What holds at the head of a round. -/
def ThruR (w : World) (ps : List (Nat × Nat)) (n : Nat) (vo vn vi : Value) (wr : World) : Prop :=
  ∃ k A c A' c', k ≤ n ∧ vi = .int .i64 (k : Nat) ∧ vo = .slice A n c ∧ vn = .slice A' (n + 1) c' ∧ n ≤ c ∧ n + 1 ≤ c' ∧ wr.ownsRow w.heap.size 5 1 (.slice A n c) n (u8s (nOut ps k).1) ∧ Rd wr wr.heap.size 1 A' (n + 1) (u8s (nOut ps k).2) ∧ Below w.heap.size w wr
set_option maxRecDepth 100000 in
set_option maxHeartbeats 4000000 in
theorem through_any (P : Nat) (ps : List (Nat × Nat)) (w : World) (hP : P < w.heap.size) (h : PtsAt w P ps) (hb : PtB ps) (hd : (ps.map (·.1)).Nodup) :
    Calls Try.prog 60 #[.pointer (some ⟨P, 0, none⟩)] w (RetOwn w 5 1 ps.length (u8s (throughN ps)) id) := by
  obtain ⟨n, hn⟩ : ∃ n, n = ps.length := ⟨_, rfl⟩
  rw [← hn]
  have hn17 : n ≤ 17 := by obtain ⟨_, _, _, _, h4, _⟩ := h; omega
  have HI : Hid (∀ k, k ≤ n → NewtonI n (ps.take k) (nOut ps k).1 (nOut ps k).2) := Lib.hid (by rw [hn]; exact nOut_I ps hb hd)
  have HT : Hid ((nOut ps n).1 = throughN ps) := Lib.hid (by
    have := newton_nOut ps n (by omega)
    rw [List.drop_of_length_le (by omega)] at this; exact this)
  have H := Lib.hid h; have HPB := Lib.hid hb; have HD := Lib.hid hd; have HN := Lib.hid hn
  have k34 : ∀ wr, Below w.heap.size w wr → wr.cell? ⟨P, 34, none⟩ = some (.int .i64 n) := fun wr hbw => by
    obtain ⟨cs, h1, _, h3, _⟩ := H.out
    rw [hbw.cell (p := ⟨P, 34, none⟩) hP, cell_of_row _ _ _ _ _ _ h1, h3, HN.out]
  have K34 := Lib.hid k34
  have c34 := k34 w (Below.refl _ _)
  clear h hb hd hn k34
  have hmk := fun w => make_u8 w n (by omega)
  have hmk2 : ∀ w : World, (Instr.makeSlice 28 (.int .i64 ((n : Int) + 1)) (.int .i64 ((n : Int) + 1))).run Try.prog w = .ok (.slice (some ⟨w.heap.size, 0, none⟩) (n + 1) (n + 1)) (w.alloc (.cells (Array.replicate (n + 1) (.int .u8 0)) 5)) := fun w => make_u8 w (n + 1) (by omega)
  go_enter Try.func60, Try.ntmps60
  go_wp2_with fail
  clear hmk hmk2
  obtain ⟨w0, hw0⟩ : ∃ w0, w0 = (w.alloc (.cells (Array.replicate n (Value.int .u8 0)) 5)).alloc (.cells ((Array.replicate (n + 1) (Value.int .u8 0)).setIfInBounds 0 (Value.int .u8 1)) 5) := ⟨_, rfl⟩
  have hB0 : Below w.heap.size w w0 := by rw [hw0]; exact ((Below.refl _ _).alloc (Nat.le_refl _) _).alloc (by simp) _
  have hblk : w0.heap[w.heap.size]? = some (.cells (u8s (nOut ps 0).1).toArray 5 (0, 0)) := by
    rw [hw0, Below.heap_alloc _ _ _ (by simp), heap_alloc_new w _]
    have := HN.out; simp [nOut, u8s, this]
  have hO0 := own_of_row hblk (show (u8s (nOut ps 0).1).length = n by have := HN.out; simp [u8s, nOut, this]) (Nat.le_refl _) (by unfold maxLen; omega)
  have hN0 : Rd w0 w0.heap.size 1 (some ⟨w.heap.size + 1, 0, none⟩) (n + 1) (u8s (nOut ps 0).2) := by
    have h1 := Rd.new (w.alloc (.cells (Array.replicate n (Value.int .u8 0)) 5)) ((Array.replicate (n + 1) (Value.int .u8 0)).setIfInBounds 0 (Value.int .u8 1)) 5 1 (n + 1) (by simp)
    rw [← hw0] at h1
    have e : ((Array.replicate (n + 1) (Value.int .u8 0)).setIfInBounds 0 (Value.int .u8 1)).toList = u8s (nOut ps 0).2 := by have := HN.out; simp [nOut, u8s, this, List.replicate_succ]
    rw [e] at h1
    simpa [hw0] using h1
  rw [← hw0]
  have O0 := Lib.hid hO0; have N0 := Lib.hid hN0
  clear hO0 hN0 hblk hw0 c34
  go_loopw [3, 4, 26] (fun vo vn vi wr => ThruR w ps n vo vn vi wr) (fun _ _ vi _ => n - (intOf vi).toNat)
  case atStart => exact ⟨0, _, _, _, _, Nat.zero_le _, rfl, rfl, rfl, Nat.le_refl _, Nat.le_refl _, O0.out, N0.out, hB0⟩
  case round =>
    obtain ⟨wp, rfl⟩ : ∃ wp : World, wp = wr := ⟨_, rfl⟩
    obtain ⟨k, A, c, A', c', hk, rfl, rfl, rfl, hc, hc', hown, hrd, hbw⟩ := hrel
    have hsz := hbw.size
    have OW := Lib.hid hown; have RN := Lib.hid hrd; have RO := Lib.hid (Rd.own hown)
    clear hown hrd
    by_cases hlt : k < n
    · have hlt' : (k : Int) < (n : Int) := by omega
      have hkl : k < ps.length := by rw [← HN.out]; exact hlt
      have I := HI.out k hk
      have hpk := HPB.out _ (List.getElem_mem hkl)
      have hg : ps.getD k (0, 0) = ps[k] := by simp [List.getD, List.getElem?_eq_getElem hkl]
      have hnx : (ps[k]).1 ∉ (ps.take k).map (·.1) := fun hm => by
        have h2 := List.take_append_drop k ps
        rw [List.drop_eq_getElem_cons hkl] at h2
        have hd := HD.out
        rw [← h2, List.map_append, List.map_cons] at hd
        exact (List.nodup_append.1 hd).2.2 _ hm _ (List.mem_cons_self ..) rfl
      have hne : valF (nOut ps k).2 (ps[k]).1 ≠ 0 := by rw [I.val _ hpk.1]; exact prodX_ne (PtB.fst (fun p hp => HPB.out p (List.mem_of_mem_take hp))) hpk.1 hnx
      have hcx : wp.cell? ⟨P, k, none⟩ = some (.int .u8 (ps[k]).1) := by
        obtain ⟨cs, h1, _, _, _, h5⟩ := H.out
        rw [hbw.cell (p := ⟨P, k, none⟩) hP, cell_of_row _ _ _ _ _ _ h1, (h5 k hkl).1]
      have hcy : wp.cell? ⟨P, 17 + k, none⟩ = some (.int .u8 (ps[k]).2) := by
        obtain ⟨cs, h1, _, _, _, h5⟩ := H.out
        rw [hbw.cell (p := ⟨P, 17 + k, none⟩) hP, cell_of_row _ _ _ _ _ _ h1, (h5 k hkl).2]
      have hSO : stepO (nOut ps k).1 (nOut ps k).2 (ps[k]).1 (ps[k]).2 = (nOut ps (k + 1)).1 := by rw [nOut, hg]
      have hUN : upN (nOut ps k).2 (ps[k]).1 = (nOut ps (k + 1)).2 := by rw [nOut, hg]
      rw [stepO_eq _ _ n _ _ I.ln] at hSO
      rw [upN_eq _ n _ I.ln] at hUN
      have IBO := Lib.hid I.bo; have IBN := Lib.hid I.bn; have ILO := Lib.hid I.lo; have ILN := Lib.hid I.ln
      have HSO := Lib.hid hSO; have HUN := Lib.hid hUN
      clear I hnx hg hSO hUN
      obtain ⟨hx, hy⟩ := hpk
      generalize (ps[k]).1 = x at hcx hcy hx hne HSO HUN
      generalize (ps[k]).2 = y at hcy hy HSO
      generalize (nOut ps k).1 = out at RO OW IBO ILO HSO
      generalize (nOut ps k).2 = nodes at RN IBN ILN HSO HUN hne
      clear hkl
      have hv1 := valF_lt IBO.out x
      have hv2 := valF_lt IBN.out x
      have hx1 : y ^^^ valF out x < 256 := xor8_lt hy hv1
      have hxe : Go.bits .xor .u8 (y : Int) (valF out x : Int) = ((y ^^^ valF out x : Nat) : Int) := u8_xor_nat _ _ (by omega) (by omega)
      have hinv := inv_lt isW8 (valF nodes x)
      obtain ⟨b0, hb0⟩ : ∃ b0, b0 = gm 8 (y ^^^ valF out x) (inv 8 (valF nodes x)) := ⟨_, rfl⟩
      have hb0l : b0 < 256 := by rw [hb0]; exact gm8_lt hx1
      rw [← hb0] at HSO
      have HNE := Lib.hid hne; have HXE := Lib.hid hxe; have HB0 := Lib.hid hb0
      clear hne hxe hb0
      have c34 := K34.out wp hbw
      go_wp2_with fail
      go_quiet ((first
        | (go_at_call 65; first | exact quiet_q (value_nat _ _ _ out x _ _ (by omega) IBO.out (by omega) (RO.out.drewN _)) | exact quiet_q (value_nat _ _ _ nodes x _ _ (by omega) IBN.out (by omega) (RN.out.drewN _)))
        | (go_at_call 79; exact quiet_e (over_8 _ hv2 HNE.out _))
        | (go_at_call 64; (try rw [HXE.out]); exact quiet_e (product_nat _ _ hx1 hinv _))))
      rw [← HB0.out]
      obtain ⟨w1, hw1⟩ : ∃ w1, w1 = wp.drewN nq := ⟨_, rfl⟩
      have hb1 : Below wp.heap.size wp w1 := by rw [hw1]; exact (Qw.drewN (Qw.refl wp) nq).below _
      have s1 := hb1.size
      have B1 := hbw.trans (hb1.mono hsz)
      have c34' := K34.out w1 B1
      have RO1 := Lib.hid ((RO.out.below hb1).mono s1); have RN1 := Lib.hid ((RN.out.below hb1).mono s1)
      obtain ⟨A2, hsl, hrd2⟩ := slice_hd (P := Try.prog) (t := 28) (sz := 1) Try.underlying28 Try.sizeOf5 RN1.out (n : Int) n c' rfl (by omega) hc'
      have RT1 : Hid (Rd w1 w1.heap.size 1 A2 n (u8s (nodes.take n))) := Lib.hid (by simpa [u8s, List.map_take] using hrd2)
      have ITB := Lib.hid (IBN.out.take n)
      rw [← hw1]
      clear hw1 RO RN OW HXE HNE hv1 hv2 hx1 hinv HB0 hrd2 hcx hcy c34 hb1
      go_wp2_with fail
      refine (scaled_any _ _ _ (nodes.take n) b0 _ (by omega) ITB.out hb0l RT1.out).mono ?_
      rintro e w2 ⟨A3, c3, rfl, hc3, hown3, hb2⟩
      have s2 := hb2.size
      have B2 := B1.trans (hb2.mono (by omega))
      have c34'' := K34.out w2 B2
      have RM2 := Lib.hid (Rd.own hown3); clear hown3
      have RO2 := Lib.hid ((RO1.out.below hb2).mono s2); have RN2 := Lib.hid ((RN1.out.below hb2).mono s2); have RT2 := Lib.hid ((RT1.out.below hb2).mono s2)
      try dsimp only [id]
      clear RO1 RN1 RT1 hb2
      go_wp2_with fail
      refine (zip_sum _ _ _ _ _ out (mulP (nodes.take n) b0) _ (by omega) IBO.out (mulP_bytes ITB.out b0) RO2.out RM2.out).mono ?_
      rintro e w3 ⟨A4, c4, rfl, hc4, hown4, hb3⟩
      have s3 := hb3.size
      have B3 := B2.trans (hb3.mono (by omega))
      have c34''' := K34.out w3 B3
      have hPs : P < w3.heap.size := Nat.lt_of_lt_of_le hP B3.size
      have k34a : (w3.alloc (.cells #[.int .u8 0] 5)).cell? ⟨P, 34, none⟩ = some (.int .i64 n) := (World.cell?_alloc_lt w3 _ _ hPs).trans c34'''
      rw [HSO.out] at hown4
      have OW3 := Lib.hid (ownsRow_mono hown4 B2.size); clear hown4
      have RN3 := Lib.hid ((RN2.out.below hb3).mono s3); have RT3 := Lib.hid ((RT2.out.below hb3).mono s3)
      try dsimp only [id]
      clear RO2 RN2 RT2 RM2 hb3
      go_wp2_with (at_builtin; refine wpList_put elB_u8 (.tmp 62) (.tmp 68) rfl rfl w3.heap.size 1 [.int .u8 0] rfl (own_new _ #[.int .u8 0] 5 1 rfl (by omega)) rfl (RT3.out.alloc (Nat.le_refl _) _) (oneCell_map fun _ => rfl) (by omega) (by decide) (by simp) ?_; intro v4 w4 hown5 hb4 _; obtain ⟨A5, c5, rfl, hc5⟩ := own_form hown5)
      have hb4' : Below w3.heap.size w3 w4 := ((Below.refl _ _).alloc (Nat.le_refl _) _).trans hb4
      have s4 := hb4'.size
      have B4 := B3.trans (hb4'.mono B3.size)
      have RH4 : Hid (Rd w4 w4.heap.size 1 A5 (n + 1) (u8s (0 :: nodes.take n))) := Lib.hid (by have := Rd.own hown5; rw [Nat.add_comm] at this; exact this)
      have OW4 := Lib.hid (ownsRow_below OW3.out hb4' (Nat.le_refl _))
      have RN4 := Lib.hid ((RN3.out.below hb4').mono s4)
      have hlc5 : n + 1 ≤ c5 := by omega
      rw [show 1 + n = n + 1 by omega]
      clear hown5 hb4 OW3 RN3 RT3 hb4' k34a c34''' c34'' c34'
      go_wp2_with fail
      refine (scaled_any _ _ _ nodes x _ (by omega) IBN.out hx RN4.out).mono ?_
      rintro e w5 ⟨A6, c6, rfl, hc6, hown6, hb5⟩
      have s5 := hb5.size
      have B5 := B4.trans (hb5.mono B4.size)
      have RM5 := Lib.hid (Rd.own hown6); clear hown6
      have RH5 := Lib.hid ((RH4.out.below hb5).mono s5)
      have OW5 := Lib.hid (ownsRow_below OW4.out hb5 (Nat.le_refl _))
      try dsimp only [id]
      clear RH4 OW4 RN4 hb5
      go_wp2_with fail
      refine (zip_sum _ _ _ _ _ (0 :: nodes.take n) (mulP nodes x) _ (by omega) (Bytes.cons (by decide) ITB.out) (mulP_bytes IBN.out x) RH5.out RM5.out).mono ?_
      rintro e w6 ⟨A7, c7, rfl, hc7, hown7, hb6⟩
      have B6 := B5.trans (hb6.mono B5.size)
      rw [HUN.out] at hown7
      have RN6 := Lib.hid (Rd.own hown7)
      have OW6 := Lib.hid (ownsRow_below OW5.out hb6 (Nat.le_refl _))
      try dsimp only [id]
      clear hown7 RH5 OW5 RM5 hb6
      go_wp2_with fail
      go_roundw
      case rel => exact ⟨k + 1, _, _, _, _, hlt, by go_num, rfl, rfl, hc4, hc7, OW6.out, RN6.out, B6⟩
      case measure => simp [intOf]; omega
    · have hlt' : ¬ (k : Int) < (n : Int) := by omega
      obtain rfl : k = n := by omega
      have ho := OW.out
      rw [HT.out] at ho
      go_wp2_with fail
      go_ret
      exact RetOwn.of (mk := id) ho hbw
end Go.Proofs.Ythmooplhhkafcaa
