/- The contracts of put and through of the program. Conditions: as each statement says. -/
import Derived.Test.YtecndceekgaglaaGreatShareV
import Derived.Test.YtecndceekgaglaaGreatOver
import Derived.BigRegion
import Derived.Test.YtecndceekgaglaaGreatBase
import Derived.Test.YtecndceekgaglaaGreatTail
namespace Go.Proofs.YtecndceekgaglaaGreat
open Go.RowKit
set_option linter.unusedVariables false
/-- The points that lie in block P. -/
def PtsAt (w : World) (P : Nat) (ps : List (Nat × Nat)) : Prop :=
  ∃ cs : Array Value, w.heap[P]? = some (.cells cs 110 (0, 0)) ∧ cs.size = 35 ∧ cs[34]? = some (.int .i64 ps.length) ∧ ps.length ≤ 17 ∧
    ∀ i (h : i < ps.length), cs[i]? = some (.int .u8 (ps[i]).1) ∧ cs[17 + i]? = some (.int .u8 (ps[i]).2)
theorem PtsAt.keep {w w' : World} {P : Nat} {ps : List (Nat × Nat)} (h : PtsAt w P ps) (hk : w'.heap[P]? = w.heap[P]?) : PtsAt w' P ps := by
  obtain ⟨cs, h1, h2⟩ := h; exact ⟨cs, hk.trans h1, h2⟩
/-- No points. -/
abbrev zero35 : Array Value := #[.int .u8 0, .int .u8 0, .int .u8 0, .int .u8 0, .int .u8 0, .int .u8 0, .int .u8 0, .int .u8 0, .int .u8 0, .int .u8 0, .int .u8 0, .int .u8 0, .int .u8 0, .int .u8 0, .int .u8 0, .int .u8 0, .int .u8 0, .int .u8 0, .int .u8 0, .int .u8 0, .int .u8 0, .int .u8 0, .int .u8 0, .int .u8 0, .int .u8 0, .int .u8 0, .int .u8 0, .int .u8 0, .int .u8 0, .int .u8 0, .int .u8 0, .int .u8 0, .int .u8 0, .int .u8 0, .int .i64 0]
theorem PtsAt.new (w : World) : PtsAt (w.alloc (.cells zero35 110)) w.heap.size [] := ⟨zero35, heap_alloc_new w _, rfl, rfl, Nat.zero_le _, fun i h => absurd h (by simp)⟩
theorem blk_set {w : World} {b o : Nat} {cs : Array Value} {t : TypeId} (h : w.heap[b]? = some (.cells cs t (0, 0))) (u : Value) : (w.setCell ⟨b, o, none⟩ u).heap[b]? = some (.cells (cs.setIfInBounds o u) t (0, 0)) := by
  simp [World.setCell, Array.getElem?_modify, h]
set_option maxRecDepth 100000 in
set_option maxHeartbeats 1000000 in
theorem put_any (P x y : Nat) (ps : List (Nat × Nat)) (w : World) (hx : x < 256) (hy : y < 256) (h : PtsAt w P ps) (hn : ps.length < 17) :
    Calls Tryz.prog 40 #[.pointer (some ⟨P, 0, none⟩), .int .u8 x, .int .u8 y] w fun e w' => (∃ u, e = .returned u) ∧ PtsAt w' P (ps ++ [(x, y)]) ∧ w.grownBy w' (some P) ∧ w'.heap.size = w.heap.size := by
  obtain ⟨cs, hb, hsz, hc, _, hpt⟩ := h
  obtain ⟨n, hnl⟩ : ∃ n, n = ps.length := ⟨_, rfl⟩
  rw [← hnl] at hc hn
  have k34 : w.cell? ⟨P, 34, none⟩ = some (.int .i64 n) := by rw [cell_of_row _ _ _ _ _ _ hb]; exact hc
  have kf : ∀ o, w.frozen? ⟨P, o, none⟩ = false := fun o => by simp [World.frozen?, hb]
  obtain ⟨u1, k1⟩ : ∃ u, w.cell? ⟨P, n, none⟩ = some u := ⟨_, (cell_of_row _ _ _ _ _ _ hb).trans (Array.getElem?_eq_getElem (by omega))⟩
  obtain ⟨u2, k2⟩ : ∃ u, w.cell? ⟨P, 17 + n, none⟩ = some u := ⟨_, (cell_of_row _ _ _ _ _ _ hb).trans (Array.getElem?_eq_getElem (by omega))⟩
  have HB := Lib.hid hb; have HSZ := Lib.hid hsz; have HC := Lib.hid hc; have HPT := Lib.hid hpt; have HNL := Lib.hid hnl
  have hn' : (n : Int) < 17 := by omega
  clear hb hsz hc hpt hnl
  go_enter Tryz.func40, Tryz.ntmps40
  go_wp2_with fail
  go_region
  obtain ⟨w1, hw1⟩ : ∃ w1, w1 = ((w.setCell ⟨P, n, none⟩ (.int .u8 x)).setCell ⟨P, 17 + n, none⟩ (.int .u8 y)).drew := ⟨_, rfl⟩
  have B1 : w1.heap[P]? = some (.cells ((cs.setIfInBounds n (.int .u8 x)).setIfInBounds (17 + n) (.int .u8 y)) 110 (0, 0)) := by rw [hw1]; exact blk_set (blk_set HB.out _) _
  have G1 : w.grownBy w1 (some P) := by rw [hw1]; exact grown_drewN (grown_set (grown_set (World.grownBy.refl _ _) _ _) _ _) 1
  have Z1 : w1.heap.size = w.heap.size := by rw [hw1]; show ((w.setCell _ _).setCell _ _).heap.size = _; rw [size_setCell, size_setCell]
  have k34' : w1.cell? ⟨P, 34, none⟩ = some (.int .i64 n) := by rw [cell_of_row _ _ _ _ _ _ B1, Array.getElem?_setIfInBounds_ne (by omega), Array.getElem?_setIfInBounds_ne (by omega)]; exact HC.out
  have kf' : w1.frozen? ⟨P, 34, none⟩ = false := by simp [World.frozen?, B1]
  rw [← hw1]
  have HB1 := Lib.hid B1; have HZ1 := Lib.hid Z1
  clear hw1 kf k34 k1 k2 B1 Z1
  go_wp2_with fail
  go_end0
  refine ⟨⟨_, rfl⟩, ⟨_, blk_set HB1.out _, by simp [HSZ.out], ?_, by simp; have := HNL.out; omega, fun i hi => ?_⟩, grown_set G1 _ _, (size_setCell _ _ _).trans HZ1.out⟩
  · rw [Array.getElem?_setIfInBounds_self_of_lt (by simp [HSZ.out])]; simp [← HNL.out]
  · simp only [List.length_append, List.length_cons, List.length_nil] at hi
    have hsz := HSZ.out
    have hnl := HNL.out
    rcases Nat.lt_or_ge i ps.length with h | h
    · obtain ⟨h1, h2⟩ := HPT.out i h
      rw [List.getElem_append_left h]
      refine ⟨?_, ?_⟩
      · rw [Array.getElem?_setIfInBounds_ne (by omega), Array.getElem?_setIfInBounds_ne (by omega), Array.getElem?_setIfInBounds_ne (by omega)]; exact h1
      · rw [Array.getElem?_setIfInBounds_ne (by omega), Array.getElem?_setIfInBounds_ne (by omega), Array.getElem?_setIfInBounds_ne (by omega)]; exact h2
    · obtain rfl : i = n := by omega
      rw [List.getElem_append_right h]
      refine ⟨?_, ?_⟩
      · rw [Array.getElem?_setIfInBounds_ne (by omega), Array.getElem?_setIfInBounds_ne (by omega), Array.getElem?_setIfInBounds_self_of_lt (by omega)]; simp [hnl]
      · rw [Array.getElem?_setIfInBounds_ne (by omega), Array.getElem?_setIfInBounds_self_of_lt (by simp; omega)]; simp [hnl]
/-- The program's rounds, from the first point on. -/
def nOut (ps : List (Nat × Nat)) : Nat → List Nat × List Nat
  | 0 => (List.replicate ps.length 0, 1 :: List.replicate ps.length 0)
  | k + 1 => (stepO (nOut ps k).1 (nOut ps k).2 (ps.getD k (0, 0)).1 (ps.getD k (0, 0)).2, upN (nOut ps k).2 (ps.getD k (0, 0)).1)
theorem newton_nOut (ps : List (Nat × Nat)) : ∀ k, k ≤ ps.length → newton (ps.drop k) (nOut ps k).1 (nOut ps k).2 = throughN ps
  | 0, _ => rfl
  | k + 1, h => by
    rw [← newton_nOut ps k (by omega), List.drop_eq_getElem_cons (show k < ps.length by omega)]
    have hg : ps.getD k (0, 0) = ps[k] := by simp [List.getD, List.getElem?_eq_getElem (show k < ps.length by omega)]
    conv => rhs; rw [show ps[k] = ((ps[k]).1, (ps[k]).2) from rfl, newton]
    rw [nOut, hg]
theorem nOut_I (ps : List (Nat × Nat)) (hb : PtB ps) (hd : (ps.map (·.1)).Nodup) : ∀ k, k ≤ ps.length → NewtonI ps.length (ps.take k) (nOut ps k).1 (nOut ps k).2
  | 0, _ => by simpa [nOut] using NewtonI.start ps.length
  | k + 1, h => by
    have hk : k < ps.length := by omega
    have hg : ps.getD k (0, 0) = ps[k] := by simp [List.getD, List.getElem?_eq_getElem hk]
    have I := nOut_I ps hb hd k (by omega)
    have hkb := hb _ (List.getElem_mem hk)
    rw [take_snoc _ _ hk, nOut, hg]
    refine I.step (by simp; omega) (fun p hp => hb p (List.mem_of_mem_take hp)) hkb.1 hkb.2 (fun hm => ?_)
    have h2 := List.take_append_drop k ps
    rw [List.drop_eq_getElem_cons hk] at h2
    rw [← h2, List.map_append, List.map_cons] at hd
    exact (List.nodup_append.1 hd).2.2 _ hm _ (List.mem_cons_self ..) rfl
end Go.Proofs.YtecndceekgaglaaGreat
/- The contract of through of the program. Conditions: as the statement says. -/
namespace Go.Proofs.YtecndceekgaglaaGreat
open Go.RowKit
set_option linter.unusedVariables false
theorem upN_eq (nodes : List Nat) (n x : Nat) (h : nodes.length = n + 1) : upN nodes x = addP (0 :: nodes.take n) (mulP nodes x) := by unfold upN; rw [h]; rfl
theorem stepO_eq (out nodes : List Nat) (n x y : Nat) (h : nodes.length = n + 1) : stepO out nodes x y = addP out (mulP (nodes.take n) (gm 8 (y ^^^ valF out x) (inv 8 (valF nodes x)))) := by unfold stepO; rw [h]; rfl
theorem over_8 (a : Nat) (ha : a < 256) (h0 : a ≠ 0) (w : World) : Calls Tryz.prog 78 #[.int .i64 8, .int .u64 a] w fun e w' => e = .returned (.int .u64 (inv 8 a)) ∧ w = w' := over_any 8 (.inl rfl) a ha h0 w
theorem product_nat (a b : Nat) (ha : a < 256) (hb : b < 256) (w : World) : Calls Tryz.prog 77 #[.int .u8 a, .int .u8 b] w fun e w' => e = .returned (.int .u8 (gm 8 a b)) ∧ w = w' := by
  have := product_any a b (by omega) (by omega) (by omega) (by omega) w
  simpa using this
/-- What holds at the head of a round. -/
def ThruR (w : World) (ps : List (Nat × Nat)) (n : Nat) (vo vn vi : Value) (wr : World) : Prop :=
  ∃ k A c A' c', k ≤ n ∧ vi = .int .i64 (k : Nat) ∧ vo = .slice A n c ∧ vn = .slice A' (n + 1) c' ∧ n ≤ c ∧ n + 1 ≤ c' ∧ wr.ownsRow w.heap.size 5 1 (.slice A n c) n (u8s (nOut ps k).1) ∧ Rd wr wr.heap.size 1 A' (n + 1) (u8s (nOut ps k).2) ∧ Below w.heap.size w wr
set_option maxRecDepth 100000 in
set_option maxHeartbeats 4000000 in
theorem through_any (P : Nat) (ps : List (Nat × Nat)) (w : World) (hP : P < w.heap.size) (h : PtsAt w P ps) (hb : PtB ps) (hd : (ps.map (·.1)).Nodup) :
    Calls Tryz.prog 41 #[.pointer (some ⟨P, 0, none⟩)] w (RetOwn w 5 1 ps.length (u8s (throughN ps)) id) := by
  obtain ⟨n, hn⟩ : ∃ n, n = ps.length := ⟨_, rfl⟩
  rw [← hn]
  have hn17 : n ≤ 17 := by obtain ⟨_, _, _, _, h4, _⟩ := h; omega
  have HI : Hid (∀ k, k ≤ n → NewtonI n (ps.take k) (nOut ps k).1 (nOut ps k).2) := Lib.hid (by rw [hn]; exact nOut_I ps hb hd)
  have HT : Hid ((nOut ps n).1 = throughN ps) := Lib.hid (by
    have := newton_nOut ps n (by omega)
    rw [List.drop_of_length_le (by omega)] at this; exact this)
  have H := Lib.hid h; have HPB := Lib.hid hb; have HD := Lib.hid hd; have HN := Lib.hid hn
  have k34 : ∀ wr, Below w.heap.size w wr → wr.cell? ⟨P, 34, none⟩ = some (.int .i64 n) := fun wr hbw => by
    obtain ⟨cs, h1, _, h3, _⟩ := H.out
    rw [hbw.cell (p := ⟨P, 34, none⟩) hP, cell_of_row _ _ _ _ _ _ h1, h3, HN.out]
  have K34 := Lib.hid k34
  have c34 := k34 w (Below.refl _ _)
  clear h hb hd hn k34
  have hmk := fun w => make_u8 w n (by omega)
  have hmk2 : ∀ w : World, (Instr.makeSlice 23 (.int .i64 ((n : Int) + 1)) (.int .i64 ((n : Int) + 1))).run Tryz.prog w = .ok (.slice (some ⟨w.heap.size, 0, none⟩) (n + 1) (n + 1)) (w.alloc (.cells (Array.replicate (n + 1) (.int .u8 0)) 5)) := fun w => make_u8 w (n + 1) (by omega)
  go_enter Tryz.func41, Tryz.ntmps41
  go_wp2_with fail
  clear hmk hmk2
  obtain ⟨w0, hw0⟩ : ∃ w0, w0 = (w.alloc (.cells (Array.replicate n (Value.int .u8 0)) 5)).alloc (.cells ((Array.replicate (n + 1) (Value.int .u8 0)).setIfInBounds 0 (Value.int .u8 1)) 5) := ⟨_, rfl⟩
  have hB0 : Below w.heap.size w w0 := by rw [hw0]; exact ((Below.refl _ _).alloc (Nat.le_refl _) _).alloc (by simp) _
  have hblk : w0.heap[w.heap.size]? = some (.cells (u8s (nOut ps 0).1).toArray 5 (0, 0)) := by
    rw [hw0, Below.heap_alloc _ _ _ (by simp), heap_alloc_new w _]
    have := HN.out; simp [nOut, u8s, this]
  have hO0 := own_of_row hblk (show (u8s (nOut ps 0).1).length = n by have := HN.out; simp [u8s, nOut, this]) (Nat.le_refl _) (by unfold maxLen; omega)
  have hN0 : Rd w0 w0.heap.size 1 (some ⟨w.heap.size + 1, 0, none⟩) (n + 1) (u8s (nOut ps 0).2) := by
    have h1 := Rd.new (w.alloc (.cells (Array.replicate n (Value.int .u8 0)) 5)) ((Array.replicate (n + 1) (Value.int .u8 0)).setIfInBounds 0 (Value.int .u8 1)) 5 1 (n + 1) (by simp)
    rw [← hw0] at h1
    have e : ((Array.replicate (n + 1) (Value.int .u8 0)).setIfInBounds 0 (Value.int .u8 1)).toList = u8s (nOut ps 0).2 := by have := HN.out; simp [nOut, u8s, this, List.replicate_succ]
    rw [e] at h1
    simpa [hw0] using h1
  rw [← hw0]
  have O0 := Lib.hid hO0; have N0 := Lib.hid hN0
  clear hO0 hN0 hblk hw0 c34
  go_loopw [3, 4, 26] (fun vo vn vi wr => ThruR w ps n vo vn vi wr) (fun _ _ vi _ => n - (intOf vi).toNat)
  case atStart => exact ⟨0, _, _, _, _, Nat.zero_le _, rfl, rfl, rfl, Nat.le_refl _, Nat.le_refl _, O0.out, N0.out, hB0⟩
  case round =>
    obtain ⟨wp, rfl⟩ : ∃ wp : World, wp = wr := ⟨_, rfl⟩
    obtain ⟨k, A, c, A', c', hk, rfl, rfl, rfl, hc, hc', hown, hrd, hbw⟩ := hrel
    have hsz := hbw.size
    have OW := Lib.hid hown; have RN := Lib.hid hrd; have RO := Lib.hid (Rd.own hown)
    clear hown hrd
    by_cases hlt : k < n
    · have hlt' : (k : Int) < (n : Int) := by omega
      have hkl : k < ps.length := by rw [← HN.out]; exact hlt
      have I := HI.out k hk
      have hpk := HPB.out _ (List.getElem_mem hkl)
      have hg : ps.getD k (0, 0) = ps[k] := by simp [List.getD, List.getElem?_eq_getElem hkl]
      have hnx : (ps[k]).1 ∉ (ps.take k).map (·.1) := fun hm => by
        have h2 := List.take_append_drop k ps
        rw [List.drop_eq_getElem_cons hkl] at h2
        have hd := HD.out
        rw [← h2, List.map_append, List.map_cons] at hd
        exact (List.nodup_append.1 hd).2.2 _ hm _ (List.mem_cons_self ..) rfl
      have hne : valF (nOut ps k).2 (ps[k]).1 ≠ 0 := by rw [I.val _ hpk.1]; exact prodX_ne (PtB.fst (fun p hp => HPB.out p (List.mem_of_mem_take hp))) hpk.1 hnx
      have hcx : wp.cell? ⟨P, k, none⟩ = some (.int .u8 (ps[k]).1) := by
        obtain ⟨cs, h1, _, _, _, h5⟩ := H.out
        rw [hbw.cell (p := ⟨P, k, none⟩) hP, cell_of_row _ _ _ _ _ _ h1, (h5 k hkl).1]
      have hcy : wp.cell? ⟨P, 17 + k, none⟩ = some (.int .u8 (ps[k]).2) := by
        obtain ⟨cs, h1, _, _, _, h5⟩ := H.out
        rw [hbw.cell (p := ⟨P, 17 + k, none⟩) hP, cell_of_row _ _ _ _ _ _ h1, (h5 k hkl).2]
      have hSO : stepO (nOut ps k).1 (nOut ps k).2 (ps[k]).1 (ps[k]).2 = (nOut ps (k + 1)).1 := by rw [nOut, hg]
      have hUN : upN (nOut ps k).2 (ps[k]).1 = (nOut ps (k + 1)).2 := by rw [nOut, hg]
      rw [stepO_eq _ _ n _ _ I.ln] at hSO
      rw [upN_eq _ n _ I.ln] at hUN
      have IBO := Lib.hid I.bo; have IBN := Lib.hid I.bn; have ILO := Lib.hid I.lo; have ILN := Lib.hid I.ln
      have HSO := Lib.hid hSO; have HUN := Lib.hid hUN
      clear I hnx hg hSO hUN
      obtain ⟨hx, hy⟩ := hpk
      generalize (ps[k]).1 = x at hcx hcy hx hne HSO HUN
      generalize (ps[k]).2 = y at hcy hy HSO
      generalize (nOut ps k).1 = out at RO OW IBO ILO HSO
      generalize (nOut ps k).2 = nodes at RN IBN ILN HSO HUN hne
      clear hkl
      have hv1 := valF_lt IBO.out x
      have hv2 := valF_lt IBN.out x
      have hx1 : y ^^^ valF out x < 256 := xor8_lt hy hv1
      have hxe : Go.bits .xor .u8 (y : Int) (valF out x : Int) = ((y ^^^ valF out x : Nat) : Int) := u8_xor_nat _ _ (by omega) (by omega)
      have hinv := inv_lt isW8 (valF nodes x)
      obtain ⟨b0, hb0⟩ : ∃ b0, b0 = gm 8 (y ^^^ valF out x) (inv 8 (valF nodes x)) := ⟨_, rfl⟩
      have hb0l : b0 < 256 := by rw [hb0]; exact gm8_lt hx1
      rw [← hb0] at HSO
      have HNE := Lib.hid hne; have HXE := Lib.hid hxe; have HB0 := Lib.hid hb0
      clear hne hxe hb0
      have c34 := K34.out wp hbw
      go_wp2_with fail
      go_quiet ((first
        | (go_at_call 42; first | exact quiet_q (value_nat _ _ _ out x _ _ (by omega) IBO.out (by omega) (RO.out.drewN _)) | exact quiet_q (value_nat _ _ _ nodes x _ _ (by omega) IBN.out (by omega) (RN.out.drewN _)))
        | (go_at_call 78; exact quiet_e (over_8 _ hv2 HNE.out _))
        | (go_at_call 77; (try rw [HXE.out]); exact quiet_e (product_nat _ _ hx1 hinv _))))
      rw [← HB0.out]
      obtain ⟨w1, hw1⟩ : ∃ w1, w1 = wp.drewN nq := ⟨_, rfl⟩
      have hb1 : Below wp.heap.size wp w1 := by rw [hw1]; exact (Qw.drewN (Qw.refl wp) nq).below _
      have s1 := hb1.size
      have B1 := hbw.trans (hb1.mono hsz)
      have c34' := K34.out w1 B1
      have RO1 := Lib.hid ((RO.out.below hb1).mono s1); have RN1 := Lib.hid ((RN.out.below hb1).mono s1)
      obtain ⟨A2, hsl, hrd2⟩ := slice_hd (P := Tryz.prog) (t := 23) (sz := 1) Tryz.underlying23 Tryz.sizeOf5 RN1.out (n : Int) n c' rfl (by omega) hc'
      have RT1 : Hid (Rd w1 w1.heap.size 1 A2 n (u8s (nodes.take n))) := Lib.hid (by simpa [u8s, List.map_take] using hrd2)
      have ITB := Lib.hid (IBN.out.take n)
      rw [← hw1]
      clear hw1 RO RN OW HXE HNE hv1 hv2 hx1 hinv HB0 hrd2 hcx hcy c34 hb1
      go_wp2_with fail
      refine (scaled_any _ _ _ (nodes.take n) b0 _ (by omega) ITB.out hb0l RT1.out).mono ?_
      rintro e w2 ⟨A3, c3, rfl, hc3, hown3, hb2⟩
      have s2 := hb2.size
      have B2 := B1.trans (hb2.mono (by omega))
      have c34'' := K34.out w2 B2
      have RM2 := Lib.hid (Rd.own hown3); clear hown3
      have RO2 := Lib.hid ((RO1.out.below hb2).mono s2); have RN2 := Lib.hid ((RN1.out.below hb2).mono s2); have RT2 := Lib.hid ((RT1.out.below hb2).mono s2)
      try dsimp only [id]
      clear RO1 RN1 RT1 hb2
      go_wp2_with fail
      refine (zip_sum _ _ _ _ _ out (mulP (nodes.take n) b0) _ (by omega) IBO.out (mulP_bytes ITB.out b0) RO2.out RM2.out).mono ?_
      rintro e w3 ⟨A4, c4, rfl, hc4, hown4, hb3⟩
      have s3 := hb3.size
      have B3 := B2.trans (hb3.mono (by omega))
      have c34''' := K34.out w3 B3
      have hPs : P < w3.heap.size := Nat.lt_of_lt_of_le hP B3.size
      have k34a : (w3.alloc (.cells #[.int .u8 0] 5)).cell? ⟨P, 34, none⟩ = some (.int .i64 n) := (World.cell?_alloc_lt w3 _ _ hPs).trans c34'''
      rw [HSO.out] at hown4
      have OW3 := Lib.hid (ownsRow_mono hown4 B2.size); clear hown4
      have RN3 := Lib.hid ((RN2.out.below hb3).mono s3); have RT3 := Lib.hid ((RT2.out.below hb3).mono s3)
      try dsimp only [id]
      clear RO2 RN2 RT2 RM2 hb3
      go_wp2_with (at_builtin; refine wpList_put elB_u8 (.tmp 62) (.tmp 68) rfl rfl w3.heap.size 1 [.int .u8 0] rfl (own_new _ #[.int .u8 0] 5 1 rfl (by omega)) rfl (RT3.out.alloc (Nat.le_refl _) _) (oneCell_map fun _ => rfl) (by omega) (by decide) (by simp) ?_; intro v4 w4 hown5 hb4 _; obtain ⟨A5, c5, rfl, hc5⟩ := own_form hown5)
      have hb4' : Below w3.heap.size w3 w4 := ((Below.refl _ _).alloc (Nat.le_refl _) _).trans hb4
      have s4 := hb4'.size
      have B4 := B3.trans (hb4'.mono B3.size)
      have RH4 : Hid (Rd w4 w4.heap.size 1 A5 (n + 1) (u8s (0 :: nodes.take n))) := Lib.hid (by have := Rd.own hown5; rw [Nat.add_comm] at this; exact this)
      have OW4 := Lib.hid (ownsRow_below OW3.out hb4' (Nat.le_refl _))
      have RN4 := Lib.hid ((RN3.out.below hb4').mono s4)
      have hlc5 : n + 1 ≤ c5 := by omega
      rw [show 1 + n = n + 1 by omega]
      clear hown5 hb4 OW3 RN3 RT3 hb4' k34a c34''' c34'' c34'
      go_wp2_with fail
      refine (scaled_any _ _ _ nodes x _ (by omega) IBN.out hx RN4.out).mono ?_
      rintro e w5 ⟨A6, c6, rfl, hc6, hown6, hb5⟩
      have s5 := hb5.size
      have B5 := B4.trans (hb5.mono B4.size)
      have RM5 := Lib.hid (Rd.own hown6); clear hown6
      have RH5 := Lib.hid ((RH4.out.below hb5).mono s5)
      have OW5 := Lib.hid (ownsRow_below OW4.out hb5 (Nat.le_refl _))
      try dsimp only [id]
      clear RH4 OW4 RN4 hb5
      go_wp2_with fail
      refine (zip_sum _ _ _ _ _ (0 :: nodes.take n) (mulP nodes x) _ (by omega) (Bytes.cons (by decide) ITB.out) (mulP_bytes IBN.out x) RH5.out RM5.out).mono ?_
      rintro e w6 ⟨A7, c7, rfl, hc7, hown7, hb6⟩
      have B6 := B5.trans (hb6.mono B5.size)
      rw [HUN.out] at hown7
      have RN6 := Lib.hid (Rd.own hown7)
      have OW6 := Lib.hid (ownsRow_below OW5.out hb6 (Nat.le_refl _))
      try dsimp only [id]
      clear hown7 RH5 OW5 RM5 hb6
      go_wp2_with fail
      go_roundw
      case rel => exact ⟨k + 1, _, _, _, _, hlt, by go_num, rfl, rfl, hc4, hc7, OW6.out, RN6.out, B6⟩
      case measure => simp [intOf]; omega
    · have hlt' : ¬ (k : Int) < (n : Int) := by omega
      obtain rfl : k = n := by omega
      have ho := OW.out
      rw [HT.out] at ho
      go_wp2_with fail
      go_ret
      exact RetOwn.of (mk := id) ho hbw
end Go.Proofs.YtecndceekgaglaaGreat
/- The contract of Join of the program. Conditions: as each statement says. -/
namespace Go.Proofs.YtecndceekgaglaaGreat
open Go.RowKit
set_option linter.unusedVariables false
theorem grown_trans {a b c : World} {r : Option Nat} (h : a.grownBy b r) (h' : b.grownBy c r) : a.grownBy c r :=
  ⟨h'.os.trans h.os, h'.tape.trans h.tape, h'.output.trans h.output, Nat.le_trans h.size h'.size, fun k hk hne => (h'.block k (Nat.lt_of_lt_of_le hk h.size) hne).trans (h.block k hk hne)⟩
theorem grown_alloc (w : World) (o : Obj) (r : Option Nat) : w.grownBy (w.alloc o) r := World.grownBy_alloc w o r
set_option maxRecDepth 100000 in
theorem Join_3 (A : Option Addr) (n c : Nat) (k : Int) (w : World) (h : k < 1 ∨ 16 < k) :
    Calls Tryz.prog 16 #[.slice A n c, .int .i64 k] w (RetES w 3 []) := by
  rcases h with h | h
  · go_enter Tryz.func16, Tryz.ntmps16
    go_wp2_with fail
    go_ret2
    exact RetES.nil 3 (Below.refl _ _)
  · have h2 : ¬ k < 1 := by omega
    go_enter Tryz.func16, Tryz.ntmps16
    go_wp2_with fail
    go_ret2
    exact RetES.nil 3 (Below.refl _ _)
set_option maxRecDepth 100000 in
theorem Join_14 (A : Option Addr) (n c k : Nat) (w : World) (hk1 : 1 ≤ k) (hk2 : k ≤ 16) (h : n < k) :
    Calls Tryz.prog 16 #[.slice A n c, .int .i64 k] w (RetES w 14 []) := by
  have h1 : ¬ (k : Int) < 1 := by omega
  have h2 : ¬ (16 : Int) < (k : Int) := by omega
  have h3 : (n : Int) < (k : Int) := by omega
  go_enter Tryz.func16, Tryz.ntmps16
  go_wp2_with fail
  go_ret2
  exact RetES.nil 14 (Below.refl _ _)
set_option maxRecDepth 100000 in
theorem Join_chk (b off n c k : Nat) (s : ShareV) (r : List ShareV) (w : World) (hk1 : 1 ≤ k) (hk2 : k ≤ 16) (hn : n ≤ 1073741824) (h : k ≤ n) (hl : ShR w w.heap.size (some ⟨b, off, none⟩) n (s :: r)) (hE : chkE s.n [] (s :: r) ≠ 0) :
    Calls Tryz.prog 16 #[.slice (some ⟨b, off, none⟩) n c, .int .i64 k] w (RetES w (chkE s.n [] (s :: r)) []) := by
  have h1 : ¬ (k : Int) < 1 := by omega
  have h2 : ¬ (16 : Int) < (k : Int) := by omega
  have h3 : ¬ (n : Int) < (k : Int) := by omega
  have hn0 : (0 : Int) < (n : Int) := by omega
  obtain ⟨b', off', he, hb, hc⟩ := hl.2.1.2 (by omega)
  injection he with he; injection he with he1 he2 _
  subst he1 he2
  have c1 : w.cell? ⟨b, off + 1, none⟩ = some (.slice s.A s.n s.c) := hc 1 _ rfl
  have hsn := (hl.2.2 s (by simp)).2.2.2.1
  have HC := Lib.hid (check_any (some ⟨b, off, none⟩) n c s.n (s :: r) w hn hsn hl)
  have hE' : (chkE s.n [] (s :: r) != 0) = true := by simpa using hE
  generalize chkE s.n [] (s :: r) = E at HC hE'
  clear hc hE
  go_enter Tryz.func16, Tryz.ntmps16
  go_wp2_with fail
  refine HC.out.mono ?_
  rintro e w1 ⟨rfl, hb1⟩
  go_wp2_with fail
  go_ret2
  exact RetES.nil E hb1
set_option maxRecDepth 100000 in
set_option maxHeartbeats 4000000 in
theorem Join_ok (b off n c k len : Nat) (l : List ShareV) (w : World) (hk1 : 1 ≤ k) (hk2 : k ≤ 16) (hnc : n ≤ c) (h : k ≤ n) (hl : ShR w w.heap.size (some ⟨b, off, none⟩) n l) (hE : chkE len [] l = 0) :
    Calls Tryz.prog 16 #[.slice (some ⟨b, off, none⟩) n c, .int .i64 k] w (RetES w (okE (allJ l k len)) (okS (allJ l k len) (secJ l k len))) := by
  have g := (chk_good len l [] hE).1
  have hn16 : n ≤ 16 := by rw [← hl.1]; exact g.few
  have hne : l ≠ [] := by intro e; have := hl.1; rw [e] at this; simp at this; omega
  have hl256 := g.len hne
  have h1 : (1 : Int) ≤ (k : Int) := by omega
  have h2 : (k : Int) ≤ 16 := by omega
  have h3 : (k : Int) ≤ (n : Int) := by omega
  have hn0 : (0 : Int) < (n : Int) := by omega
  have hbs : ShBytes l := fun s hs => ⟨(hl.2.2 s hs).1, (hl.2.2 s hs).2.1⟩
  obtain ⟨b', off', he, hb, hc⟩ := hl.2.1.2 (by omega)
  injection he with he; injection he with he1 he2 _
  subst he1 he2
  have hl0 : 0 < l.length := by rw [hl.1]; omega
  have hs0 : (l[0]).n = len := g.n _ (List.getElem_mem hl0)
  have c1 : w.cell? ⟨b, off + 1, none⟩ = some (.slice (l[0]).A len (l[0]).c) := by rw [← hs0]; exact hc 1 _ (by have := shCells_1 l 0 hl0; simpa using this)
  have HCK := Lib.hid (check_any (some ⟨b, off, none⟩) n c len l w (by omega) (by omega) hl)
  rw [hE] at HCK
  have HG := Lib.hid g; have HBS := Lib.hid hbs; have HLL := Lib.hid hl
  generalize (l[0]).A = A0 at c1
  generalize (l[0]).c = c0 at c1
  have hmk := fun w => make_u8 w len (by omega)
  clear hc hE g hbs hl hs0 hl0 hne
  go_enter Tryz.func16, Tryz.ntmps16
  go_wp2_with fail
  refine HCK.out.mono ?_
  rintro e w1 ⟨rfl, hb1⟩
  have c11 := (hb1.cell (p := ⟨b, off + 1, none⟩) hb).trans c1
  have s1 := hb1.size
  clear c1
  go_wp2_with fail
  clear hmk c11
  obtain ⟨SB, hSB⟩ : ∃ SB, SB = w1.heap.size := ⟨_, rfl⟩
  obtain ⟨w2, hw2⟩ : ∃ w2, w2 = w1.alloc (.cells (Array.replicate len (Value.int .u8 0)) 5) := ⟨_, rfl⟩
  have hb2 : Below w.heap.size w w2 := by rw [hw2]; exact hb1.alloc s1 _
  have hblk2 : w2.heap[SB]? = some (.cells (u8s (secJ l k 0) ++ List.replicate (len - 0) (Value.int .u8 0)).toArray 5 (0, 0)) := by
    rw [hw2, hSB]; simpa [secJ, u8s] using heap_alloc_new w1 _
  rw [← hSB, ← hw2]
  have HB2 := Lib.hid hblk2
  have hSBw : w.heap.size ≤ SB := by omega
  clear hw2 hblk2 hb1 s1 hSB
  go_loopw [43] (fun v wr => ∃ j : Nat, j ≤ len ∧ v = .int .i64 j ∧ wr.heap[SB]? = some (.cells (u8s (secJ l k j) ++ List.replicate (len - j) (Value.int .u8 0)).toArray 5 (0, 0)) ∧ Below w.heap.size w wr ∧ allJ l k j = true) (fun v _ => len - (intOf v).toNat)
  case atStart => exact ⟨0, Nat.zero_le _, rfl, HB2.out, hb2, rfl⟩
  case round =>
    obtain ⟨wp, rfl⟩ : ∃ wp : World, wp = wr := ⟨_, rfl⟩
    obtain ⟨j, hj, rfl, hblk, hbw, hall⟩ := hrel
    have HBK := Lib.hid hblk; have HALL := Lib.hid hall
    have hSB1 : SB < wp.heap.size := (Array.getElem?_eq_some_iff.1 hblk).1
    have hsz := hbw.size
    clear hblk hall
    by_cases hlt : j < len
    · have hlt' : (j : Int) < (len : Int) := by omega
      obtain ⟨A2, hsl, hrd2⟩ := slice_hd (P := Tryz.prog) (t := 37) (sz := 2) Tryz.underlying37 Tryz.sizeOf106 HLL.out.2.1 (k : Int) k c rfl h hnc
      have HHD := Lib.hid (HLL.out.head k h hrd2)
      clear hrd2
      go_wp2_with fail
      clear hsl
      obtain ⟨w0, hw0⟩ : ∃ w0, w0 = wp.alloc (.cells zero35 110) := ⟨_, rfl⟩
      have hP0 := PtsAt.new wp
      have hB0 : Below wp.heap.size wp w0 := by rw [hw0]; exact (Below.refl _ _).alloc (Nat.le_refl _) _
      have hz0 : w0.heap.size = wp.heap.size + 1 := by rw [hw0]; simp
      rw [← hw0] at hP0 ⊢
      obtain ⟨P, hP⟩ : ∃ P, P = wp.heap.size := ⟨_, rfl⟩
      rw [← hP] at hP0 ⊢
      have PP0 := Lib.hid hP0
      have hP1 : P ≤ wp.heap.size := by omega
      have hP2 : wp.heap.size ≤ P := by omega
      clear hP0 hw0 hP
      go_loopw [52] (fun v wr => ∃ i : Nat, i ≤ k ∧ v = .int .i64 i ∧ PtsAt wr P ((ptsJ l k j).take i) ∧ w0.grownBy wr (some P)) (fun v _ => k - (intOf v).toNat)
      case atStart => exact ⟨0, Nat.zero_le _, rfl, by simpa using PP0.out, World.grownBy.refl _ _⟩
      case round =>
        obtain ⟨i, hi, rfl, hpt, hg0⟩ := hrel
        have HPT := Lib.hid hpt
        have hgs := hg0.size
        have bwr : Below w.heap.size w wr := (hbw.trans (hB0.mono hsz)).grown hg0 (by omega) (fun q hq => by have := Option.some.inj hq; omega)
        clear hpt
        by_cases hli : i < k
        · have hli' : (i : Int) < (k : Int) := by omega
          obtain ⟨b2, o2, s, rfl, hls, hb2l, c0, c1, hok⟩ := (HHD.out.below bwr).at hli
          obtain ⟨by', oy, hA, hbyl, cy⟩ := hok.at (j := j) (by rw [HG.out.n s (List.mem_of_mem_take (List.mem_of_getElem? hls))]; exact hlt)
          have hX := hok.1
          have hy256 := getD_byte hok.2.1 j
          have hsn : s.n = len := HG.out.n s (List.mem_of_mem_take (List.mem_of_getElem? hls))
          have HPS : Hid ((ptsJ l k j).take (i + 1) = (ptsJ l k j).take i ++ [(s.X, s.Y.getD j 0)]) := Lib.hid (by
            have hil : i < (ptsJ l k j).length := by rw [ptsJ_len l k j (by rw [HLL.out.1]; exact h)]; exact hli
            rw [take_snoc _ _ hil]
            have e2 : (ptsJ l k j)[i]? = some (s.X, s.Y.getD j 0) := by unfold ptsJ; rw [List.getElem?_map, hls]; rfl
            rw [List.getElem?_eq_getElem hil] at e2
            rw [Option.some.inj e2])
          obtain ⟨X, As, ns, cs, Ys⟩ := s
          dsimp only at c0 c1 cy hX hA hsn hy256 HPS
          subst hA hsn
          generalize Ys.getD j 0 = y at cy hy256 HPS
          clear hok hls
          have hPlt : P < wr.heap.size := by omega
          have hbyx : by' < wr.heap.size := by omega
          have cy2 : (wr.alloc (.cells #[.int .u8 X, .slice (some ⟨by', oy, none⟩) ns cs] 106)).cell? ⟨by', oy + j, none⟩ = some (.int .u8 (y : Nat)) := (World.cell?_alloc_lt wr _ _ hbyx).trans cy
          have hpl : ((ptsJ l k j).take i).length < 17 := by rw [List.length_take]; omega
          go_wp2_with fail
          refine wp_region_quiet_tail 8 (by kernel_rfl) (by kernel_rfl) ?_
          simp only [List.take_succ_cons, List.take_zero, List.drop_succ_cons, List.drop_zero]
          repeat (quiet_step (fail))
          refine wpQuiet_nil ?_
          intro _ hw'
          obtain ⟨nq, hw''⟩ := hw'
          subst hw''
          go_wp2_with fail
          obtain ⟨wx, hwx⟩ : ∃ wx, wx = (wr.alloc (.cells #[.int .u8 X, .slice (some ⟨by', oy, none⟩) ns cs] 106)).drewN nq := ⟨_, rfl⟩
          have hgx : w0.grownBy wx (some P) := by rw [hwx]; exact grown_drewN (grown_trans hg0 (grown_alloc _ _ _)) nq
          have hptx : PtsAt wx P ((ptsJ l k j).take i) := HPT.out.keep (by rw [hwx]; exact Below.heap_alloc _ _ _ hPlt)
          rw [← hwx]
          clear hwx cy2 c0 c1 cy
          refine (put_any P X y ((ptsJ l k j).take i) wx hX hy256 hptx hpl).mono ?_
          rintro e w4 ⟨⟨u, rfl⟩, hpt4, hg4, hz4⟩
          have HP4 := Lib.hid hpt4; have HG4 := Lib.hid (grown_trans hgx hg4)
          clear hptx hgx hpt4 hg4 hz4 hg0
          go_wp2_with fail
          go_roundw
          case rel => exact ⟨i + 1, hli, by go_num, by rw [HPS.out]; exact HP4.out, HG4.out⟩
          case measure => simp [intOf]; omega
        · have hli' : ¬ (i : Int) < (k : Int) := by omega
          obtain rfl : i = k := by omega
          rw [List.take_of_length_le (by rw [ptsJ_len l i j (by rw [HLL.out.1]; exact h)]; exact Nat.le_refl _)] at HPT
          have hPlt : P < wr.heap.size := by omega
          have hblk5 : wr.heap[SB]? = some (.cells (u8s (secJ l i j) ++ List.replicate (len - j) (Value.int .u8 0)).toArray 5 (0, 0)) := by
            rw [hg0.block SB (by omega) (by intro e; have := Option.some.inj e; omega), hB0.block SB hSB1]; exact HBK.out
          have HTH := Lib.hid (through_any P (ptsJ l i j) wr hPlt HPT.out (ptsJ_b HBS.out i j) (ptsJ_d HG.out i j))
          rw [ptsJ_len l i j (by rw [HLL.out.1]; exact h)] at HTH
          clear hg0
          go_wp2_with fail
          refine HTH.out.mono ?_
          rintro e w5 ⟨A5, c5, rfl, hc5, hown5, hb5⟩
          have hbk5 := (hb5.block SB (by omega)).trans hblk5
          have s5 := hb5.size
          have bw5 := bwr.trans (hb5.mono bwr.size)
          have O5 := Lib.hid hown5; have HB5 := Lib.hid hbk5
          try dsimp only [id]
          clear hown5 hblk5 hbk5 hb5
          obtain ⟨A6, hsl, hrd6⟩ := slice_tl (P := Tryz.prog) (t := 37) (sz := 2) Tryz.underlying37 Tryz.sizeOf106 HLL.out.2.1 i c h hnc
          have HTL := Lib.hid (HLL.out.tail i h hrd6)
          clear hrd6
          go_wp2_with fail
          clear hsl
          have hPB := Lib.hid (polyJ_bytes HG.out HBS.out i j)
          have hPL := Lib.hid (polyJ_len HG.out HBS.out i j (by rw [HLL.out.1]; exact h))
          obtain ⟨m, hm⟩ : ∃ m, m = n - i := ⟨_, rfl⟩
          have hm1 : m + i = n := by omega
          rw [← hm] at HTL
          rw [← hm]
          clear hm
          go_loopw [72] (fun v wx => ∃ q : Nat, q ≤ m ∧ v = .int .i64 q ∧ Below w5.heap.size w5 wx ∧ ((l.drop i).take q).all (fun s => valF (polyJ l i j) s.X == s.Y.getD j 0) = true) (fun v _ => m - (intOf v).toNat)
          case atStart => exact ⟨0, Nat.zero_le _, rfl, Below.refl _ _, by simp⟩
          case round =>
            obtain ⟨q, hq, rfl, hb6, hal⟩ := hrel
            have s6 := hb6.size
            have bw6 := bw5.trans (hb6.mono (by omega))
            have HAL := Lib.hid hal
            clear hal
            by_cases hlq : q < m
            · have hlq' : (q : Int) < (m : Int) := by omega
              obtain ⟨b2, o2, s, rfl, hls, hb2l, c0, c1, hok⟩ := (HTL.out.below bw6).at hlq
              have hsn : s.n = len := HG.out.n s (List.mem_of_mem_drop (List.mem_of_getElem? hls))
              obtain ⟨by', oy, hA, hbyl, cy⟩ := hok.at (j := j) (by rw [hsn]; exact hlt)
              have hX := hok.1
              have hy256 := getD_byte hok.2.1 j
              have HTK : Hid ((l.drop i).take (q + 1) = (l.drop i).take q ++ [s]) := Lib.hid (by
                have hql : q < (l.drop i).length := by rw [HTL.out.1]; exact hlq
                rw [take_snoc _ _ hql]
                rw [List.getElem?_eq_getElem hql] at hls
                rw [Option.some.inj hls])
              have HMM : Hid (s ∈ l.drop i) := Lib.hid (List.mem_of_getElem? hls)
              have hv := valF_lt hPB.out s.X
              by_cases hvy : valF (polyJ l i j) s.X = s.Y.getD j 0
              · have HSTEP : Hid (((l.drop i).take (q + 1)).all (fun s => valF (polyJ l i j) s.X == s.Y.getD j 0) = true) := Lib.hid (by rw [HTK.out, List.all_append, HAL.out]; simpa using hvy)
                have hvi : ((valF (polyJ l i j) s.X : Int) != (s.Y.getD j 0 : Int)) = false := by rw [hvy]; simp
                obtain ⟨X, As, ns, cs, Ys⟩ := s
                dsimp only at c0 c1 cy hX hA hsn hy256 hv hvi
                subst hA hsn
                generalize Ys.getD j 0 = y at cy hy256 hvi
                have hbyx : by' < wr.heap.size := by omega
                have cy2 : (wr.alloc (.cells #[.int .u8 X, .slice (some ⟨by', oy, none⟩) ns cs] 106)).cell? ⟨by', oy + j, none⟩ = some (.int .u8 (y : Nat)) := (World.cell?_alloc_lt wr _ _ hbyx).trans cy
                have RD : Hid (Rd (wr.alloc (.cells #[.int .u8 X, .slice (some ⟨by', oy, none⟩) ns cs] 106)) w5.heap.size 1 A5 i (u8s (polyJ l i j))) := Lib.hid ((Rd.own O5.out).below (hb6.alloc s6 _))
                clear hok hls hvy
                go_wp2_with fail
                go_quiet ((go_at_call 42; exact quiet_q (value_nat A5 i c5 (polyJ l i j) X _ _ (by omega) hPB.out (by omega) (RD.out.drewN _))))
                go_wp2_with fail
                go_roundw
                case rel => exact ⟨q + 1, hlq, by go_num, (hb6.alloc s6 _).trans ((Qw.drewN (Qw.refl _) _).below _), HSTEP.out⟩
                case measure => simp [intOf]; omega
              · have hvi : ((valF (polyJ l i j) s.X : Int) != (s.Y.getD j 0 : Int)) = true := by simp only [bne_iff_ne, ne_eq]; omega
                have HF : Hid (allJ l i len = false) := Lib.hid (allJ_false hlt (by
                  cases h1 : okJ l i j
                  · rfl
                  · exact absurd (by simpa using List.all_eq_true.1 h1 s HMM.out) hvy))
                obtain ⟨X, As, ns, cs, Ys⟩ := s
                dsimp only at c0 c1 cy hX hA hsn hy256 hv hvi
                subst hA hsn
                generalize Ys.getD j 0 = y at cy hy256 hvi
                have hbyx : by' < wr.heap.size := by omega
                have cy2 : (wr.alloc (.cells #[.int .u8 X, .slice (some ⟨by', oy, none⟩) ns cs] 106)).cell? ⟨by', oy + j, none⟩ = some (.int .u8 (y : Nat)) := (World.cell?_alloc_lt wr _ _ hbyx).trans cy
                have RD : Hid (Rd (wr.alloc (.cells #[.int .u8 X, .slice (some ⟨by', oy, none⟩) ns cs] 106)) w5.heap.size 1 A5 i (u8s (polyJ l i j))) := Lib.hid ((Rd.own O5.out).below (hb6.alloc s6 _))
                clear hok hls hvy
                go_wp2_with fail
                go_quiet ((go_at_call 42; exact quiet_q (value_nat A5 i c5 (polyJ l i j) X _ _ (by omega) hPB.out (by omega) (RD.out.drewN _))))
                go_wp2_with fail
                go_ret2
                rw [HF.out]
                exact RetES.nil 19 ((bw6.alloc (by omega) _).trans ((Qw.drewN (Qw.refl _) _).below _))
            · have hlq' : ¬ (q : Int) < (m : Int) := by omega
              obtain rfl : q = m := by omega
              have hOK : okJ l i j = true := by
                have h1 := HAL.out
                rw [List.take_of_length_le (by rw [HTL.out.1]; exact Nat.le_refl _)] at h1
                exact h1
              have HALL2 : Hid (allJ l i (j + 1) = true) := Lib.hid (by rw [allJ_snoc, HALL.out, hOK]; rfl)
              have hblk6 := (hb6.block SB (by omega)).trans HB5.out
              have hpl0 : 0 < (polyJ l i j).length := by rw [hPL.out]; omega
              obtain ⟨pb, po, rfl, hpb, hpc⟩ := ((Rd.own O5.out).below hb6).2 (by omega)
              have cp : wr.cell? ⟨pb, po, none⟩ = some (.int .u8 ((polyJ l i j).getD 0 0 : Nat)) := by
                have := hpc 0 (.int .u8 ((polyJ l i j)[0] : Nat)) (by show (u8s (polyJ l i j))[0]? = _; rw [u8s, List.getElem?_map, List.getElem?_eq_getElem hpl0]; rfl)
                simpa [List.getD, List.getElem?_eq_getElem hpl0] using this
              have hii : (0 : Int) < (i : Int) := by omega
              have cS : ∃ u, wr.cell? ⟨SB, j, none⟩ = some u := ⟨_, (cell_of_row _ _ _ _ _ _ hblk6).trans (Array.getElem?_eq_getElem (by simp [u8s, secJ_len]; omega))⟩
              obtain ⟨u, cS⟩ := cS
              have fS : wr.frozen? ⟨SB, j, none⟩ = false := by simp [World.frozen?, hblk6]
              have HB6 := Lib.hid hblk6
              have hsbw : w.heap.size ≤ SB := hSBw
              clear hOK hblk6 hpl0 hpc
              go_wp2_with fail
              refine ⟨⟨j + 1, hlt, by go_num, ?_, bw6.setCell (p := ⟨SB, j, none⟩) hsbw _, HALL2.out⟩, by simp [intOf]; omega⟩
              obtain ⟨d, hd⟩ : ∃ d, len - j = d + 1 := ⟨len - j - 1, by omega⟩
              have h9 := HB6.out
              rw [hd] at h9
              rw [secJ_snoc, show len - (j + 1) = d by omega, u8s, List.map_append]
              exact row_fill (j := j) h9 (by simp [u8s, secJ_len])
    · have hlt' : ¬ (j : Int) < (len : Int) := by omega
      obtain rfl : j = len := by omega
      have hr := HBK.out
      rw [Nat.sub_self, List.replicate_zero, List.append_nil] at hr
      have HR := Lib.hid hr
      clear hr
      go_wp2_with fail
      go_ret2
      rw [HALL.out]
      show RetES w 0 (secJ l k j) _ _
      exact RetES.own (own_of_row HR.out (by simp [u8s, secJ_len]) hSBw (by unfold maxLen; omega)) hbw
end Go.Proofs.YtecndceekgaglaaGreat
