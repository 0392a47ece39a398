/- The contracts of the document's Matrix and Syndrome. Conditions: as each statement says. -/
import Derived.Test.YtfinjdkcgmepfaaCode2
import Derived.Test.YtfinjdkcgmepfaaSorted
import Derived.Test.YtfinjdkcgmepfaaOpen
namespace Go.Proofs.Ytfinjdkcgmepfaa
open Go.RowKit
set_option linter.unusedVariables false
/-- The document's draws. -/
def RDrawAt (w : World) (H S : Nat) : Prop := w.heap[H]? = some (.cells #[.int .u64 S] 86 (0, 0)) ∧ S < two64
/-- What the document's Sample returns. -/
def RSampP (H S C D : Nat) (w : World) (e : Ending) (w' : World) : Prop := ∃ A c X T, e = .returned (.tuple #[.slice A D c, .int .i64 0]) ∧ X = sampL S C D ∧ T = permS S C ∧ T < two64 ∧ D ≤ c ∧ w'.ownsRow w.heap.size 3 1 (.slice A D c) D (X.map (Value.int .i64)) ∧ Upd w.heap.size H T w w' ∧ RDrawAt w' H T
set_option maxHeartbeats 1000000 in
theorem refSampleD_any (H S C D : Nat) (w : World) (hd : RDrawAt w H S) (hC : C ≤ 65536) (hD : D ≤ C) :
    Calls Try.prog 28 #[.pointer (some ⟨H, 0, none⟩), .int .i64 C, .int .i64 D] w (RSampP H S C D w) := by
  obtain ⟨hb, hs⟩ := hd
  have c0 : w.cell? ⟨H, 0, none⟩ = some (.int .u64 S) := by rw [cell_of_row _ _ _ _ _ _ hb]; rfl
  have hlt := (Array.getElem?_eq_some_iff.1 hb).1
  have j1 : ¬ ((C : Int) < 0) := by omega
  have j2 : ¬ ((65536 : Int) < (C : Int)) := by omega
  have j3 : ¬ ((D : Int) < 0) := by omega
  have j4 : ¬ ((C : Int) < (D : Int)) := by omega
  have HB := Lib.hid hb; have HT := Lib.hid (permS_lt S C hs)
  clear hb
  go_enter Try.func28, Try.ntmps28
  go_wp2_with fail
  refine (refSample_any S C D _ hs hC hD).mono ?_
  rintro e w1 ⟨A, c, rfl, hc, hown, hb1⟩
  dsimp only
  have c1 : w1.heap[H]? = some (.cells #[.int .u64 S] 86 (0, 0)) := (hb1.block _ hlt).trans HB.out
  have d0 : w1.cell? ⟨H, 0, none⟩ = some (.int .u64 S) := by rw [cell_of_row _ _ _ _ _ _ c1]; rfl
  have f0 : w1.frozen? ⟨H, 0, none⟩ = false := by simp [World.frozen?, c1]
  obtain ⟨T, hT⟩ : ∃ T, T = permS S C := ⟨_, rfl⟩
  obtain ⟨X, hX⟩ : ∃ X, X = sampL S C D := ⟨_, rfl⟩
  rw [← hT] at HT ⊢
  rw [← hX] at hown
  have HTE := Lib.hid hT; have HXE := Lib.hid hX
  have HO := Lib.hid hown; have HB1 := Lib.hid hb1; have HC1 := Lib.hid c1
  clear hown hb1 c1 hT hX
  go_wp2_with fail
  go_ret2
  refine ⟨A, c, X, T, rfl, HXE.out, HTE.out, HT.out, hc, ?_, ?_, ?_, HT.out⟩
  · refine ownsRow_setCell_other HO.out ?_ _
    intro e
    have := (HO.out.lt H e).1
    omega
  · exact Below.setBoth HB1.out _ _
  · have := blk_setR (o := 0) HC1.out (.int .u64 (T : Nat))
    rw [this]; rfl
theorem cell_heap {w w' : World} {b : Nat} (h : w'.heap[b]? = w.heap[b]?) (o : Nat) : w'.cell? ⟨b, o, none⟩ = w.cell? ⟨b, o, none⟩ := by simp [World.cell?, h]
theorem RDrawAt.lt {w : World} {H S : Nat} (h : RDrawAt w H S) : H < w.heap.size := (Array.getElem?_eq_some_iff.1 h.1).1
theorem RDrawAt.at {w w' : World} {H S : Nat} (h : RDrawAt w H S) (e : w'.heap[H]? = w.heap[H]?) : RDrawAt w' H S := ⟨e.trans h.1, h.2⟩
theorem MatAt.upd {w w' : World} {B g C H T : Nat} {vs : List Value} {rows : List (List Int)} (h : MatAt w B g C vs rows) (hu : Upd w.heap.size H T w w') (hH : H < B) (hne : g ≠ H) : MatAt w' B g C vs rows :=
  ⟨(hu.heap h.gl hne).trans h.blk, h.len, fun i v r hv hr => ownsRow_upd (h.row i v r hv hr) hu hH, h.apart⟩
/-- What holds at each round of the document's Matrix. -/
structure RmI (w0 w : World) (H g N C D s S : Nat) (vs : List Value) (rows : List (List Int)) : Prop where
  bl : Below w0.heap.size w0 w
  cd : CodeAt w w0.heap.size N C D s
  dr : RDrawAt w H S
  mt : MatAt w (g + 1) g C vs rows
theorem RmI.q {w0 w w' : World} {H g N C D s S : Nat} {vs : List Value} {rows : List (List Int)} (h : RmI w0 w H g N C D s S vs rows) (hq : Qw w w') : RmI w0 w' H g N C D s S vs rows :=
  ⟨h.bl.trans (hq.below _), h.cd.q hq, h.dr.at (by rw [hq.heap]), by
    obtain ⟨d, rfl⟩ := hq
    exact ⟨h.mt.blk, h.mt.len, h.mt.row, h.mt.apart⟩⟩
theorem RmI.samp {w0 w w' : World} {H g N C D s S T : Nat} {vs : List Value} {rows : List (List Int)} (h : RmI w0 w H g N C D s S vs rows) (h0 : w0.heap.size < H) (hg : H < g) (hu : Upd w.heap.size H T w w') (hd : RDrawAt w' H T) : RmI w0 w' H g N C D s T vs rows :=
  ⟨h.bl.trans (hu.to (Nat.le_of_lt h0) h.bl.size), ⟨(hu.heap h.cd.lt (by omega)).trans h.cd.blk⟩, hd, h.mt.upd hu (by omega) (by omega)⟩
theorem RmI.step {w0 w w1 : World} {H g N C D s S k n K : Nat} {vs : List Value} {rows : List (List Int)} {v v' : Value} {r : List Int} {x : Int} (h : RmI w0 w H g N C D s S vs rows) (h0 : w0.heap.size < H) (hHg : H < g) (hv : vs[k]? = some v) (hr : rows[k]? = some r) (hn : n = r.length + 1)
    (hown : w1.ownsRow (g + 1) 3 1 v' n (r.map (Value.int .i64) ++ [.int .i64 x])) (hb : Below (g + 1) w w1) (hg : w.grownBy w1 v.ownBlock) (hl : Lies v v' K) (hK : w.heap.size ≤ K) :
    RmI w0 (w1.setCell ⟨g, k, none⟩ v') H g N C D s S (vs.set k v') (rows.set k (r ++ [x])) :=
  ⟨(h.bl.trans (hb.mono (by omega))).setCell (p := ⟨g, k, none⟩) (by simp only; omega) _,
    ⟨(Below.heap_setCell _ _ _ _ (by simp only; omega)).trans ((hb.block _ (by omega)).trans h.cd.blk)⟩,
    h.dr.at ((Below.heap_setCell _ _ _ _ (by simp only; omega)).trans (hb.block _ (by omega))), h.mt.push hv hr hn hown hg hl hK⟩
/-- A block that no row lies in stays as it is. -/
structure Off (w1 w : World) (g b : Nat) (vs : List Value) : Prop where
  lt : b < w1.heap.size ∧ w1.heap.size ≤ w.heap.size
  gb : g < b
  kp : w.heap[b]? = w1.heap[b]?
  ne : ∀ (i : Nat) (v : Value), vs[i]? = some v → v.ownBlock ≠ some b
theorem Off.q {w1 w w' : World} {g b : Nat} {vs : List Value} (h : Off w1 w g b vs) (hq : Qw w w') : Off w1 w' g b vs :=
  ⟨⟨h.lt.1, by rw [hq.heap]; exact h.lt.2⟩, h.gb, by rw [hq.heap]; exact h.kp, h.ne⟩
theorem Off.step {w1 w w2 : World} {g b k K : Nat} {vs : List Value} {v v' : Value} (h : Off w1 w g b vs) (hv : vs[k]? = some v) (hg : w.grownBy w2 v.ownBlock) (hl : Lies v v' K) (hK : w.heap.size ≤ K) : Off w1 (w2.setCell ⟨g, k, none⟩ v') g b (vs.set k v') where
  lt := ⟨h.lt.1, by rw [size_setCell]; exact Nat.le_trans h.lt.2 hg.size⟩
  gb := h.gb
  kp := (Below.heap_setCell _ _ _ _ (by have := h.gb; simp only; omega)).trans ((hg.block b (Nat.lt_of_lt_of_le h.lt.1 h.lt.2) (fun e => h.ne k v hv e.symm)).trans h.kp)
  ne := fun i u hu => by
    rw [List.getElem?_set] at hu
    by_cases e : k = i
    · subst e
      rw [if_pos rfl] at hu
      split at hu
      · simp only [Option.some.injEq] at hu
        subst hu
        rcases hl with e | e
        · rw [e]; exact h.ne k v hv
        · rw [e]; intro e2; injection e2 with e2; have := h.lt; omega
      · cases hu
    · rw [if_neg e] at hu; exact h.ne i u hu
set_option maxRecDepth 100000 in
set_option maxHeartbeats 4000000 in
theorem refMatrix_ok (N C D s : Nat) (w : World) (h0 : codeE N C D = 0) (hs : s < two64) :
    Calls Try.prog 15 #[codV N C D s] w (MatP N C D s w) := by
  obtain ⟨h1, h2, h3, h4, h5, h6, h7⟩ := codeE_ok.1 h0
  have hmk := fun w => make_ll w C (by omega)
  have HM := Lib.hid (colsL_mem (C := C) (D := D) (s := s) (n := N) (by omega))
  have H0 := Lib.hid h0; have HS := Lib.hid hs
  clear h0 hs
  go_enter Try.func15, Try.ntmps15
  go_wp2_with fail
  refine (refCheckCode_ex _ _ _ _ _).mono ?_
  rintro e w1 ⟨⟨E, hE, rfl⟩, hb⟩
  obtain rfl : E = 0 := by rw [hE]; exact H0.out
  have hcc := (CodeAt.new w N C D s).below hb (Nat.le_refl _)
  have HB : Hid (Below w.heap.size w w1) := Lib.hid (((Below.refl _ _).alloc (Nat.le_refl _) _).trans (hb.mono (by simp)))
  have c0 := hcc.c0; have c1 := hcc.c1; have c2 := hcc.c2; have c3 := hcc.c3
  have HCC := Lib.hid hcc
  clear hb hcc hE
  go_wp2_with fail
  refine (refNewD_any s _).mono ?_
  rintro e w2 ⟨rfl, rfl⟩
  have hcc := HCC.out.past ((Below.refl w1.heap.size w1).alloc (Nat.le_refl _) (.cells #[.int .u64 s] 86)) HCC.out.lt
  have c0 := hcc.c0; have c1 := hcc.c1; have c2 := hcc.c2; have c3 := hcc.c3
  obtain ⟨H, hH⟩ : ∃ H, H = w1.heap.size := ⟨_, rfl⟩
  have hI : RmI w ((w1.alloc (.cells #[.int .u64 s] 86)).alloc (.cells (Array.replicate C (.slice none 0 0)) 38)) H (H + 1) N C D s s (List.replicate C (.slice none 0 0)) (List.replicate C []) := by
    have hal := (Below.refl (w1.alloc (.cells #[.int .u64 s] 86)).heap.size (w1.alloc (.cells #[.int .u64 s] 86))).alloc (Nat.le_refl _) (.cells (Array.replicate C (.slice none 0 0)) 38)
    refine ⟨(HB.out.alloc HB.out.size _).alloc (by have := HB.out.size; simp; omega) _, hcc.past hal hcc.lt, ⟨?_, HS.out⟩, MatAt.start ?_⟩
    · rw [hH, hal.block _ (by simp), heap_alloc_new]
    · have := heap_alloc_new (w1.alloc (.cells #[.int .u64 s] 86)) (.cells (Array.replicate C (.slice none 0 0)) 38)
      rw [hH]; simpa using this
  have hwH : w.heap.size < H := by rw [hH]; exact HCC.out.lt
  have HI := Lib.hid hI; have HWH := Lib.hid hwH
  clear hI hcc hwH
  go_wp2_with fail
  clear hmk c0 c1 c2 c3
  rw [← hH]
  clear hH
  generalize (w1.alloc (.cells #[.int .u64 s] 86)).alloc (.cells (Array.replicate C (.slice none 0 0)) 38) = w3 at HI ⊢
  go_loopw [6] (fun i wr => ∃ (k S : Nat) (vs : List Value) (rows : List (List Int)), k ≤ N ∧ i = .int .i64 k ∧ S = stP C s k ∧ rows = matL C (colsL C D s k) ∧ RmI w wr H (H + 1) N C D s S vs rows) (fun i _ => N - (intOf i).toNat)
  case atStart => exact ⟨0, s, _, _, Nat.zero_le _, rfl, rfl, rfl, HI.out⟩
  case round =>
    obtain ⟨k, S, vs, rows, hk, rfl, hS, hrows, hI⟩ := hrel
    obtain ⟨wa, rfl⟩ : ∃ z : World, z = wr := ⟨_, rfl⟩
    have HI1 := Lib.hid hI; have HR := Lib.hid hrows; have HSS := Lib.hid hS
    have c0 := hI.cd.c0; have c1 := hI.cd.c1; have c2 := hI.cd.c2
    clear hI hrows HI hS
    by_cases hlt : k < N
    · have hki : (k : Int) < (N : Int) := by omega
      go_wp2_with fail
      refine (refSampleD_any H S C D _ HI1.out.dr (by omega) (by omega)).mono ?_
      rintro e w4 ⟨A, c, l, T, rfl, hX, hT, hT2, hcc, hown, hu, hd⟩
      have hI4 := HI1.out.samp HWH.out (Nat.lt_succ_self _) hu hd
      have hgb : ∀ (i : Nat) (v : Value), vs[i]? = some v → ∀ b, v.ownBlock = some b → b < wa.heap.size := fun i v hv b hb => by
        have hi : i < rows.length := by rw [HI1.out.mt.len.2, ← HI1.out.mt.len.1]; exact (List.getElem?_eq_some_iff.1 hv).1
        exact ((HI1.out.mt.row i v _ hv (List.getElem?_eq_getElem hi)).lt b hb).2
      obtain ⟨b3, c3, hvb⟩ := own_head hown (by omega)
      injection hvb with hA _ hc3
      subst hA; subst hc3
      have hb3 := hown.lt b3 rfl
      have hgw := HI1.out.mt.gl
      have HOFF : Hid (Off w4 w4 (H + 1) b3 vs) := Lib.hid ⟨⟨hb3.2, Nat.le_refl _⟩, by omega, rfl, fun i v hv e => by have := hgb i v hv _ e; omega⟩
      have HLL : Hid (l.length = D) := Lib.hid (by rw [hX]; exact sampL_len _ _ _ (by omega))
      have HLM : Hid (∀ x ∈ l, 0 ≤ x ∧ x < C) := Lib.hid (by rw [hX]; exact fun x hx => sampL_mem hx)
      have HST : Hid (matL C (colsL C D s (k + 1)) = addCol k rows l) := Lib.hid (by rw [colsL_snoc, matL_snoc, colsL_len, ← HR.out, hX, HSS.out])
      have HTS : Hid (T = stP C s (k + 1)) := Lib.hid (by rw [hT, HSS.out]; rfl)
      have HOWN := Lib.hid hown; have HI4 := Lib.hid hI4
      have HSH : Hid (∀ r ∈ rows, r.length ≤ 512 * 4) := Lib.hid (fun r hr => by
        have h1 := matL_short C 4 (colsL C D s k) (fun l hl => by have := (colsL_mem (by omega) l hl).1; omega)
        rw [← HR.out, colsL_len] at h1
        have h2 := h1 r hr
        omega)
      clear hX hT hT2 hcc hown hu hd hI4 hgb hb3 hgw c0 c1 c2
      go_wp2_with fail
      go_loopw [9] (fun i wr => ∃ (j : Nat) (vs2 : List Value) (rows2 : List (List Int)), j ≤ D ∧ i = .int .i64 j ∧ rows2 = addCol k rows (l.take j) ∧ RmI w wr H (H + 1) N C D s T vs2 rows2 ∧ Off w4 wr (H + 1) b3 vs2) (fun i _ => D - (intOf i).toNat)
      case atStart => exact ⟨0, vs, rows, Nat.zero_le _, rfl, rfl, HI4.out, HOFF.out⟩
      case round =>
        obtain ⟨j, vs2, rows2, hj, rfl, hrows2, hI, hoff⟩ := hrel
        obtain ⟨wb, rfl⟩ : ∃ z : World, z = wr := ⟨_, rfl⟩
        have HR2 := Lib.hid hrows2
        have HI2 := Lib.hid (hI.q (w' := wb.drew) ⟨1, rfl⟩); have HF2 := Lib.hid (hoff.q (w' := wb.drew) ⟨1, rfl⟩)
        have HI3 := Lib.hid hI; have HF3 := Lib.hid hoff
        clear hI hrows2 hoff
        by_cases hlj : j < D
        · have hji : (j : Int) < (D : Int) := by omega
          have hjl : j < l.length := by rw [HLL.out]; exact hlj
          have hx : wb.cell? ⟨b3, 0 + j, none⟩ = some (.int .i64 l[j]) := by
            rw [cell_heap HF3.out.kp, Nat.zero_add, HOWN.out.cellAt j (by omega), List.getElem?_map, List.getElem?_eq_getElem hjl]; rfl
          have hxr := HLM.out _ (List.getElem_mem hjl)
          have HS3 : Hid (addCol k rows (l.take (j + 1)) = addM k rows2 l[j]) := Lib.hid (by rw [take_snoc _ _ hjl, addCol_snoc, HR2.out])
          generalize l[j] = x at hx hxr HS3
          obtain ⟨q, rfl⟩ := Int.eq_ofNat_of_zero_le hxr.1
          have hq : q < C := by omega
          have hqi : (q : Int) < (C : Int) := hxr.2
          rw [Nat.zero_add] at hx
          obtain ⟨v, hv, hcv, hov, hrv⟩ := HI3.out.mt.cell hq
          have hrl : (rows2.getD q []).length ≤ 1000000 := by
            have h2 := addCol_short (i := k) (l.take j) HSH.out
            rw [← HR2.out] at h2
            have h4 : (l.take j).length ≤ 4 := by rw [List.length_take]; omega
            rw [List.getD_eq_getElem?_getD, hrv]
            have h5 := h2 _ (List.mem_of_getElem? hrv)
            simp only [Option.getD_some]
            omega
          obtain ⟨Av, cv, rfl, hcv2⟩ := own_form hov
          have hb3l : b3 < wb.heap.size := Nat.lt_of_lt_of_le HF3.out.lt.1 HF3.out.lt.2
          have hbg : b3 ≠ H + 1 := by have := HF3.out.gb; omega
          have hgl := HI3.out.mt.gl
          have HOV := Lib.hid hov; have HV := Lib.hid hv; have HRV := Lib.hid hrv; have HX := Lib.hid hx
          clear hov hv hrv hxr
          go_wp2_with fail
          refine wp_region_held_drew (S := fun w' => w'.cell? ⟨b3, j, none⟩ = some (.int .i64 (q : Int))) (by kernel_rfl) ?_ (fun hHeld => ?_)
          · (try dsimp only); first | exact HX.out | exact (World.cell?_alloc_lt _ _ _ hb3l).trans HX.out | exact hx8 | (exact (World.cell?_setCell_other _ _ _ _ (fun e => hbg (congrArg Addr.block e).symm)).trans hx8)
          refine wpAnyH_take (i := 0) (oi := ⟨some 40, _, _, _, _, _⟩) (v := ?_) rfl (by kernel_rfl) (by kernel_rfl) (by kernel_rfl) (fun _ _ _ h => h) (Or.inl ⟨by rfl, ?_⟩) (by assumption) ?_
          rotate_left
          · (intro w hSw; (try dsimp only at hSw); go_simp; try with_reducible rfl)
          try simp only [Act.put, List.setIfInBounds_toArray, List.set_cons_zero, List.set_cons_succ]
          refine wpAnyH_take (i := 1) (oi := ⟨some 41, _, _, _, _, _⟩) (v := ?_) rfl (by kernel_rfl) (by kernel_rfl) (by kernel_rfl) (fun _ _ _ h => h) (Or.inl ⟨by rfl, ?_⟩) (by assumption) ?_
          rotate_left
          · (intro w hSw; (try dsimp only at hSw); go_simp; try with_reducible rfl)
          try simp only [Act.put, List.setIfInBounds_toArray, List.set_cons_zero, List.set_cons_succ]
          refine wpAnyH_take (i := 2) (oi := ⟨some 42, _, _, _, _, _⟩) (v := ?_) rfl (by kernel_rfl) (by kernel_rfl) (by kernel_rfl) (fun _ _ _ h => h) (Or.inl ⟨by rfl, ?_⟩) (by assumption) ?_
          rotate_left
          · (intro w hSw; (try dsimp only at hSw); go_simp; try with_reducible rfl)
          try simp only [Act.put, List.setIfInBounds_toArray, List.set_cons_zero, List.set_cons_succ]
          refine wpAnyH_take (i := 3) (oi := ⟨some 43, _, _, _, _, _⟩) (v := ?_) rfl (by kernel_rfl) (by kernel_rfl) (by kernel_rfl) (fun _ _ _ h => h) (Or.inl ⟨by rfl, ?_⟩) (by assumption) ?_
          rotate_left
          · (intro w hSw; (try dsimp only at hSw); go_simp; try with_reducible rfl)
          try simp only [Act.put, List.setIfInBounds_toArray, List.set_cons_zero, List.set_cons_succ]
          refine wpAnyH_take (i := 4) (oi := ⟨some 44, _, _, _, _, _⟩) (v := .int .i64 (q : Int)) rfl (by kernel_rfl) (by kernel_rfl) (by kernel_rfl) (fun _ _ _ h => h) (Or.inl ⟨by rfl, ?_⟩) (by assumption) ?_
          · (intro w hSw; (try dsimp only at hSw); have hq := hSw; go_simp)
          try simp only [Act.put, List.setIfInBounds_toArray, List.set_cons_zero, List.set_cons_succ]
          refine wpAnyH_take (i := 5) (oi := ⟨some 45, _, _, _, _, _⟩) (v := ?_) rfl (by kernel_rfl) (by kernel_rfl) (by kernel_rfl) (fun _ _ _ h => h) (Or.inl ⟨by rfl, ?_⟩) (by assumption) ?_
          rotate_left
          · (intro w hSw; (try dsimp only at hSw); go_simp; try with_reducible rfl)
          try simp only [Act.put, List.setIfInBounds_toArray, List.set_cons_zero, List.set_cons_succ]
          refine wpAnyH_take (i := 6) (oi := ⟨some 46, _, _, _, _, _⟩) (v := ?_) rfl (by kernel_rfl) (by kernel_rfl) (by kernel_rfl) (fun _ _ _ h => h) (Or.inl ⟨by rfl, ?_⟩) (by assumption) ?_
          rotate_left
          · (intro w hSw; (try dsimp only at hSw); go_simp; try with_reducible rfl)
          try simp only [Act.put, List.setIfInBounds_toArray, List.set_cons_zero, List.set_cons_succ]
          refine wpAnyH_take (i := 7) (oi := ⟨some 47, _, _, _, _, _⟩) (v := ?_) rfl (by kernel_rfl) (by kernel_rfl) (by kernel_rfl) (fun _ _ _ h => h) (Or.inl ⟨by rfl, ?_⟩) (by assumption) ?_
          rotate_left
          · (intro w hSw; (try dsimp only at hSw); go_simp; try with_reducible rfl)
          try simp only [Act.put, List.setIfInBounds_toArray, List.set_cons_zero, List.set_cons_succ]
          refine wpAnyH_take (i := 8) (oi := ⟨some 48, _, _, _, _, _⟩) (v := ?_) rfl (by kernel_rfl) (by kernel_rfl) (by kernel_rfl) (fun _ _ _ h => h) (Or.inl ⟨by rfl, ?_⟩) (by assumption) ?_
          rotate_left
          · (intro w hSw; (try dsimp only at hSw); go_simp; try with_reducible rfl)
          try simp only [Act.put, List.setIfInBounds_toArray, List.set_cons_zero, List.set_cons_succ]
          refine wpAnyH_take (i := 9) (oi := ⟨some 49, _, _, _, _, _⟩) (v := .int .i64 (q : Int)) rfl (by kernel_rfl) (by kernel_rfl) (by kernel_rfl) (fun _ _ _ h => h) (Or.inl ⟨by rfl, ?_⟩) (by assumption) ?_
          · (intro w hSw; (try dsimp only at hSw); have hq := hSw; go_simp)
          try simp only [Act.put, List.setIfInBounds_toArray, List.set_cons_zero, List.set_cons_succ]
          refine wpAnyH_take (i := 10) (oi := ⟨some 50, _, _, _, _, _⟩) (v := ?_) rfl (by kernel_rfl) (by kernel_rfl) (by kernel_rfl) (fun _ _ _ h => h) (Or.inl ⟨by rfl, ?_⟩) (by assumption) ?_
          rotate_left
          · (intro w hSw; (try dsimp only at hSw); go_simp; try with_reducible rfl)
          try simp only [Act.put, List.setIfInBounds_toArray, List.set_cons_zero, List.set_cons_succ]
          refine wpAnyH_take (i := 12) (oi := ⟨some 52, _, _, _, _, _⟩) (v := ?_) rfl (by kernel_rfl) (by kernel_rfl) (by kernel_rfl) (fun _ _ _ h => h) (Or.inl ⟨by rfl, ?_⟩) (by assumption) ?_
          rotate_left
          · (intro w hSw; (try dsimp only at hSw); go_simp; try with_reducible rfl)
          try simp only [Act.put, List.setIfInBounds_toArray, List.set_cons_zero, List.set_cons_succ]
          refine wpAnyH_ready (rs := [11, 13]) (by kernel_rfl) (by simp) ?_
          refine AllReadyH.cons (o := ⟨some 51, _, _, _, _, _⟩) rfl (fun K hK => ?_) ?_
          · skip
            go_simp
            refine hK.out _ _ ?_ (fun hHeld => ?_)
            · (try dsimp only); first | exact HX.out | exact (World.cell?_alloc_lt _ _ _ hb3l).trans HX.out | exact hx8 | (exact (World.cell?_setCell_other _ _ _ _ (fun e => hbg (congrArg Addr.block e).symm)).trans hx8)
            clear hK K
            try simp only [Act.put, List.setIfInBounds_toArray, List.set_cons_zero, List.set_cons_succ]
            refine wpAnyH_ready (rs := [13]) (by kernel_rfl) (by simp) ?_
            refine AllReadyH.cons (o := ⟨some 53, _, _, _, _, _⟩) rfl (fun K hK => ?_) AllReadyH.nil
            go_simp
            refine hK.out _ _ ?_ (fun hHeld => ?_)
            · (try dsimp only); first | exact HX.out | exact (World.cell?_alloc_lt _ _ _ hb3l).trans HX.out | exact hx8 | (exact (World.cell?_setCell_other _ _ _ _ (fun e => hbg (congrArg Addr.block e).symm)).trans hx8)
            clear hK K
            try simp only [Act.put, List.setIfInBounds_toArray, List.set_cons_zero, List.set_cons_succ]
            refine wpAnyH_ready (rs := [14]) (by kernel_rfl) (by simp) ?_
            refine AllReadyH.cons (o := ⟨some 54, _, _, _, _, _⟩) rfl (fun K hK => ?_) AllReadyH.nil
            refine step_pushL elB_i5 (.tmp 51) (.tmp 53) (by rfl) (by rfl) (H + 1 + 1) _ _ (by rfl) HOV.out.drew (by rfl) (by rfl) (one_cell1 rfl) (by omega) (by decide) (by simp; omega) ?_
            intro v8 w8 hown8 hb8 hg8 hL8
            obtain ⟨A8, d8, rfl, hd8⟩ := own_form hown8
            have hk8 : w8.heap[H + 1]? = _ := (hg8.block (H + 1) HI2.out.mt.gl (fun e => HI2.out.mt.other HV.out e.symm)).trans HI2.out.mt.blk
            have f8 : w8.frozen? ⟨H + 1, q, none⟩ = false := frozen_of_row _ _ _ _ _ hk8
            have c8 := (cell_of_row _ _ _ _ _ _ hk8 : w8.cell? ⟨H + 1, q, none⟩ = _)
            rw [List.getElem?_toArray, HV.out] at c8
            have HS8 := Lib.hid (HI2.out.step HWH.out (Nat.lt_succ_self _) HV.out HRV.out rfl hown8 hb8 hg8 hL8 (Nat.le_succ _))
            have HF8 := Lib.hid (HF2.out.step HV.out hg8 hL8 (Nat.le_succ _))
            have hx8 := (cell_heap (hg8.block b3 hb3l (fun e => HF2.out.ne _ _ HV.out e.symm)) j).trans HX.out
            refine hK.out _ _ ?_ (fun hHeld => ?_)
            · (try dsimp only); first | exact HX.out | exact (World.cell?_alloc_lt _ _ _ hb3l).trans HX.out | exact hx8 | (exact (World.cell?_setCell_other _ _ _ _ (fun e => hbg (congrArg Addr.block e).symm)).trans hx8)
            clear hK K
            try simp only [Act.put, List.setIfInBounds_toArray, List.set_cons_zero, List.set_cons_succ]
            refine wpAnyH_take (i := 15) (oi := ⟨some 55, _, _, _, _, _⟩) (v := ?_) rfl (by kernel_rfl) (by kernel_rfl) (by kernel_rfl) (fun _ _ _ h => h) (Or.inl ⟨by rfl, ?_⟩) (by assumption) ?_
            rotate_left
            · (intro w hSw; (try dsimp only at hSw); go_simp; try with_reducible rfl)
            try simp only [Act.put, List.setIfInBounds_toArray, List.set_cons_zero, List.set_cons_succ]
            refine wpAnyH_ready (rs := [16]) (by kernel_rfl) (by simp) ?_
            refine AllReadyH.cons (o := ⟨none, _, _, _, _, _⟩) rfl (fun K hK => ?_) AllReadyH.nil
            go_simp
            refine hK.out _ _ ?_ (fun hHeld => ?_)
            · (try dsimp only); first | exact HX.out | exact (World.cell?_alloc_lt _ _ _ hb3l).trans HX.out | exact hx8 | (exact (World.cell?_setCell_other _ _ _ _ (fun e => hbg (congrArg Addr.block e).symm)).trans hx8)
            clear hK K
            try simp only [Act.put, List.setIfInBounds_toArray, List.set_cons_zero, List.set_cons_succ]
            refine wpAnyH_done (by kernel_rfl) ?_ _
            go_wp2_with fail
            go_roundw
            case rel => exact ⟨j + 1, _, _, hlj, by go_num, by rw [HS3.out]; rfl, HS8.out, HF8.out⟩
            case measure => simp [intOf]; omega
          refine AllReadyH.cons (o := ⟨some 53, _, _, _, _, _⟩) rfl (fun K hK => ?_) AllReadyH.nil
          go_simp
          refine hK.out _ _ ?_ (fun hHeld => ?_)
          · (try dsimp only); first | exact HX.out | exact (World.cell?_alloc_lt _ _ _ hb3l).trans HX.out | exact hx8 | (exact (World.cell?_setCell_other _ _ _ _ (fun e => hbg (congrArg Addr.block e).symm)).trans hx8)
          clear hK K
          try simp only [Act.put, List.setIfInBounds_toArray, List.set_cons_zero, List.set_cons_succ]
          refine wpAnyH_ready (rs := [11]) (by kernel_rfl) (by simp) ?_
          refine AllReadyH.cons (o := ⟨some 51, _, _, _, _, _⟩) rfl (fun K hK => ?_) AllReadyH.nil
          go_simp
          refine hK.out _ _ ?_ (fun hHeld => ?_)
          · (try dsimp only); first | exact HX.out | exact (World.cell?_alloc_lt _ _ _ hb3l).trans HX.out | exact hx8 | (exact (World.cell?_setCell_other _ _ _ _ (fun e => hbg (congrArg Addr.block e).symm)).trans hx8)
          clear hK K
          try simp only [Act.put, List.setIfInBounds_toArray, List.set_cons_zero, List.set_cons_succ]
          refine wpAnyH_ready (rs := [14]) (by kernel_rfl) (by simp) ?_
          refine AllReadyH.cons (o := ⟨some 54, _, _, _, _, _⟩) rfl (fun K hK => ?_) AllReadyH.nil
          refine step_pushL elB_i5 (.tmp 51) (.tmp 53) (by rfl) (by rfl) (H + 1 + 1) _ _ (by rfl) HOV.out.drew (by rfl) (by rfl) (one_cell1 rfl) (by omega) (by decide) (by simp; omega) ?_
          intro v8 w8 hown8 hb8 hg8 hL8
          obtain ⟨A8, d8, rfl, hd8⟩ := own_form hown8
          have hk8 : w8.heap[H + 1]? = _ := (hg8.block (H + 1) HI2.out.mt.gl (fun e => HI2.out.mt.other HV.out e.symm)).trans HI2.out.mt.blk
          have f8 : w8.frozen? ⟨H + 1, q, none⟩ = false := frozen_of_row _ _ _ _ _ hk8
          have c8 := (cell_of_row _ _ _ _ _ _ hk8 : w8.cell? ⟨H + 1, q, none⟩ = _)
          rw [List.getElem?_toArray, HV.out] at c8
          have HS8 := Lib.hid (HI2.out.step HWH.out (Nat.lt_succ_self _) HV.out HRV.out rfl hown8 hb8 hg8 hL8 (Nat.le_succ _))
          have HF8 := Lib.hid (HF2.out.step HV.out hg8 hL8 (Nat.le_succ _))
          have hx8 := (cell_heap (hg8.block b3 hb3l (fun e => HF2.out.ne _ _ HV.out e.symm)) j).trans HX.out
          refine hK.out _ _ ?_ (fun hHeld => ?_)
          · (try dsimp only); first | exact HX.out | exact (World.cell?_alloc_lt _ _ _ hb3l).trans HX.out | exact hx8 | (exact (World.cell?_setCell_other _ _ _ _ (fun e => hbg (congrArg Addr.block e).symm)).trans hx8)
          clear hK K
          try simp only [Act.put, List.setIfInBounds_toArray, List.set_cons_zero, List.set_cons_succ]
          refine wpAnyH_take (i := 15) (oi := ⟨some 55, _, _, _, _, _⟩) (v := ?_) rfl (by kernel_rfl) (by kernel_rfl) (by kernel_rfl) (fun _ _ _ h => h) (Or.inl ⟨by rfl, ?_⟩) (by assumption) ?_
          rotate_left
          · (intro w hSw; (try dsimp only at hSw); go_simp; try with_reducible rfl)
          try simp only [Act.put, List.setIfInBounds_toArray, List.set_cons_zero, List.set_cons_succ]
          refine wpAnyH_ready (rs := [16]) (by kernel_rfl) (by simp) ?_
          refine AllReadyH.cons (o := ⟨none, _, _, _, _, _⟩) rfl (fun K hK => ?_) AllReadyH.nil
          go_simp
          refine hK.out _ _ ?_ (fun hHeld => ?_)
          · (try dsimp only); first | exact HX.out | exact (World.cell?_alloc_lt _ _ _ hb3l).trans HX.out | exact hx8 | (exact (World.cell?_setCell_other _ _ _ _ (fun e => hbg (congrArg Addr.block e).symm)).trans hx8)
          clear hK K
          try simp only [Act.put, List.setIfInBounds_toArray, List.set_cons_zero, List.set_cons_succ]
          refine wpAnyH_done (by kernel_rfl) ?_ _
          go_wp2_with fail
          go_roundw
          case rel => exact ⟨j + 1, _, _, hlj, by go_num, by rw [HS3.out]; rfl, HS8.out, HF8.out⟩
          case measure => simp [intOf]; omega
        · have hji : ¬ (j : Int) < (D : Int) := by omega
          have HE : Hid (rows2 = matL C (colsL C D s (k + 1))) := Lib.hid (by rw [HST.out, HR2.out, List.take_of_length_le (by rw [HLL.out]; omega)])
          go_wp2_with fail
          go_roundw
          case rel => exact ⟨k + 1, T, _, _, hlt, by go_num, HTS.out, HE.out, HI3.out⟩
          case measure => simp [intOf]; omega
    · have hki : ¬ (k : Int) < (N : Int) := by omega
      obtain rfl : k = N := by omega
      go_wp2_with fail
      go_ret2
      exact ⟨_, _, rows, rfl, Nat.le_refl _, HR.out, (HI1.out.mt.LL (by omega)).low (by have := HWH.out; omega), HI1.out.bl⟩
#print axioms refMatrix_ok
end Go.Proofs.Ytfinjdkcgmepfaa
/- The contracts of the document's Syndrome, and of Matrix and Syndrome at any arguments. Conditions: as each statement says. -/
namespace Go.Proofs.Ytfinjdkcgmepfaa
open Go.RowKit
set_option linter.unusedVariables false
theorem elB_b5 : ElemB Try.prog 23 4 1 1 := ElemB.of Try.underlying23 info_bool rfl (by decide)
/-- What Matrix says at any arguments. -/
def MatX (N C D : Int) (s : Nat) : List (List Int) := if codeE N C D = 0 then matL C.toNat (colsL C.toNat D.toNat s N.toNat) else []
def MatQ (N C D : Int) (s : Nat) (w : World) (e : Ending) (w' : World) : Prop := ∃ A c rows n E, e = .returned (.tuple #[.slice A n c, .int .i64 E]) ∧ E = codeE N C D ∧ n ≤ c ∧ rows = MatX N C D s ∧ LL w' w.heap.size w'.heap.size A n rows ∧ Below w.heap.size w w'
theorem LL.none (w : World) (L B : Nat) (A : Option Addr) : LL w L B A 0 [] := ⟨rfl, fun i h => absurd h (by simp)⟩
theorem MatQ.of {N C D : Nat} {s : Nat} {w : World} {e : Ending} {w' : World} (h0 : codeE N C D = 0) (h : MatP N C D s w e w') : MatQ N C D s w e w' := by
  obtain ⟨A, c, rows, he, hc, hr, hl, hb⟩ := h
  exact ⟨A, c, rows, C, 0, he, h0.symm, hc, by rw [hr]; unfold MatX; rw [if_pos h0]; rfl, hl, hb⟩
theorem code_nat {N C D : Int} (h : codeE N C D = 0) : ∃ n c d : Nat, N = n ∧ C = c ∧ D = d := by
  obtain ⟨h1, h2, h3, h4, h5, h6, h7⟩ := codeE_ok.1 h
  obtain ⟨n, rfl⟩ := Int.eq_ofNat_of_zero_le (show 0 ≤ N by omega)
  obtain ⟨c, rfl⟩ := Int.eq_ofNat_of_zero_le (show 0 ≤ C by omega)
  obtain ⟨d, rfl⟩ := Int.eq_ofNat_of_zero_le (show 0 ≤ D by omega)
  exact ⟨n, c, d, rfl, rfl, rfl⟩
set_option maxHeartbeats 1000000 in
theorem Matrix_any (N C D : Int) (s : Nat) (w : World) (hs : s < two64) : Calls Try.prog 14 #[codV N C D s] w (MatQ N C D s w) := by
  by_cases h0 : codeE N C D = 0
  · obtain ⟨n, c, d, rfl, rfl, rfl⟩ := code_nat h0
    exact (Matrix_ok n c d s w h0 hs).mono fun e w' h => MatQ.of h0 h
  · have H0 := Lib.hid h0
    clear h0
    go_enter Try.func14, Try.ntmps14
    go_wp2_with fail
    refine (CheckCode_ex _ _ _ _ _).mono ?_
    rintro e w1 ⟨⟨E, hE, rfl⟩, hb⟩
    obtain rfl : E = 2 := by rw [hE]; exact codeE_ne H0.out
    have HE := Lib.hid hE
    have HB : Hid (Below w.heap.size w w1) := Lib.hid (((Below.refl _ _).alloc (Nat.le_refl _) _).trans (hb.mono (by simp)))
    clear hb hE
    go_wp2_with fail
    go_ret2
    exact ⟨_, _, [], 0, 2, rfl, HE.out, Nat.le_refl _, by unfold MatX; rw [if_neg H0.out], LL.none _ _ _ _, HB.out⟩
set_option maxHeartbeats 1000000 in
theorem refMatrix_any (N C D : Int) (s : Nat) (w : World) (hs : s < two64) : Calls Try.prog 15 #[codV N C D s] w (MatQ N C D s w) := by
  by_cases h0 : codeE N C D = 0
  · obtain ⟨n, c, d, rfl, rfl, rfl⟩ := code_nat h0
    exact (refMatrix_ok n c d s w h0 hs).mono fun e w' h => MatQ.of h0 h
  · have H0 := Lib.hid h0
    clear h0
    go_enter Try.func15, Try.ntmps15
    go_wp2_with fail
    refine (refCheckCode_ex _ _ _ _ _).mono ?_
    rintro e w1 ⟨⟨E, hE, rfl⟩, hb⟩
    obtain rfl : E = 2 := by rw [hE]; exact codeE_ne H0.out
    have HE := Lib.hid hE
    have HB : Hid (Below w.heap.size w w1) := Lib.hid (((Below.refl _ _).alloc (Nat.le_refl _) _).trans (hb.mono (by simp)))
    clear hb hE
    go_wp2_with fail
    go_ret2
    exact ⟨_, _, [], 0, 2, rfl, HE.out, Nat.le_refl _, by unfold MatX; rw [if_neg H0.out], LL.none _ _ _ _, HB.out⟩
/-- What Syndrome says at any arguments. -/
def synE (N C D : Int) (n : Nat) : Int := if codeE N C D ≠ 0 then 2 else if (n : Int) ≠ N then 22 else 0
def SynX (N C D : Int) (s : Nat) (bs : List Bool) : List Bool := if synE N C D bs.length = 0 then synL C.toNat bs (colsL C.toNat D.toNat s N.toNat) else []
def SynQ (N C D : Int) (s : Nat) (bs : List Bool) (w : World) (e : Ending) (w' : World) : Prop := ∃ A c xs n E, e = .returned (.tuple #[.slice A n c, .int .i64 E]) ∧ E = synE N C D bs.length ∧ n ≤ c ∧ xs = SynX N C D s bs ∧ n ≤ 512 ∧ Rd w' w'.heap.size 1 A n (xs.map Value.bool) ∧ Below w.heap.size w w'
theorem SynQ.nil {N C D E : Int} {s : Nat} {bs : List Bool} {w w' : World} (hE : E = synE N C D bs.length) (h0 : E ≠ 0) (hb : Below w.heap.size w w') : SynQ N C D s bs w (.returned (.tuple #[.slice none 0 0, .int .i64 E])) w' :=
  ⟨none, 0, [], 0, E, rfl, hE, Nat.le_refl _, by unfold SynX; rw [if_neg (by rw [← hE]; exact h0)], by omega, Rd.nil _ _ _ _, hb⟩
set_option maxHeartbeats 1000000 in
theorem Syndrome_any (N C D : Int) (s : Nat) (A : Option Addr) (n c : Nat) (bs : List Bool) (w : World) (hs : s < two64) (h : Rd w w.heap.size 1 A n (bs.map Value.bool)) :
    Calls Try.prog 10 #[codV N C D s, .slice A n c] w (SynQ N C D s bs w) := by
  have hl : bs.length = n := by have := h.1; simpa using this
  by_cases h0 : codeE N C D = 0
  · by_cases h1 : (n : Int) = N
    · obtain ⟨n', c', d', rfl, rfl, rfl⟩ := code_nat h0
      obtain rfl : n = n' := by omega
      have hsy : synE n c' d' bs.length = 0 := by unfold synE; rw [if_neg (by simpa using h0), if_neg (by rw [hl]; simp)]
      have h2 := (codeE_ok.1 h0).2.2.2.1
      refine (Syndrome_ok n c' d' s A c bs w h0 hs h).mono fun e w' ⟨A2, c2, he, hc2, ho, hb⟩ => ?_
      exact ⟨A2, c2, _, c', 0, he, hsy.symm, hc2, by unfold SynX; rw [if_pos hsy]; rfl, by omega, Rd.own ho, hb⟩
    · have HE : Hid ((22 : Int) = synE N C D bs.length) := Lib.hid (by unfold synE; rw [if_neg (by simpa using h0), if_pos (by rw [hl]; exact h1)])
      have g1 : ((n : Int) != N) = true := by simpa using h1
      have H0 := Lib.hid h0
      clear h0 h1 h hl
      go_enter Try.func10, Try.ntmps10
      go_wp2_with fail
      refine (CheckCode_ex _ _ _ _ _).mono ?_
      rintro e w1 ⟨⟨E, hE, rfl⟩, hb⟩
      obtain rfl : E = 0 := by rw [hE]; exact H0.out
      have HB : Hid (Below w.heap.size w w1) := Lib.hid (((Below.refl _ _).alloc (Nat.le_refl _) _).trans (hb.mono (by simp)))
      have c0 := ((CodeAt.new w N C D s).below hb (Nat.le_refl _)).c0
      clear hb hE
      go_wp2_with fail
      go_ret2
      exact SynQ.nil HE.out (by decide) HB.out
  · have HE : Hid ((2 : Int) = synE N C D bs.length) := Lib.hid (by unfold synE; rw [if_pos h0])
    have H0 := Lib.hid h0
    clear h0 h hl
    go_enter Try.func10, Try.ntmps10
    go_wp2_with fail
    refine (CheckCode_ex _ _ _ _ _).mono ?_
    rintro e w1 ⟨⟨E, hE, rfl⟩, hb⟩
    obtain rfl : E = 2 := by rw [hE]; exact codeE_ne H0.out
    have HB : Hid (Below w.heap.size w w1) := Lib.hid (((Below.refl _ _).alloc (Nat.le_refl _) _).trans (hb.mono (by simp)))
    clear hb hE
    go_wp2_with fail
    go_ret2
    exact SynQ.nil HE.out (by decide) HB.out
set_option maxRecDepth 100000 in
set_option maxHeartbeats 2000000 in
theorem refSyndrome_any (N C D : Int) (s : Nat) (A : Option Addr) (n c : Nat) (bs : List Bool) (w : World) (hs : s < two64) (hn : n ≤ 1073741824) (h : Rd w w.heap.size 1 A n (bs.map Value.bool)) :
    Calls Try.prog 17 #[codV N C D s, .slice A n c] w (SynQ N C D s bs w) := by
  have hl : bs.length = n := by have := h.1; simpa using this
  by_cases h0 : codeE N C D = 0
  · by_cases h1 : (n : Int) = N
    · obtain ⟨n', c', d', rfl, rfl, rfl⟩ := code_nat h0
      obtain rfl : n = n' := by omega
      have hsy : synE n c' d' bs.length = 0 := by unfold synE; rw [if_neg (by simpa using h0), if_neg (by rw [hl]; simp)]
      obtain ⟨k1, k2, k3, k4, k5, k6, k7⟩ := codeE_ok.1 h0
      have HSY := Lib.hid hsy; have H := Lib.hid h; have H0 := Lib.hid h0; have HL := Lib.hid hl
      clear hsy h h0 hl h1
      go_enter Try.func17, Try.ntmps17
      go_wp2_with fail
      refine (refMatrix_ok n c' d' s _ H0.out hs).mono ?_
      rintro e w1 ⟨A1, c1, rows, rfl, hc1, hrows, hll, hb⟩
      have hcc := (CodeAt.new w n c' d' s).below hb (Nat.le_refl _)
      have HB : Hid (Below w.heap.size w w1) := Lib.hid (((Below.refl _ _).alloc (Nat.le_refl _) _).trans (hb.mono (by simp)))
      have c0 := hcc.c0
      have HLL := Lib.hid hll
      have HR : Hid (rows.map (parL bs) = synL c' bs (colsL c' d' s n)) := Lib.hid (by rw [hrows]; exact syn_map _ _ (fun l hl => (colsL_mem (by omega) l hl).2))
      have HRM : Hid (∀ r ∈ rows, r.length ≤ 1000000 ∧ ∀ x ∈ r, 0 ≤ x ∧ x < n) := Lib.hid (fun r hr => by
        rw [hrows] at hr
        have h1 := matL_mem _ _ r hr
        have h2 := matL_short c' 4 (colsL c' d' s n) (fun l hl => by have := (colsL_mem (by omega) l hl).1; omega) r hr
        rw [colsL_len] at h1 h2
        exact ⟨by omega, h1⟩)
      have HLN : Hid (rows.length = c') := Lib.hid hll.len
      clear hcc hb hll hrows
      dsimp only
      go_wp2_with fail
      go_loopw [8, 9] (fun o i wr => ∃ k : Nat, k ≤ c' ∧ i = .int .i64 k ∧ wr.ownsRow w1.heap.size 4 1 o k (((rows.take k).map (parL bs)).map Value.bool) ∧ Below w1.heap.size w1 wr) (fun _ i _ => c' - (intOf i).toNat)
      case atStart => exact ⟨0, Nat.zero_le _, rfl, by simpa using World.ownsRow_nil _ _ _ _, Below.refl _ _⟩
      case round =>
        obtain ⟨k, hk, rfl, hown, hbw⟩ := hrel
        obtain ⟨wa, rfl⟩ : ∃ z : World, z = wr := ⟨_, rfl⟩
        obtain ⟨Ao, co, rfl, hco⟩ := own_form hown
        have HO := Lib.hid hown; have HBW := Lib.hid hbw
        have HLA := Lib.hid (HLL.out.past hbw)
        clear hown hbw
        by_cases hlt : k < c'
        · have hki : (k : Int) < (c' : Int) := by omega
          have hkr : k < rows.length := by rw [HLN.out]; exact hlt
          obtain ⟨b1, o1, Ai, ci, rfl, hb1, hcell, hle, hrd, _⟩ := HLA.out.row k hkr
          have hrm := HRM.out _ (List.getElem_mem hkr)
          have HST : Hid ((rows.take (k + 1)).map (parL bs) = (rows.take k).map (parL bs) ++ [parL bs rows[k]]) := Lib.hid (by rw [take_snoc _ _ hkr, List.map_append]; rfl)
          obtain ⟨r, hr⟩ : ∃ r, r = rows[k] := ⟨_, rfl⟩
          rw [← hr] at hcell hle hrd hrm HST
          have HRD := Lib.hid hrd; have HRM2 := Lib.hid hrm
          have hbw2 := HBW.out.size
          have hr6 := HRM2.out.1
          clear hr hrd hrm hb1 hkr
          go_wp2_with fail
          refine (refparity_any _ _ _ _ _ _ bs r _ _ hn (by omega) ((((H.out.past HB.out).past HBW.out))) HRD.out HRM2.out.2).mono ?_
          rintro e w2 ⟨rfl, rfl⟩
          obtain ⟨pv, hpv⟩ : ∃ pv, pv = parL bs r := ⟨_, rfl⟩
          rw [← hpv] at HST ⊢
          clear hpv
          go_wp2_with (at_builtin; refine wpList_pushL elB_b5 (.tmp 29) (.tmp 36) rfl rfl w1.heap.size k _ rfl HO.out rfl rfl (one_cell1 rfl) (by omega) (by decide) hbw2 ?_; intro v8 w8 hown8 hb8 hg8 hL8; have HO8 := Lib.hid hown8; have HB8 := Lib.hid (HBW.out.trans hb8); clear hown8 hb8 hg8 hL8)
          go_roundw
          case rel => exact ⟨k + 1, hlt, by go_num, by rw [HST.out, List.map_append]; exact HO8.out, HB8.out⟩
          case measure => simp [intOf]; omega
        · have hki : ¬ (k : Int) < (c' : Int) := by omega
          obtain rfl : k = c' := by omega
          go_wp2_with fail
          go_ret2
          have ho := HO.out
          rw [List.take_of_length_le (by rw [HLN.out]; exact Nat.le_refl _), HR.out] at ho
          exact ⟨_, _, _, k, 0, rfl, HSY.out.symm, hco, by unfold SynX; rw [if_pos HSY.out]; rfl, by omega, Rd.own ho, bnext HB.out HBW.out⟩
    · have HE : Hid ((22 : Int) = synE N C D bs.length) := Lib.hid (by unfold synE; rw [if_neg (by simpa using h0), if_pos (by rw [hl]; exact h1)])
      have g1 : ((n : Int) != N) = true := by simpa using h1
      have H0 := Lib.hid h0
      clear h0 h1 h hl
      go_enter Try.func17, Try.ntmps17
      go_wp2_with fail
      refine (refMatrix_any _ _ _ _ _ hs).mono ?_
      rintro e w1 ⟨A1, c1, rows, m1, E, rfl, hE, _, _, _, hb⟩
      obtain rfl : E = 0 := by rw [hE]; exact H0.out
      have HB : Hid (Below w.heap.size w w1) := Lib.hid (((Below.refl _ _).alloc (Nat.le_refl _) _).trans (hb.mono (by simp)))
      have c0 := ((CodeAt.new w N C D s).below hb (Nat.le_refl _)).c0
      clear hb hE
      dsimp only
      go_wp2_with fail
      go_ret2
      exact SynQ.nil HE.out (by decide) HB.out
  · have HE : Hid ((2 : Int) = synE N C D bs.length) := Lib.hid (by unfold synE; rw [if_pos h0])
    have H0 := Lib.hid h0
    clear h0 h hl
    go_enter Try.func17, Try.ntmps17
    go_wp2_with fail
    refine (refMatrix_any _ _ _ _ _ hs).mono ?_
    rintro e w1 ⟨A1, c1, rows, m1, E, rfl, hE, _, _, _, hb⟩
    obtain rfl : E = 2 := by rw [hE]; exact codeE_ne H0.out
    have HB : Hid (Below w.heap.size w w1) := Lib.hid (((Below.refl _ _).alloc (Nat.le_refl _) _).trans (hb.mono (by simp)))
    clear hb hE
    dsimp only
    go_wp2_with fail
    go_ret2
    exact SynQ.nil HE.out (by decide) HB.out
#print axioms refSyndrome_any
end Go.Proofs.Ytfinjdkcgmepfaa
/- The walk of ReconcileCodes: it returns true for any input. Conditions: none beyond the arguments' types. -/
namespace Go.Proofs.Ytfinjdkcgmepfaa
open Go.RowKit
set_option linter.unusedVariables false
theorem MatX_small {N C D : Int} {s : Nat} : (MatX N C D s).length ≤ 256 ∧ ∀ r ∈ MatX N C D s, r.length ≤ 1000000 := by
  unfold MatX
  split
  · rename_i h
    obtain ⟨n, c, d, rfl, rfl, rfl⟩ := code_nat h
    obtain ⟨k1, k2, k3, k4, k5, k6, k7⟩ := codeE_ok.1 h
    simp only [Int.toNat_natCast]
    refine ⟨by rw [matL_len]; omega, fun r hr => ?_⟩
    have h2 := matL_short c 4 (colsL c d s n) (fun l hl => by have := (colsL_mem (by omega) l hl).1; omega) r hr
    rw [colsL_len] at h2
    omega
  · simp
set_option maxRecDepth 100000 in
set_option maxHeartbeats 4000000 in
theorem ReconcileCodes_walk (v0 : Value) (i0 : CodeArg) (v1 : Value) (i1 : BitsArg) (w : World) (hx0 : IsCode w v0 i0) (hx1 : IsBits w v1 i1) :
    Calls Try.prog 4 #[v0, v1] w fun e w' => e = .returned (.bool true) ∧ Below w.heap.size w w' := by
  obtain ⟨N, C, D, s⟩ := i0
  obtain ⟨A, n, c, bs⟩ := i1
  obtain ⟨rfl, _, _, _, hs⟩ := hx0
  obtain ⟨rfl, hc, hm, hl, h⟩ := hx1
  simp only at hs hc hl h hm
  have hs2 : s < two64 := hs
  have H := Lib.hid h
  clear h
  have HB0 : Hid (Below w.heap.size w (w.alloc (.cells (codC N C D s) 25))) := Lib.hid ((Below.refl _ _).alloc (Nat.le_refl _) _)
  by_cases hn : 600 < n
  · have g1 : (600 : Int) < (n : Int) := by omega
    clear hn
    go_enter Try.func4, Try.ntmps4
    go_wp2_with fail
    refine (works_any _).mono ?_
    rintro e w9 ⟨rfl, hb9⟩
    go_wp2_with fail
    go_ret
    exact ⟨rfl, bnext HB0.out hb9⟩
  · have g1 : ¬ (600 : Int) < (n : Int) := by omega
    have HCD := Lib.hid (CodeAt.new w N C D s)
    have HR := Lib.hid (H.out.past HB0.out)
    clear H
    go_enter Try.func4, Try.ntmps4
    go_wp2_with fail
    generalize w.alloc (.cells (codC N C D s) 25) = w1 at HB0 HCD HR ⊢
    have c0 := HCD.out.c0; have c1 := HCD.out.c1; have c2 := HCD.out.c2; have c3 := HCD.out.c3
    go_region_held3 (fun w' => w'.cell? ⟨w.heap.size, 0, none⟩ = some (.int .i64 N) ∧ w'.cell? ⟨w.heap.size, 1, none⟩ = some (.int .i64 C) ∧ w'.cell? ⟨w.heap.size, 2, none⟩ = some (.int .i64 D) ∧ w'.cell? ⟨w.heap.size, 3, none⟩ = some (.int .u64 s)) (first | exact ⟨c0, c1, c2, c3⟩ | exact ⟨d0, d1, d2, d3⟩ | exact ⟨f0, f1, f2, f3⟩)
      ((first
        | (go_at_call 12
           refine (CheckCode_ex N C D s _).mono ?_
           rintro e w2 ⟨⟨E, hE, rfl⟩, hb2⟩
           have HCD2 := Lib.hid ((HCD.out.q (w' := World.drew _) ⟨1, rfl⟩).past hb2 HCD.out.lt)
           have d0 := HCD2.out.c0; have d1 := HCD2.out.c1; have d2 := HCD2.out.c2; have d3 := HCD2.out.c3
           have HE := Lib.hid hE; have HB2 := Lib.hid hb2
           clear hE hb2)
        | (go_at_call 13
           refine (refCheckCode_ex N C D s _).mono ?_
           rintro e w3 ⟨⟨E', hE', rfl⟩, hb3⟩
           obtain rfl : E' = E := by rw [hE', HE.out]
           have HCD3 := Lib.hid (HCD2.out.past hb3 HCD2.out.lt)
           have f0 := HCD3.out.c0; have f1 := HCD3.out.c1; have f2 := HCD3.out.c2; have f3 := HCD3.out.c3
           have HB3 := Lib.hid (bnextQ HB0.out (w1 := World.drew _) ⟨1, rfl⟩ (bnext HB2.out hb3)); have HR3 := Lib.hid ((((HR.out).q (w' := World.drew _) ⟨1, rfl⟩).past HB2.out).past hb3)
           clear hE' hb3)))
    clear c0 c1 c2 c3 d0 d1 d2 d3 HCD2 HCD HB2 HR HB0 HE
    go_wp2_with fail
    refine (Matrix_any N C D s _ hs2).mono ?_
    rintro e w4 ⟨A1, k1, rows, m, E1, rfl, hE1, hk1, hrows, hll, hb4⟩
    have HCD4 := Lib.hid (HCD3.out.past hb4 HCD3.out.lt)
    have HB4 := Lib.hid (bnext HB3.out hb4); have HR4 := Lib.hid (HR3.out.past hb4); have HL4 := Lib.hid hll
    have HE1 := Lib.hid hE1; have HW := Lib.hid hrows
    have c0 := HCD4.out.c0; have c1 := HCD4.out.c1; have c2 := HCD4.out.c2; have c3 := HCD4.out.c3
    clear f0 f1 f2 f3 hb4 hll hE1 hrows HCD3 HB3 HR3
    dsimp only
    go_wp2_with fail
    refine (refMatrix_any N C D s _ hs2).mono ?_
    rintro e w5 ⟨A2, k2, rows', m', E2, rfl, hE2, hk2, hrows', hll', hb5⟩
    obtain rfl : E2 = E1 := by rw [hE2, HE1.out]
    obtain rfl : rows' = rows := by rw [hrows', HW.out]
    obtain rfl : m' = m := by rw [← hll'.len, ← HL4.out.len]
    have HCD5 := Lib.hid (HCD4.out.past hb5 HCD4.out.lt)
    have HB5 := Lib.hid (bnext HB4.out hb5); have HR5 := Lib.hid (HR4.out.past hb5); have HL5 := Lib.hid (HL4.out.past hb5); have HL5' := Lib.hid hll'
    have hm256 : m' ≤ 256 := by rw [← hll'.len, hrows']; exact MatX_small.1
    have HRS : Hid (∀ r ∈ rows', r.length ≤ 1000000) := Lib.hid (by rw [hrows']; exact MatX_small.2)
    clear c0 c1 c2 c3 hb5 hll' hE2 hrows' HCD4 HB4 HR4 HL4 HW HE1
    dsimp only
    go_wp2_with fail
    go_loopw [9] (fun i wr => ∃ k : Nat, k ≤ m' ∧ i = .int .i64 k ∧ Below w5.heap.size w5 wr) (fun i _ => m' - (intOf i).toNat)
    case atStart => exact ⟨0, Nat.zero_le _, rfl, Below.refl _ _⟩
    case round =>
      obtain ⟨k, hk, rfl, hbw⟩ := hrel
      obtain ⟨wa, rfl⟩ : ∃ z : World, z = wr := ⟨_, rfl⟩
      have HBW := Lib.hid hbw
      have HL6 := Lib.hid (HL5.out.past hbw); have HL6' := Lib.hid (HL5'.out.past hbw)
      clear hbw
      by_cases hlt : k < m'
      · have hki : (k : Int) < (m' : Int) := by omega
        have hkr : k < rows'.length := by rw [HL6.out.len]; exact hlt
        obtain ⟨b1, o1, Ai, ci, rfl, hb1, hcell, hle, hrd, _⟩ := HL6.out.row k hkr
        obtain ⟨b2, o2, Aj, cj, rfl, hb2, hcell2, hle2, hrd2, _⟩ := HL6'.out.row k hkr
        have hrs := HRS.out _ (List.getElem_mem hkr)
        generalize rows'[k] = r at hcell hle hrd hcell2 hle2 hrd2 hrs
        have HRD := Lib.hid hrd; have HRD2 := Lib.hid hrd2
        clear hrd hrd2 hb1 hb2 hkr
        go_wp2_with fail
        go_region_held3 (fun w' => w'.cell? ⟨b1, o1 + k, none⟩ = some (.slice Ai r.length ci) ∧ w'.cell? ⟨b2, o2 + k, none⟩ = some (.slice Aj r.length cj)) (first | exact ⟨hcell, hcell2⟩ | exact ⟨(hq.cell _).trans hcell, (hq.cell _).trans hcell2⟩)
          ((go_at_call 16
            refine (Ints_eq Ai Aj r.length ci cj r _ (by omega) (HRD.out.q (w' := World.drew _) ⟨1, rfl⟩) (HRD2.out.q (w' := World.drew _) ⟨1, rfl⟩)).mono ?_
            rintro e w6 ⟨rfl, hq6⟩
            have hq : Qw wa w6 := Qw.trans (⟨1, rfl⟩ : Qw wa wa.drew) hq6
            have HB6 := Lib.hid (bnext HBW.out (hq.below _))
            clear hq6))
        go_wp2_with fail
        go_roundw
        case rel => exact ⟨k + 1, hlt, by go_num, HB6.out⟩
        case measure => simp [intOf]; omega
      · have hki : ¬ (k : Int) < (m' : Int) := by omega
        have HCD6 := Lib.hid (HCD5.out.past HBW.out HCD5.out.lt)
        have c0 := HCD6.out.c0; have c1 := HCD6.out.c1; have c2 := HCD6.out.c2; have c3 := HCD6.out.c3
        have HR6 := Lib.hid (HR5.out.past HBW.out); have HB6 := Lib.hid (bnext HB5.out HBW.out)
        go_wp2_with fail
        refine (Syndrome_any N C D s A n c bs _ hs2 HR6.out).mono ?_
        rintro e w7 ⟨A3, k3, xs, m3, E3, rfl, hE3, hk3, hxs, hm3, hrx, hb7⟩
        have HCD7 := Lib.hid (HCD6.out.past hb7 HCD6.out.lt)
        have HB7 := Lib.hid (bnext HB6.out hb7); have HR7 := Lib.hid (HR6.out.past hb7); have HX7 := Lib.hid hrx
        have HE3 := Lib.hid hE3; have HXS := Lib.hid hxs
        have d0 := HCD7.out.c0; have d1 := HCD7.out.c1; have d2 := HCD7.out.c2; have d3 := HCD7.out.c3
        clear c0 c1 c2 c3 hb7 hrx hE3 hxs
        dsimp only
        go_wp2_with fail
        refine (refSyndrome_any N C D s A n c bs _ hs2 (by omega) HR7.out).mono ?_
        rintro e w8 ⟨A4, k4, xs', m4, E4, rfl, hE4, hk4, hxs', hm4, hrx', hb8⟩
        obtain rfl : E4 = E3 := by rw [hE4, HE3.out]
        obtain rfl : xs' = xs := by rw [hxs', HXS.out]
        obtain rfl : m4 = m3 := by have h1 := hrx'.1; have h2 := HX7.out.1; simp at h1 h2; omega
        have HB8 := Lib.hid (bnext HB7.out hb8); have HX8 := Lib.hid (HX7.out.past hb8); have HX8' := Lib.hid hrx'
        clear d0 d1 d2 d3 hb8 hrx' hE4 hxs'
        dsimp only
        go_wp2_with fail
        refine (Bools_eq A3 A4 m4 k3 k4 xs' _ (by omega) HX8.out HX8'.out).mono ?_
        rintro e w10 ⟨rfl, hq7⟩
        have HQ7 := Lib.hid hq7
        clear hq7
        go_wp2_with fail
        refine (works_any _).mono ?_
        rintro e w9 ⟨rfl, hb9⟩
        have HB9 := Lib.hid (bnext (bnext HB8.out (HQ7.out.below _)) hb9)
        clear hb9
        go_wp2_with fail
        go_ret
        exact ⟨rfl, HB9.out⟩
#print axioms ReconcileCodes_walk
end Go.Proofs.Ytfinjdkcgmepfaa
