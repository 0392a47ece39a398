/- The contracts of the document's Matrix and Syndrome. Conditions: as each statement says. -/
import Derived.Test.YtfinjdkcgmepfaaCode2
import Derived.Test.YtfinjdkcgmepfaaSorted
import Derived.Test.YtfinjdkcgmepfaaDrawMath
import Derived.Test.YtfinjdkcgmepfaaOpen
namespace Go.Proofs.Ytfinjdkcgmepfaa
open Go.RowKit
set_option linter.unusedVariables false
/-- The document's draws. -/
def RDrawAt (w : World) (H S : Nat) : Prop := w.heap[H]? = some (.cells #[.int .u64 S] 86 (0, 0)) ∧ S < two64
/-- What the document's Sample returns. -/
def RSampP (H S C D : Nat) (w : World) (e : Ending) (w' : World) : Prop := ∃ A c X T, e = .returned (.tuple #[.slice A D c, .int .i64 0]) ∧ X = sampL S C D ∧ T = permS S C ∧ T < two64 ∧ D ≤ c ∧ w'.ownsRow w.heap.size 3 1 (.slice A D c) D (X.map (Value.int .i64)) ∧ Upd w.heap.size H T w w' ∧ RDrawAt w' H T
set_option maxHeartbeats 1000000 in
theorem refSampleD_any (H S C D : Nat) (w : World) (hd : RDrawAt w H S) (hC : C ≤ 65536) (hD : D ≤ C) :
    Calls Try.prog 28 #[.pointer (some ⟨H, 0, none⟩), .int .i64 C, .int .i64 D] w (RSampP H S C D w) := by
  obtain ⟨hb, hs⟩ := hd
  have c0 : w.cell? ⟨H, 0, none⟩ = some (.int .u64 S) := by rw [cell_of_row _ _ _ _ _ _ hb]; rfl
  have hlt := (Array.getElem?_eq_some_iff.1 hb).1
  have j1 : ¬ ((C : Int) < 0) := by omega
  have j2 : ¬ ((65536 : Int) < (C : Int)) := by omega
  have j3 : ¬ ((D : Int) < 0) := by omega
  have j4 : ¬ ((C : Int) < (D : Int)) := by omega
  have HB := Lib.hid hb; have HT := Lib.hid (permS_lt S C hs)
  clear hb
  go_enter Try.func28, Try.ntmps28
  go_wp2_with fail
  refine (refSample_any S C D _ hs hC hD).mono ?_
  rintro e w1 ⟨A, c, rfl, hc, hown, hb1⟩
  dsimp only
  have c1 : w1.heap[H]? = some (.cells #[.int .u64 S] 86 (0, 0)) := (hb1.block _ hlt).trans HB.out
  have d0 : w1.cell? ⟨H, 0, none⟩ = some (.int .u64 S) := by rw [cell_of_row _ _ _ _ _ _ c1]; rfl
  have f0 : w1.frozen? ⟨H, 0, none⟩ = false := by simp [World.frozen?, c1]
  obtain ⟨T, hT⟩ : ∃ T, T = permS S C := ⟨_, rfl⟩
  obtain ⟨X, hX⟩ : ∃ X, X = sampL S C D := ⟨_, rfl⟩
  rw [← hT] at HT ⊢
  rw [← hX] at hown
  have HTE := Lib.hid hT; have HXE := Lib.hid hX
  have HO := Lib.hid hown; have HB1 := Lib.hid hb1; have HC1 := Lib.hid c1
  clear hown hb1 c1 hT hX
  go_wp2_with fail
  go_ret2
  refine ⟨A, c, X, T, rfl, HXE.out, HTE.out, HT.out, hc, ?_, ?_, ?_, HT.out⟩
  · refine ownsRow_setCell_other HO.out ?_ _
    intro e
    have := (HO.out.lt H e).1
    omega
  · exact Below.setBoth HB1.out _ _
  · have := blk_setR (o := 0) HC1.out (.int .u64 (T : Nat))
    rw [this]; rfl
theorem cell_heap {w w' : World} {b : Nat} (h : w'.heap[b]? = w.heap[b]?) (o : Nat) : w'.cell? ⟨b, o, none⟩ = w.cell? ⟨b, o, none⟩ := by simp [World.cell?, h]
theorem RDrawAt.lt {w : World} {H S : Nat} (h : RDrawAt w H S) : H < w.heap.size := (Array.getElem?_eq_some_iff.1 h.1).1
theorem RDrawAt.at {w w' : World} {H S : Nat} (h : RDrawAt w H S) (e : w'.heap[H]? = w.heap[H]?) : RDrawAt w' H S := ⟨e.trans h.1, h.2⟩
theorem MatAt.upd {w w' : World} {B g C H T : Nat} {vs : List Value} {rows : List (List Int)} (h : MatAt w B g C vs rows) (hu : Upd w.heap.size H T w w') (hH : H < B) (hne : g ≠ H) : MatAt w' B g C vs rows :=
  ⟨(hu.heap h.gl hne).trans h.blk, h.len, fun i v r hv hr => ownsRow_upd (h.row i v r hv hr) hu hH, h.apart⟩
/-- What holds at each round of the document's Matrix. -/
structure RmI (w0 w : World) (H g N C D s S : Nat) (vs : List Value) (rows : List (List Int)) : Prop where
  bl : Below w0.heap.size w0 w
  cd : CodeAt w w0.heap.size N C D s
  dr : RDrawAt w H S
  mt : MatAt w (g + 1) g C vs rows
theorem RmI.q {w0 w w' : World} {H g N C D s S : Nat} {vs : List Value} {rows : List (List Int)} (h : RmI w0 w H g N C D s S vs rows) (hq : Qw w w') : RmI w0 w' H g N C D s S vs rows :=
  ⟨h.bl.trans (hq.below _), h.cd.q hq, h.dr.at (by rw [hq.heap]), by
    obtain ⟨d, rfl⟩ := hq
    exact ⟨h.mt.blk, h.mt.len, h.mt.row, h.mt.apart⟩⟩
theorem RmI.samp {w0 w w' : World} {H g N C D s S T : Nat} {vs : List Value} {rows : List (List Int)} (h : RmI w0 w H g N C D s S vs rows) (h0 : w0.heap.size < H) (hg : H < g) (hu : Upd w.heap.size H T w w') (hd : RDrawAt w' H T) : RmI w0 w' H g N C D s T vs rows :=
  ⟨h.bl.trans (hu.to (Nat.le_of_lt h0) h.bl.size), ⟨(hu.heap h.cd.lt (by omega)).trans h.cd.blk⟩, hd, h.mt.upd hu (by omega) (by omega)⟩
theorem RmI.step {w0 w w1 : World} {H g N C D s S k n K : Nat} {vs : List Value} {rows : List (List Int)} {v v' : Value} {r : List Int} {x : Int} (h : RmI w0 w H g N C D s S vs rows) (h0 : w0.heap.size < H) (hHg : H < g) (hv : vs[k]? = some v) (hr : rows[k]? = some r) (hn : n = r.length + 1)
    (hown : w1.ownsRow (g + 1) 3 1 v' n (r.map (Value.int .i64) ++ [.int .i64 x])) (hb : Below (g + 1) w w1) (hg : w.grownBy w1 v.ownBlock) (hl : Lies v v' K) (hK : w.heap.size ≤ K) :
    RmI w0 (w1.setCell ⟨g, k, none⟩ v') H g N C D s S (vs.set k v') (rows.set k (r ++ [x])) :=
  ⟨(h.bl.trans (hb.mono (by omega))).setCell (p := ⟨g, k, none⟩) (by simp only; omega) _,
    ⟨(Below.heap_setCell _ _ _ _ (by simp only; omega)).trans ((hb.block _ (by omega)).trans h.cd.blk)⟩,
    h.dr.at ((Below.heap_setCell _ _ _ _ (by simp only; omega)).trans (hb.block _ (by omega))), h.mt.push hv hr hn hown hg hl hK⟩
/-- A block that no row lies in stays as it is. -/
structure Off (w1 w : World) (g b : Nat) (vs : List Value) : Prop where
  lt : b < w1.heap.size ∧ w1.heap.size ≤ w.heap.size
  gb : g < b
  kp : w.heap[b]? = w1.heap[b]?
  ne : ∀ (i : Nat) (v : Value), vs[i]? = some v → v.ownBlock ≠ some b
theorem Off.q {w1 w w' : World} {g b : Nat} {vs : List Value} (h : Off w1 w g b vs) (hq : Qw w w') : Off w1 w' g b vs :=
  ⟨⟨h.lt.1, by rw [hq.heap]; exact h.lt.2⟩, h.gb, by rw [hq.heap]; exact h.kp, h.ne⟩
theorem Off.step {w1 w w2 : World} {g b k K : Nat} {vs : List Value} {v v' : Value} (h : Off w1 w g b vs) (hv : vs[k]? = some v) (hg : w.grownBy w2 v.ownBlock) (hl : Lies v v' K) (hK : w.heap.size ≤ K) : Off w1 (w2.setCell ⟨g, k, none⟩ v') g b (vs.set k v') where
  lt := ⟨h.lt.1, by rw [size_setCell]; exact Nat.le_trans h.lt.2 hg.size⟩
  gb := h.gb
  kp := (Below.heap_setCell _ _ _ _ (by have := h.gb; simp only; omega)).trans ((hg.block b (Nat.lt_of_lt_of_le h.lt.1 h.lt.2) (fun e => h.ne k v hv e.symm)).trans h.kp)
  ne := fun i u hu => by
    rw [List.getElem?_set] at hu
    by_cases e : k = i
    · subst e
      rw [if_pos rfl] at hu
      split at hu
      · simp only [Option.some.injEq] at hu
        subst hu
        rcases hl with e | e
        · rw [e]; exact h.ne k v hv
        · rw [e]; intro e2; injection e2 with e2; have := h.lt; omega
      · cases hu
    · rw [if_neg e] at hu; exact h.ne i u hu
set_option maxRecDepth 100000 in
set_option maxHeartbeats 4000000 in
theorem refMatrix_ok (N C D s : Nat) (w : World) (h0 : codeE N C D = 0) (hs : s < two64) :
    Calls Try.prog 15 #[codV N C D s] w (MatP N C D s w) := by
  obtain ⟨h1, h2, h3, h4, h5, h6, h7⟩ := codeE_ok.1 h0
  have hmk := fun w => make_ll w C (by omega)
  have HM := Lib.hid (colsL_mem (C := C) (D := D) (s := s) (n := N) (by omega))
  have H0 := Lib.hid h0; have HS := Lib.hid hs
  clear h0 hs
  go_enter Try.func15, Try.ntmps15
  go_wp2_with fail
  refine (refCheckCode_ex _ _ _ _ _).mono ?_
  rintro e w1 ⟨⟨E, hE, rfl⟩, hb⟩
  obtain rfl : E = 0 := by rw [hE]; exact H0.out
  have hcc := (CodeAt.new w N C D s).below hb (Nat.le_refl _)
  have HB : Hid (Below w.heap.size w w1) := Lib.hid (((Below.refl _ _).alloc (Nat.le_refl _) _).trans (hb.mono (by simp)))
  have c0 := hcc.c0; have c1 := hcc.c1; have c2 := hcc.c2; have c3 := hcc.c3
  have HCC := Lib.hid hcc
  clear hb hcc hE
  go_wp2_with fail
  refine (refNewD_any s _).mono ?_
  rintro e w2 ⟨rfl, rfl⟩
  have hcc := HCC.out.past ((Below.refl w1.heap.size w1).alloc (Nat.le_refl _) (.cells #[.int .u64 s] 86)) HCC.out.lt
  have c0 := hcc.c0; have c1 := hcc.c1; have c2 := hcc.c2; have c3 := hcc.c3
  obtain ⟨H, hH⟩ : ∃ H, H = w1.heap.size := ⟨_, rfl⟩
  have hI : RmI w ((w1.alloc (.cells #[.int .u64 s] 86)).alloc (.cells (Array.replicate C (.slice none 0 0)) 38)) H (H + 1) N C D s s (List.replicate C (.slice none 0 0)) (List.replicate C []) := by
    have hal := (Below.refl (w1.alloc (.cells #[.int .u64 s] 86)).heap.size (w1.alloc (.cells #[.int .u64 s] 86))).alloc (Nat.le_refl _) (.cells (Array.replicate C (.slice none 0 0)) 38)
    refine ⟨(HB.out.alloc HB.out.size _).alloc (by have := HB.out.size; simp; omega) _, hcc.past hal hcc.lt, ⟨?_, HS.out⟩, MatAt.start ?_⟩
    · rw [hH, hal.block _ (by simp), heap_alloc_new]
    · have := heap_alloc_new (w1.alloc (.cells #[.int .u64 s] 86)) (.cells (Array.replicate C (.slice none 0 0)) 38)
      rw [hH]; simpa using this
  have hwH : w.heap.size < H := by rw [hH]; exact HCC.out.lt
  have HI := Lib.hid hI; have HWH := Lib.hid hwH
  clear hI hcc hwH
  go_wp2_with fail
  clear hmk c0 c1 c2 c3
  rw [← hH]
  clear hH
  generalize (w1.alloc (.cells #[.int .u64 s] 86)).alloc (.cells (Array.replicate C (.slice none 0 0)) 38) = w3 at HI ⊢
  go_loopw [6] (fun i wr => ∃ (k S : Nat) (vs : List Value) (rows : List (List Int)), k ≤ N ∧ i = .int .i64 k ∧ S = stP C s k ∧ rows = matL C (colsL C D s k) ∧ RmI w wr H (H + 1) N C D s S vs rows) (fun i _ => N - (intOf i).toNat)
  case atStart => exact ⟨0, s, _, _, Nat.zero_le _, rfl, rfl, rfl, HI.out⟩
  case round =>
    obtain ⟨k, S, vs, rows, hk, rfl, hS, hrows, hI⟩ := hrel
    obtain ⟨wa, rfl⟩ : ∃ z : World, z = wr := ⟨_, rfl⟩
    have HI1 := Lib.hid hI; have HR := Lib.hid hrows; have HSS := Lib.hid hS
    have c0 := hI.cd.c0; have c1 := hI.cd.c1; have c2 := hI.cd.c2
    clear hI hrows HI hS
    by_cases hlt : k < N
    · have hki : (k : Int) < (N : Int) := by omega
      go_wp2_with fail
      refine (refSampleD_any H S C D _ HI1.out.dr (by omega) (by omega)).mono ?_
      rintro e w4 ⟨A, c, l, T, rfl, hX, hT, hT2, hcc, hown, hu, hd⟩
      have hI4 := HI1.out.samp HWH.out (Nat.lt_succ_self _) hu hd
      have hgb : ∀ (i : Nat) (v : Value), vs[i]? = some v → ∀ b, v.ownBlock = some b → b < wa.heap.size := fun i v hv b hb => by
        have hi : i < rows.length := by rw [HI1.out.mt.len.2, ← HI1.out.mt.len.1]; exact (List.getElem?_eq_some_iff.1 hv).1
        exact ((HI1.out.mt.row i v _ hv (List.getElem?_eq_getElem hi)).lt b hb).2
      obtain ⟨b3, c3, hvb⟩ := own_head hown (by omega)
      injection hvb with hA _ hc3
      subst hA; subst hc3
      have hb3 := hown.lt b3 rfl
      have hgw := HI1.out.mt.gl
      have HOFF : Hid (Off w4 w4 (H + 1) b3 vs) := Lib.hid ⟨⟨hb3.2, Nat.le_refl _⟩, by omega, rfl, fun i v hv e => by have := hgb i v hv _ e; omega⟩
      have HLL : Hid (l.length = D) := Lib.hid (by rw [hX]; exact sampL_len _ _ _ (by omega))
      have HLM : Hid (∀ x ∈ l, 0 ≤ x ∧ x < C) := Lib.hid (by rw [hX]; exact fun x hx => sampL_mem hx)
      have HST : Hid (matL C (colsL C D s (k + 1)) = addCol k rows l) := Lib.hid (by rw [colsL_snoc, matL_snoc, colsL_len, ← HR.out, hX, HSS.out])
      have HTS : Hid (T = stP C s (k + 1)) := Lib.hid (by rw [hT, HSS.out]; rfl)
      have HOWN := Lib.hid hown; have HI4 := Lib.hid hI4
      have HSH : Hid (∀ r ∈ rows, r.length ≤ 512 * 4) := Lib.hid (fun r hr => by
        have h1 := matL_short C 4 (colsL C D s k) (fun l hl => by have := (colsL_mem (by omega) l hl).1; omega)
        rw [← HR.out, colsL_len] at h1
        have h2 := h1 r hr
        omega)
      clear hX hT hT2 hcc hown hu hd hI4 hgb hb3 hgw c0 c1 c2
      go_wp2_with fail
      go_loopw [9] (fun i wr => ∃ (j : Nat) (vs2 : List Value) (rows2 : List (List Int)), j ≤ D ∧ i = .int .i64 j ∧ rows2 = addCol k rows (l.take j) ∧ RmI w wr H (H + 1) N C D s T vs2 rows2 ∧ Off w4 wr (H + 1) b3 vs2) (fun i _ => D - (intOf i).toNat)
      case atStart => exact ⟨0, vs, rows, Nat.zero_le _, rfl, rfl, HI4.out, HOFF.out⟩
      case round =>
        obtain ⟨j, vs2, rows2, hj, rfl, hrows2, hI, hoff⟩ := hrel
        obtain ⟨wb, rfl⟩ : ∃ z : World, z = wr := ⟨_, rfl⟩
        have HR2 := Lib.hid hrows2
        have HI2 := Lib.hid (hI.q (w' := wb.drew) ⟨1, rfl⟩); have HF2 := Lib.hid (hoff.q (w' := wb.drew) ⟨1, rfl⟩)
        have HI3 := Lib.hid hI; have HF3 := Lib.hid hoff
        clear hI hrows2 hoff
        by_cases hlj : j < D
        · have hji : (j : Int) < (D : Int) := by omega
          have hjl : j < l.length := by rw [HLL.out]; exact hlj
          have hx : wb.cell? ⟨b3, 0 + j, none⟩ = some (.int .i64 l[j]) := by
            rw [cell_heap HF3.out.kp, Nat.zero_add, HOWN.out.cellAt j (by omega), List.getElem?_map, List.getElem?_eq_getElem hjl]; rfl
          have hxr := HLM.out _ (List.getElem_mem hjl)
          have HS3 : Hid (addCol k rows (l.take (j + 1)) = addM k rows2 l[j]) := Lib.hid (by rw [take_snoc _ _ hjl, addCol_snoc, HR2.out])
          generalize l[j] = x at hx hxr HS3
          obtain ⟨q, rfl⟩ := Int.eq_ofNat_of_zero_le hxr.1
          have hq : q < C := by omega
          have hqi : (q : Int) < (C : Int) := hxr.2
          rw [Nat.zero_add] at hx
          obtain ⟨v, hv, hcv, hov, hrv⟩ := HI3.out.mt.cell hq
          have hrl : (rows2.getD q []).length ≤ 1000000 := by
            have h2 := addCol_short (i := k) (l.take j) HSH.out
            rw [← HR2.out] at h2
            have h4 : (l.take j).length ≤ 4 := by rw [List.length_take]; omega
            rw [List.getD_eq_getElem?_getD, hrv]
            have h5 := h2 _ (List.mem_of_getElem? hrv)
            simp only [Option.getD_some]
            omega
          obtain ⟨Av, cv, rfl, hcv2⟩ := own_form hov
          have hb3l : b3 < wb.heap.size := Nat.lt_of_lt_of_le HF3.out.lt.1 HF3.out.lt.2
          have hbg : b3 ≠ H + 1 := by have := HF3.out.gb; omega
          have hgl := HI3.out.mt.gl
          have HOV := Lib.hid hov; have HV := Lib.hid hv; have HRV := Lib.hid hrv; have HX := Lib.hid hx
          clear hov hv hrv hxr
          go_wp2_with fail
          refine wp_region_held_drew (S := fun w' => w'.cell? ⟨b3, j, none⟩ = some (.int .i64 (q : Int))) (by kernel_rfl) ?_ (fun hHeld => ?_)
          · (try dsimp only); first | exact HX.out | exact (World.cell?_alloc_lt _ _ _ hb3l).trans HX.out | exact hx8 | (exact (World.cell?_setCell_other _ _ _ _ (fun e => hbg (congrArg Addr.block e).symm)).trans hx8)
          refine wpAnyH_take (i := 0) (oi := ⟨some 40, _, _, _, _, _⟩) (v := ?_) rfl (by kernel_rfl) (by kernel_rfl) (by kernel_rfl) (fun _ _ _ h => h) (Or.inl ⟨by rfl, ?_⟩) (by assumption) ?_
          rotate_left
          · (intro w hSw; (try dsimp only at hSw); go_simp; try with_reducible rfl)
          try simp only [Act.put, List.setIfInBounds_toArray, List.set_cons_zero, List.set_cons_succ]
          refine wpAnyH_take (i := 1) (oi := ⟨some 41, _, _, _, _, _⟩) (v := ?_) rfl (by kernel_rfl) (by kernel_rfl) (by kernel_rfl) (fun _ _ _ h => h) (Or.inl ⟨by rfl, ?_⟩) (by assumption) ?_
          rotate_left
          · (intro w hSw; (try dsimp only at hSw); go_simp; try with_reducible rfl)
          try simp only [Act.put, List.setIfInBounds_toArray, List.set_cons_zero, List.set_cons_succ]
          refine wpAnyH_take (i := 2) (oi := ⟨some 42, _, _, _, _, _⟩) (v := ?_) rfl (by kernel_rfl) (by kernel_rfl) (by kernel_rfl) (fun _ _ _ h => h) (Or.inl ⟨by rfl, ?_⟩) (by assumption) ?_
          rotate_left
          · (intro w hSw; (try dsimp only at hSw); go_simp; try with_reducible rfl)
          try simp only [Act.put, List.setIfInBounds_toArray, List.set_cons_zero, List.set_cons_succ]
          refine wpAnyH_take (i := 3) (oi := ⟨some 43, _, _, _, _, _⟩) (v := ?_) rfl (by kernel_rfl) (by kernel_rfl) (by kernel_rfl) (fun _ _ _ h => h) (Or.inl ⟨by rfl, ?_⟩) (by assumption) ?_
          rotate_left
          · (intro w hSw; (try dsimp only at hSw); go_simp; try with_reducible rfl)
          try simp only [Act.put, List.setIfInBounds_toArray, List.set_cons_zero, List.set_cons_succ]
          refine wpAnyH_take (i := 4) (oi := ⟨some 44, _, _, _, _, _⟩) (v := .int .i64 (q : Int)) rfl (by kernel_rfl) (by kernel_rfl) (by kernel_rfl) (fun _ _ _ h => h) (Or.inl ⟨by rfl, ?_⟩) (by assumption) ?_
          · (intro w hSw; (try dsimp only at hSw); have hq := hSw; go_simp)
          try simp only [Act.put, List.setIfInBounds_toArray, List.set_cons_zero, List.set_cons_succ]
          refine wpAnyH_take (i := 5) (oi := ⟨some 45, _, _, _, _, _⟩) (v := ?_) rfl (by kernel_rfl) (by kernel_rfl) (by kernel_rfl) (fun _ _ _ h => h) (Or.inl ⟨by rfl, ?_⟩) (by assumption) ?_
          rotate_left
          · (intro w hSw; (try dsimp only at hSw); go_simp; try with_reducible rfl)
          try simp only [Act.put, List.setIfInBounds_toArray, List.set_cons_zero, List.set_cons_succ]
          refine wpAnyH_take (i := 6) (oi := ⟨some 46, _, _, _, _, _⟩) (v := ?_) rfl (by kernel_rfl) (by kernel_rfl) (by kernel_rfl) (fun _ _ _ h => h) (Or.inl ⟨by rfl, ?_⟩) (by assumption) ?_
          rotate_left
          · (intro w hSw; (try dsimp only at hSw); go_simp; try with_reducible rfl)
          try simp only [Act.put, List.setIfInBounds_toArray, List.set_cons_zero, List.set_cons_succ]
          refine wpAnyH_take (i := 7) (oi := ⟨some 47, _, _, _, _, _⟩) (v := ?_) rfl (by kernel_rfl) (by kernel_rfl) (by kernel_rfl) (fun _ _ _ h => h) (Or.inl ⟨by rfl, ?_⟩) (by assumption) ?_
          rotate_left
          · (intro w hSw; (try dsimp only at hSw); go_simp; try with_reducible rfl)
          try simp only [Act.put, List.setIfInBounds_toArray, List.set_cons_zero, List.set_cons_succ]
          refine wpAnyH_take (i := 8) (oi := ⟨some 48, _, _, _, _, _⟩) (v := ?_) rfl (by kernel_rfl) (by kernel_rfl) (by kernel_rfl) (fun _ _ _ h => h) (Or.inl ⟨by rfl, ?_⟩) (by assumption) ?_
          rotate_left
          · (intro w hSw; (try dsimp only at hSw); go_simp; try with_reducible rfl)
          try simp only [Act.put, List.setIfInBounds_toArray, List.set_cons_zero, List.set_cons_succ]
          refine wpAnyH_take (i := 9) (oi := ⟨some 49, _, _, _, _, _⟩) (v := .int .i64 (q : Int)) rfl (by kernel_rfl) (by kernel_rfl) (by kernel_rfl) (fun _ _ _ h => h) (Or.inl ⟨by rfl, ?_⟩) (by assumption) ?_
          · (intro w hSw; (try dsimp only at hSw); have hq := hSw; go_simp)
          try simp only [Act.put, List.setIfInBounds_toArray, List.set_cons_zero, List.set_cons_succ]
          refine wpAnyH_take (i := 10) (oi := ⟨some 50, _, _, _, _, _⟩) (v := ?_) rfl (by kernel_rfl) (by kernel_rfl) (by kernel_rfl) (fun _ _ _ h => h) (Or.inl ⟨by rfl, ?_⟩) (by assumption) ?_
          rotate_left
          · (intro w hSw; (try dsimp only at hSw); go_simp; try with_reducible rfl)
          try simp only [Act.put, List.setIfInBounds_toArray, List.set_cons_zero, List.set_cons_succ]
          refine wpAnyH_take (i := 12) (oi := ⟨some 52, _, _, _, _, _⟩) (v := ?_) rfl (by kernel_rfl) (by kernel_rfl) (by kernel_rfl) (fun _ _ _ h => h) (Or.inl ⟨by rfl, ?_⟩) (by assumption) ?_
          rotate_left
          · (intro w hSw; (try dsimp only at hSw); go_simp; try with_reducible rfl)
          try simp only [Act.put, List.setIfInBounds_toArray, List.set_cons_zero, List.set_cons_succ]
          refine wpAnyH_ready (rs := [11, 13]) (by kernel_rfl) (by simp) ?_
          refine AllReadyH.cons (o := ⟨some 51, _, _, _, _, _⟩) rfl (fun K hK => ?_) ?_
          · skip
            go_simp
            refine hK.out _ _ ?_ (fun hHeld => ?_)
            · (try dsimp only); first | exact HX.out | exact (World.cell?_alloc_lt _ _ _ hb3l).trans HX.out | exact hx8 | (exact (World.cell?_setCell_other _ _ _ _ (fun e => hbg (congrArg Addr.block e).symm)).trans hx8)
            clear hK K
            try simp only [Act.put, List.setIfInBounds_toArray, List.set_cons_zero, List.set_cons_succ]
            refine wpAnyH_ready (rs := [13]) (by kernel_rfl) (by simp) ?_
            refine AllReadyH.cons (o := ⟨some 53, _, _, _, _, _⟩) rfl (fun K hK => ?_) AllReadyH.nil
            go_simp
            refine hK.out _ _ ?_ (fun hHeld => ?_)
            · (try dsimp only); first | exact HX.out | exact (World.cell?_alloc_lt _ _ _ hb3l).trans HX.out | exact hx8 | (exact (World.cell?_setCell_other _ _ _ _ (fun e => hbg (congrArg Addr.block e).symm)).trans hx8)
            clear hK K
            try simp only [Act.put, List.setIfInBounds_toArray, List.set_cons_zero, List.set_cons_succ]
            refine wpAnyH_ready (rs := [14]) (by kernel_rfl) (by simp) ?_
            refine AllReadyH.cons (o := ⟨some 54, _, _, _, _, _⟩) rfl (fun K hK => ?_) AllReadyH.nil
            refine step_pushL elB_i5 (.tmp 51) (.tmp 53) (by rfl) (by rfl) (H + 1 + 1) _ _ (by rfl) HOV.out.drew (by rfl) (by rfl) (one_cell1 rfl) (by omega) (by decide) (by simp; omega) ?_
            intro v8 w8 hown8 hb8 hg8 hL8
            obtain ⟨A8, d8, rfl, hd8⟩ := own_form hown8
            have hk8 : w8.heap[H + 1]? = _ := (hg8.block (H + 1) HI2.out.mt.gl (fun e => HI2.out.mt.other HV.out e.symm)).trans HI2.out.mt.blk
            have f8 : w8.frozen? ⟨H + 1, q, none⟩ = false := frozen_of_row _ _ _ _ _ hk8
            have c8 := (cell_of_row _ _ _ _ _ _ hk8 : w8.cell? ⟨H + 1, q, none⟩ = _)
            rw [List.getElem?_toArray, HV.out] at c8
            have HS8 := Lib.hid (HI2.out.step HWH.out (Nat.lt_succ_self _) HV.out HRV.out rfl hown8 hb8 hg8 hL8 (Nat.le_succ _))
            have HF8 := Lib.hid (HF2.out.step HV.out hg8 hL8 (Nat.le_succ _))
            have hx8 := (cell_heap (hg8.block b3 hb3l (fun e => HF2.out.ne _ _ HV.out e.symm)) j).trans HX.out
            refine hK.out _ _ ?_ (fun hHeld => ?_)
            · (try dsimp only); first | exact HX.out | exact (World.cell?_alloc_lt _ _ _ hb3l).trans HX.out | exact hx8 | (exact (World.cell?_setCell_other _ _ _ _ (fun e => hbg (congrArg Addr.block e).symm)).trans hx8)
            clear hK K
            try simp only [Act.put, List.setIfInBounds_toArray, List.set_cons_zero, List.set_cons_succ]
            refine wpAnyH_take (i := 15) (oi := ⟨some 55, _, _, _, _, _⟩) (v := ?_) rfl (by kernel_rfl) (by kernel_rfl) (by kernel_rfl) (fun _ _ _ h => h) (Or.inl ⟨by rfl, ?_⟩) (by assumption) ?_
            rotate_left
            · (intro w hSw; (try dsimp only at hSw); go_simp; try with_reducible rfl)
            try simp only [Act.put, List.setIfInBounds_toArray, List.set_cons_zero, List.set_cons_succ]
            refine wpAnyH_ready (rs := [16]) (by kernel_rfl) (by simp) ?_
            refine AllReadyH.cons (o := ⟨none, _, _, _, _, _⟩) rfl (fun K hK => ?_) AllReadyH.nil
            go_simp
            refine hK.out _ _ ?_ (fun hHeld => ?_)
            · (try dsimp only); first | exact HX.out | exact (World.cell?_alloc_lt _ _ _ hb3l).trans HX.out | exact hx8 | (exact (World.cell?_setCell_other _ _ _ _ (fun e => hbg (congrArg Addr.block e).symm)).trans hx8)
            clear hK K
            try simp only [Act.put, List.setIfInBounds_toArray, List.set_cons_zero, List.set_cons_succ]
            refine wpAnyH_done (by kernel_rfl) ?_ _
            go_wp2_with fail
            go_roundw
            case rel => exact ⟨j + 1, _, _, hlj, by go_num, by rw [HS3.out]; rfl, HS8.out, HF8.out⟩
            case measure => simp [intOf]; omega
          refine AllReadyH.cons (o := ⟨some 53, _, _, _, _, _⟩) rfl (fun K hK => ?_) AllReadyH.nil
          go_simp
          refine hK.out _ _ ?_ (fun hHeld => ?_)
          · (try dsimp only); first | exact HX.out | exact (World.cell?_alloc_lt _ _ _ hb3l).trans HX.out | exact hx8 | (exact (World.cell?_setCell_other _ _ _ _ (fun e => hbg (congrArg Addr.block e).symm)).trans hx8)
          clear hK K
          try simp only [Act.put, List.setIfInBounds_toArray, List.set_cons_zero, List.set_cons_succ]
          refine wpAnyH_ready (rs := [11]) (by kernel_rfl) (by simp) ?_
          refine AllReadyH.cons (o := ⟨some 51, _, _, _, _, _⟩) rfl (fun K hK => ?_) AllReadyH.nil
          go_simp
          refine hK.out _ _ ?_ (fun hHeld => ?_)
          · (try dsimp only); first | exact HX.out | exact (World.cell?_alloc_lt _ _ _ hb3l).trans HX.out | exact hx8 | (exact (World.cell?_setCell_other _ _ _ _ (fun e => hbg (congrArg Addr.block e).symm)).trans hx8)
          clear hK K
          try simp only [Act.put, List.setIfInBounds_toArray, List.set_cons_zero, List.set_cons_succ]
          refine wpAnyH_ready (rs := [14]) (by kernel_rfl) (by simp) ?_
          refine AllReadyH.cons (o := ⟨some 54, _, _, _, _, _⟩) rfl (fun K hK => ?_) AllReadyH.nil
          refine step_pushL elB_i5 (.tmp 51) (.tmp 53) (by rfl) (by rfl) (H + 1 + 1) _ _ (by rfl) HOV.out.drew (by rfl) (by rfl) (one_cell1 rfl) (by omega) (by decide) (by simp; omega) ?_
          intro v8 w8 hown8 hb8 hg8 hL8
          obtain ⟨A8, d8, rfl, hd8⟩ := own_form hown8
          have hk8 : w8.heap[H + 1]? = _ := (hg8.block (H + 1) HI2.out.mt.gl (fun e => HI2.out.mt.other HV.out e.symm)).trans HI2.out.mt.blk
          have f8 : w8.frozen? ⟨H + 1, q, none⟩ = false := frozen_of_row _ _ _ _ _ hk8
          have c8 := (cell_of_row _ _ _ _ _ _ hk8 : w8.cell? ⟨H + 1, q, none⟩ = _)
          rw [List.getElem?_toArray, HV.out] at c8
          have HS8 := Lib.hid (HI2.out.step HWH.out (Nat.lt_succ_self _) HV.out HRV.out rfl hown8 hb8 hg8 hL8 (Nat.le_succ _))
          have HF8 := Lib.hid (HF2.out.step HV.out hg8 hL8 (Nat.le_succ _))
          have hx8 := (cell_heap (hg8.block b3 hb3l (fun e => HF2.out.ne _ _ HV.out e.symm)) j).trans HX.out
          refine hK.out _ _ ?_ (fun hHeld => ?_)
          · (try dsimp only); first | exact HX.out | exact (World.cell?_alloc_lt _ _ _ hb3l).trans HX.out | exact hx8 | (exact (World.cell?_setCell_other _ _ _ _ (fun e => hbg (congrArg Addr.block e).symm)).trans hx8)
          clear hK K
          try simp only [Act.put, List.setIfInBounds_toArray, List.set_cons_zero, List.set_cons_succ]
          refine wpAnyH_take (i := 15) (oi := ⟨some 55, _, _, _, _, _⟩) (v := ?_) rfl (by kernel_rfl) (by kernel_rfl) (by kernel_rfl) (fun _ _ _ h => h) (Or.inl ⟨by rfl, ?_⟩) (by assumption) ?_
          rotate_left
          · (intro w hSw; (try dsimp only at hSw); go_simp; try with_reducible rfl)
          try simp only [Act.put, List.setIfInBounds_toArray, List.set_cons_zero, List.set_cons_succ]
          refine wpAnyH_ready (rs := [16]) (by kernel_rfl) (by simp) ?_
          refine AllReadyH.cons (o := ⟨none, _, _, _, _, _⟩) rfl (fun K hK => ?_) AllReadyH.nil
          go_simp
          refine hK.out _ _ ?_ (fun hHeld => ?_)
          · (try dsimp only); first | exact HX.out | exact (World.cell?_alloc_lt _ _ _ hb3l).trans HX.out | exact hx8 | (exact (World.cell?_setCell_other _ _ _ _ (fun e => hbg (congrArg Addr.block e).symm)).trans hx8)
          clear hK K
          try simp only [Act.put, List.setIfInBounds_toArray, List.set_cons_zero, List.set_cons_succ]
          refine wpAnyH_done (by kernel_rfl) ?_ _
          go_wp2_with fail
          go_roundw
          case rel => exact ⟨j + 1, _, _, hlj, by go_num, by rw [HS3.out]; rfl, HS8.out, HF8.out⟩
          case measure => simp [intOf]; omega
        · have hji : ¬ (j : Int) < (D : Int) := by omega
          have HE : Hid (rows2 = matL C (colsL C D s (k + 1))) := Lib.hid (by rw [HST.out, HR2.out, List.take_of_length_le (by rw [HLL.out]; omega)])
          go_wp2_with fail
          go_roundw
          case rel => exact ⟨k + 1, T, _, _, hlt, by go_num, HTS.out, HE.out, HI3.out⟩
          case measure => simp [intOf]; omega
    · have hki : ¬ (k : Int) < (N : Int) := by omega
      obtain rfl : k = N := by omega
      go_wp2_with fail
      go_ret2
      exact ⟨_, _, rows, rfl, Nat.le_refl _, HR.out, (HI1.out.mt.LL (by omega)).low (by have := HWH.out; omega), HI1.out.bl⟩
#print axioms refMatrix_ok
end Go.Proofs.Ytfinjdkcgmepfaa
/- The contracts of the document's Syndrome, and of Matrix and Syndrome at any arguments. Conditions: as each statement says. -/
namespace Go.Proofs.Ytfinjdkcgmepfaa
open Go.RowKit
set_option linter.unusedVariables false
theorem elB_b5 : ElemB Try.prog 23 4 1 1 := ElemB.of Try.underlying23 info_bool rfl (by decide)
/-- What Matrix says at any arguments. -/
def MatX (N C D : Int) (s : Nat) : List (List Int) := if codeE N C D = 0 then matL C.toNat (colsL C.toNat D.toNat s N.toNat) else []
def MatQ (N C D : Int) (s : Nat) (w : World) (e : Ending) (w' : World) : Prop := ∃ A c rows n E, e = .returned (.tuple #[.slice A n c, .int .i64 E]) ∧ E = codeE N C D ∧ n ≤ c ∧ rows = MatX N C D s ∧ LL w' w.heap.size w'.heap.size A n rows ∧ Below w.heap.size w w'
theorem LL.none (w : World) (L B : Nat) (A : Option Addr) : LL w L B A 0 [] := ⟨rfl, fun i h => absurd h (by simp)⟩
theorem MatQ.of {N C D : Nat} {s : Nat} {w : World} {e : Ending} {w' : World} (h0 : codeE N C D = 0) (h : MatP N C D s w e w') : MatQ N C D s w e w' := by
  obtain ⟨A, c, rows, he, hc, hr, hl, hb⟩ := h
  exact ⟨A, c, rows, C, 0, he, h0.symm, hc, by rw [hr]; unfold MatX; rw [if_pos h0]; rfl, hl, hb⟩
theorem code_nat {N C D : Int} (h : codeE N C D = 0) : ∃ n c d : Nat, N = n ∧ C = c ∧ D = d := by
  obtain ⟨h1, h2, h3, h4, h5, h6, h7⟩ := codeE_ok.1 h
  obtain ⟨n, rfl⟩ := Int.eq_ofNat_of_zero_le (show 0 ≤ N by omega)
  obtain ⟨c, rfl⟩ := Int.eq_ofNat_of_zero_le (show 0 ≤ C by omega)
  obtain ⟨d, rfl⟩ := Int.eq_ofNat_of_zero_le (show 0 ≤ D by omega)
  exact ⟨n, c, d, rfl, rfl, rfl⟩
set_option maxHeartbeats 1000000 in
theorem Matrix_any (N C D : Int) (s : Nat) (w : World) (hs : s < two64) : Calls Try.prog 14 #[codV N C D s] w (MatQ N C D s w) := by
  by_cases h0 : codeE N C D = 0
  · obtain ⟨n, c, d, rfl, rfl, rfl⟩ := code_nat h0
    exact (Matrix_ok n c d s w h0 hs).mono fun e w' h => MatQ.of h0 h
  · have H0 := Lib.hid h0
    clear h0
    go_enter Try.func14, Try.ntmps14
    go_wp2_with fail
    refine (CheckCode_ex _ _ _ _ _).mono ?_
    rintro e w1 ⟨⟨E, hE, rfl⟩, hb⟩
    obtain rfl : E = 2 := by rw [hE]; exact codeE_ne H0.out
    have HE := Lib.hid hE
    have HB : Hid (Below w.heap.size w w1) := Lib.hid (((Below.refl _ _).alloc (Nat.le_refl _) _).trans (hb.mono (by simp)))
    clear hb hE
    go_wp2_with fail
    go_ret2
    exact ⟨_, _, [], 0, 2, rfl, HE.out, Nat.le_refl _, by unfold MatX; rw [if_neg H0.out], LL.none _ _ _ _, HB.out⟩
set_option maxHeartbeats 1000000 in
theorem refMatrix_any (N C D : Int) (s : Nat) (w : World) (hs : s < two64) : Calls Try.prog 15 #[codV N C D s] w (MatQ N C D s w) := by
  by_cases h0 : codeE N C D = 0
  · obtain ⟨n, c, d, rfl, rfl, rfl⟩ := code_nat h0
    exact (refMatrix_ok n c d s w h0 hs).mono fun e w' h => MatQ.of h0 h
  · have H0 := Lib.hid h0
    clear h0
    go_enter Try.func15, Try.ntmps15
    go_wp2_with fail
    refine (refCheckCode_ex _ _ _ _ _).mono ?_
    rintro e w1 ⟨⟨E, hE, rfl⟩, hb⟩
    obtain rfl : E = 2 := by rw [hE]; exact codeE_ne H0.out
    have HE := Lib.hid hE
    have HB : Hid (Below w.heap.size w w1) := Lib.hid (((Below.refl _ _).alloc (Nat.le_refl _) _).trans (hb.mono (by simp)))
    clear hb hE
    go_wp2_with fail
    go_ret2
    exact ⟨_, _, [], 0, 2, rfl, HE.out, Nat.le_refl _, by unfold MatX; rw [if_neg H0.out], LL.none _ _ _ _, HB.out⟩
/-- What Syndrome says at any arguments. -/
def synE (N C D : Int) (n : Nat) : Int := if codeE N C D ≠ 0 then 2 else if (n : Int) ≠ N then 22 else 0
def SynX (N C D : Int) (s : Nat) (bs : List Bool) : List Bool := if synE N C D bs.length = 0 then synL C.toNat bs (colsL C.toNat D.toNat s N.toNat) else []
def SynQ (N C D : Int) (s : Nat) (bs : List Bool) (w : World) (e : Ending) (w' : World) : Prop := ∃ A c xs n E, e = .returned (.tuple #[.slice A n c, .int .i64 E]) ∧ E = synE N C D bs.length ∧ n ≤ c ∧ xs = SynX N C D s bs ∧ n ≤ 512 ∧ w'.ownsRow w.heap.size 4 1 (.slice A n c) n (xs.map Value.bool) ∧ Below w.heap.size w w'
theorem SynQ.nil {N C D E : Int} {s : Nat} {bs : List Bool} {w w' : World} (hE : E = synE N C D bs.length) (h0 : E ≠ 0) (hb : Below w.heap.size w w') : SynQ N C D s bs w (.returned (.tuple #[.slice none 0 0, .int .i64 E])) w' :=
  ⟨none, 0, [], 0, E, rfl, hE, Nat.le_refl _, by unfold SynX; rw [if_neg (by rw [← hE]; exact h0)], by omega, World.ownsRow_nil _ _ _ _, hb⟩
set_option maxHeartbeats 1000000 in
theorem Syndrome_any (N C D : Int) (s : Nat) (A : Option Addr) (n c : Nat) (bs : List Bool) (w : World) (hs : s < two64) (h : Rd w w.heap.size 1 A n (bs.map Value.bool)) :
    Calls Try.prog 10 #[codV N C D s, .slice A n c] w (SynQ N C D s bs w) := by
  have hl : bs.length = n := by have := h.1; simpa using this
  by_cases h0 : codeE N C D = 0
  · by_cases h1 : (n : Int) = N
    · obtain ⟨n', c', d', rfl, rfl, rfl⟩ := code_nat h0
      obtain rfl : n = n' := by omega
      have hsy : synE n c' d' bs.length = 0 := by unfold synE; rw [if_neg (by simpa using h0), if_neg (by rw [hl]; simp)]
      have h2 := (codeE_ok.1 h0).2.2.2.1
      refine (Syndrome_ok n c' d' s A c bs w h0 hs h).mono fun e w' ⟨A2, c2, he, hc2, ho, hb⟩ => ?_
      exact ⟨A2, c2, _, c', 0, he, hsy.symm, hc2, by unfold SynX; rw [if_pos hsy]; rfl, by omega, ho, hb⟩
    · have HE : Hid ((22 : Int) = synE N C D bs.length) := Lib.hid (by unfold synE; rw [if_neg (by simpa using h0), if_pos (by rw [hl]; exact h1)])
      have g1 : ((n : Int) != N) = true := by simpa using h1
      have H0 := Lib.hid h0
      clear h0 h1 h hl
      go_enter Try.func10, Try.ntmps10
      go_wp2_with fail
      refine (CheckCode_ex _ _ _ _ _).mono ?_
      rintro e w1 ⟨⟨E, hE, rfl⟩, hb⟩
      obtain rfl : E = 0 := by rw [hE]; exact H0.out
      have HB : Hid (Below w.heap.size w w1) := Lib.hid (((Below.refl _ _).alloc (Nat.le_refl _) _).trans (hb.mono (by simp)))
      have c0 := ((CodeAt.new w N C D s).below hb (Nat.le_refl _)).c0
      clear hb hE
      go_wp2_with fail
      go_ret2
      exact SynQ.nil HE.out (by decide) HB.out
  · have HE : Hid ((2 : Int) = synE N C D bs.length) := Lib.hid (by unfold synE; rw [if_pos h0])
    have H0 := Lib.hid h0
    clear h0 h hl
    go_enter Try.func10, Try.ntmps10
    go_wp2_with fail
    refine (CheckCode_ex _ _ _ _ _).mono ?_
    rintro e w1 ⟨⟨E, hE, rfl⟩, hb⟩
    obtain rfl : E = 2 := by rw [hE]; exact codeE_ne H0.out
    have HB : Hid (Below w.heap.size w w1) := Lib.hid (((Below.refl _ _).alloc (Nat.le_refl _) _).trans (hb.mono (by simp)))
    clear hb hE
    go_wp2_with fail
    go_ret2
    exact SynQ.nil HE.out (by decide) HB.out
set_option maxRecDepth 100000 in
set_option maxHeartbeats 2000000 in
theorem refSyndrome_any (N C D : Int) (s : Nat) (A : Option Addr) (n c : Nat) (bs : List Bool) (w : World) (hs : s < two64) (hn : n ≤ 1073741824) (h : Rd w w.heap.size 1 A n (bs.map Value.bool)) :
    Calls Try.prog 17 #[codV N C D s, .slice A n c] w (SynQ N C D s bs w) := by
  have hl : bs.length = n := by have := h.1; simpa using this
  by_cases h0 : codeE N C D = 0
  · by_cases h1 : (n : Int) = N
    · obtain ⟨n', c', d', rfl, rfl, rfl⟩ := code_nat h0
      obtain rfl : n = n' := by omega
      have hsy : synE n c' d' bs.length = 0 := by unfold synE; rw [if_neg (by simpa using h0), if_neg (by rw [hl]; simp)]
      obtain ⟨k1, k2, k3, k4, k5, k6, k7⟩ := codeE_ok.1 h0
      have HSY := Lib.hid hsy; have H := Lib.hid h; have H0 := Lib.hid h0; have HL := Lib.hid hl
      clear hsy h h0 hl h1
      go_enter Try.func17, Try.ntmps17
      go_wp2_with fail
      refine (refMatrix_ok n c' d' s _ H0.out hs).mono ?_
      rintro e w1 ⟨A1, c1, rows, rfl, hc1, hrows, hll, hb⟩
      have hcc := (CodeAt.new w n c' d' s).below hb (Nat.le_refl _)
      have HB : Hid (Below w.heap.size w w1) := Lib.hid (((Below.refl _ _).alloc (Nat.le_refl _) _).trans (hb.mono (by simp)))
      have c0 := hcc.c0
      have HLL := Lib.hid hll
      have HR : Hid (rows.map (parL bs) = synL c' bs (colsL c' d' s n)) := Lib.hid (by rw [hrows]; exact syn_map _ _ (fun l hl => (colsL_mem (by omega) l hl).2))
      have HRM : Hid (∀ r ∈ rows, r.length ≤ 1000000 ∧ ∀ x ∈ r, 0 ≤ x ∧ x < n) := Lib.hid (fun r hr => by
        rw [hrows] at hr
        have h1 := matL_mem _ _ r hr
        have h2 := matL_short c' 4 (colsL c' d' s n) (fun l hl => by have := (colsL_mem (by omega) l hl).1; omega) r hr
        rw [colsL_len] at h1 h2
        exact ⟨by omega, h1⟩)
      have HLN : Hid (rows.length = c') := Lib.hid hll.len
      clear hcc hb hll hrows
      dsimp only
      go_wp2_with fail
      go_loopw [8, 9] (fun o i wr => ∃ k : Nat, k ≤ c' ∧ i = .int .i64 k ∧ wr.ownsRow w1.heap.size 4 1 o k (((rows.take k).map (parL bs)).map Value.bool) ∧ Below w1.heap.size w1 wr) (fun _ i _ => c' - (intOf i).toNat)
      case atStart => exact ⟨0, Nat.zero_le _, rfl, by simpa using World.ownsRow_nil _ _ _ _, Below.refl _ _⟩
      case round =>
        obtain ⟨k, hk, rfl, hown, hbw⟩ := hrel
        obtain ⟨wa, rfl⟩ : ∃ z : World, z = wr := ⟨_, rfl⟩
        obtain ⟨Ao, co, rfl, hco⟩ := own_form hown
        have HO := Lib.hid hown; have HBW := Lib.hid hbw
        have HLA := Lib.hid (HLL.out.past hbw)
        clear hown hbw
        by_cases hlt : k < c'
        · have hki : (k : Int) < (c' : Int) := by omega
          have hkr : k < rows.length := by rw [HLN.out]; exact hlt
          obtain ⟨b1, o1, Ai, ci, rfl, hb1, hcell, hle, hrd, _⟩ := HLA.out.row k hkr
          have hrm := HRM.out _ (List.getElem_mem hkr)
          have HST : Hid ((rows.take (k + 1)).map (parL bs) = (rows.take k).map (parL bs) ++ [parL bs rows[k]]) := Lib.hid (by rw [take_snoc _ _ hkr, List.map_append]; rfl)
          obtain ⟨r, hr⟩ : ∃ r, r = rows[k] := ⟨_, rfl⟩
          rw [← hr] at hcell hle hrd hrm HST
          have HRD := Lib.hid hrd; have HRM2 := Lib.hid hrm
          have hbw2 := HBW.out.size
          have hr6 := HRM2.out.1
          clear hr hrd hrm hb1 hkr
          go_wp2_with fail
          refine (refparity_any _ _ _ _ _ _ bs r _ _ hn (by omega) ((((H.out.past HB.out).past HBW.out))) HRD.out HRM2.out.2).mono ?_
          rintro e w2 ⟨rfl, rfl⟩
          obtain ⟨pv, hpv⟩ : ∃ pv, pv = parL bs r := ⟨_, rfl⟩
          rw [← hpv] at HST ⊢
          clear hpv
          go_wp2_with (at_builtin; refine wpList_pushL elB_b5 (.tmp 29) (.tmp 36) rfl rfl w1.heap.size k _ rfl HO.out rfl rfl (one_cell1 rfl) (by omega) (by decide) hbw2 ?_; intro v8 w8 hown8 hb8 hg8 hL8; have HO8 := Lib.hid hown8; have HB8 := Lib.hid (HBW.out.trans hb8); clear hown8 hb8 hg8 hL8)
          go_roundw
          case rel => exact ⟨k + 1, hlt, by go_num, by rw [HST.out, List.map_append]; exact HO8.out, HB8.out⟩
          case measure => simp [intOf]; omega
        · have hki : ¬ (k : Int) < (c' : Int) := by omega
          obtain rfl : k = c' := by omega
          go_wp2_with fail
          go_ret2
          have ho := HO.out
          rw [List.take_of_length_le (by rw [HLN.out]; exact Nat.le_refl _), HR.out] at ho
          exact ⟨_, _, _, k, 0, rfl, HSY.out.symm, hco, by unfold SynX; rw [if_pos HSY.out]; rfl, by omega, ownsRow_base ho HB.out.size, bnext HB.out HBW.out⟩
    · have HE : Hid ((22 : Int) = synE N C D bs.length) := Lib.hid (by unfold synE; rw [if_neg (by simpa using h0), if_pos (by rw [hl]; exact h1)])
      have g1 : ((n : Int) != N) = true := by simpa using h1
      have H0 := Lib.hid h0
      clear h0 h1 h hl
      go_enter Try.func17, Try.ntmps17
      go_wp2_with fail
      refine (refMatrix_any _ _ _ _ _ hs).mono ?_
      rintro e w1 ⟨A1, c1, rows, m1, E, rfl, hE, _, _, _, hb⟩
      obtain rfl : E = 0 := by rw [hE]; exact H0.out
      have HB : Hid (Below w.heap.size w w1) := Lib.hid (((Below.refl _ _).alloc (Nat.le_refl _) _).trans (hb.mono (by simp)))
      have c0 := ((CodeAt.new w N C D s).below hb (Nat.le_refl _)).c0
      clear hb hE
      dsimp only
      go_wp2_with fail
      go_ret2
      exact SynQ.nil HE.out (by decide) HB.out
  · have HE : Hid ((2 : Int) = synE N C D bs.length) := Lib.hid (by unfold synE; rw [if_pos h0])
    have H0 := Lib.hid h0
    clear h0 h hl
    go_enter Try.func17, Try.ntmps17
    go_wp2_with fail
    refine (refMatrix_any _ _ _ _ _ hs).mono ?_
    rintro e w1 ⟨A1, c1, rows, m1, E, rfl, hE, _, _, _, hb⟩
    obtain rfl : E = 2 := by rw [hE]; exact codeE_ne H0.out
    have HB : Hid (Below w.heap.size w w1) := Lib.hid (((Below.refl _ _).alloc (Nat.le_refl _) _).trans (hb.mono (by simp)))
    clear hb hE
    dsimp only
    go_wp2_with fail
    go_ret2
    exact SynQ.nil HE.out (by decide) HB.out
#print axioms refSyndrome_any
end Go.Proofs.Ytfinjdkcgmepfaa
/- Contracts of slices.Equal at []bool and slices.Max at []int. Conditions: as each statement says. -/
namespace Go.Proofs.Ytfinjdkcgmepfaa
open Go.RowKit
set_option linter.unusedVariables false
abbrev natC (l : List Nat) : List Value := l.map fun x : Nat => Value.int .i64 x
theorem nat_cell {w : World} {B n : Nat} {A : Option Addr} {l : List Nat} (h : Rd w B 1 A n (natC l)) {k : Nat} (hk : k < l.length) : ∃ b off, A = some ⟨b, off, none⟩ ∧ b < B ∧ w.cell? ⟨b, off + k, none⟩ = some (.int .i64 (l[k] : Nat)) := by
  obtain ⟨b, off, hA, hb, hc⟩ := h.2 (by have := h.1; simp at this; omega)
  exact ⟨b, off, hA, hb, hc k _ (by rw [List.getElem?_map, List.getElem?_eq_getElem hk]; rfl)⟩
def EqP (xs ys : List Bool) (w : World) (e : Ending) (w' : World) : Prop := (∃ v, v = decide (xs = ys) ∧ e = .returned (.bool v)) ∧ Qw w w'
def MaxP (l : List Nat) (w : World) (e : Ending) (w' : World) : Prop := (∃ v : Nat, v = maxL l ∧ e = .returned (.int .i64 v)) ∧ w = w'
set_option maxHeartbeats 1000000 in
theorem Equal_any (A A' : Option Addr) (n c c' : Nat) (xs ys : List Bool) (w : World) (hn : n ≤ 1073741824) (h : Rd w w.heap.size 1 A n (xs.map Value.bool)) (h' : Rd w w.heap.size 1 A' n (ys.map Value.bool)) :
    Calls Try.prog 36 #[.slice A n c, .slice A' n c'] w (EqP xs ys w) := by
  have hl : xs.length = n := by have := h.1; simpa using this
  have hl' : ys.length = n := by have := h'.1; simpa using this
  have H := Lib.hid h; have H' := Lib.hid h'; have HL := Lib.hid hl; have HL' := Lib.hid hl'
  clear h h' hl hl'
  have g0 : ((n : Int) != (n : Int)) = false := by simp
  go_enter Try.func36, Try.ntmps36
  go_wp2_with fail
  go_loopw [13] (fun i wr => ∃ k : Nat, k ≤ n ∧ i = .int .i64 k ∧ xs.take k = ys.take k ∧ Qw w wr) (fun i _ => n - (intOf i).toNat)
  case atStart => exact ⟨0, Nat.zero_le _, rfl, rfl, Qw.refl _⟩
  case round =>
    obtain ⟨k, hk, rfl, he, hq⟩ := hrel
    obtain ⟨wa, rfl⟩ : ∃ z : World, z = wr := ⟨_, rfl⟩
    have HE := Lib.hid he; have HQ := Lib.hid hq
    clear he
    by_cases hlt : k < n
    · have hki : (k : Int) < (n : Int) := by omega
      obtain ⟨b1, o1, rfl, _, r1⟩ := bool_cell (H.out.q hq) hlt
      obtain ⟨b2, o2, rfl, _, r2⟩ := bool_cell (H'.out.q hq) hlt
      have h1 : k < xs.length := by rw [HL.out]; exact hlt
      have h2 : k < ys.length := by rw [HL'.out]; exact hlt
      rw [getD_at _ _ h1] at r1; rw [getD_at _ _ h2] at r2
      have HS : Hid (xs[k] = ys[k] → xs.take (k + 1) = ys.take (k + 1)) := Lib.hid (fun e => by rw [take_snoc _ _ h1, take_snoc _ _ h2, HE.out, e])
      have HNE : Hid (xs[k] ≠ ys[k] → xs ≠ ys) := Lib.hid (fun hne e => hne (by subst e; rfl))
      generalize xs[k] = a at r1 HS HNE
      generalize ys[k] = b at r2 HS HNE
      clear hq h1 h2
      cases a <;> cases b
      · go_wp2_with fail
        go_region
        go_wp2_with fail
        go_roundw
        case rel => exact ⟨k + 1, hlt, by go_num, HS.out (by trivial), HQ.out.drew⟩
        case measure => simp [intOf]; omega
      · go_wp2_with fail
        go_region
        go_wp2_with fail
        go_ret
        exact ⟨⟨false, (decide_eq_false (HNE.out (by decide))).symm, rfl⟩, HQ.out.drew⟩
      · go_wp2_with fail
        go_region
        go_wp2_with fail
        go_ret
        exact ⟨⟨false, (decide_eq_false (HNE.out (by decide))).symm, rfl⟩, HQ.out.drew⟩
      · go_wp2_with fail
        go_region
        go_wp2_with fail
        go_roundw
        case rel => exact ⟨k + 1, hlt, by go_num, HS.out (by trivial), HQ.out.drew⟩
        case measure => simp [intOf]; omega
    · have hki : ¬ (k : Int) < (n : Int) := by omega
      clear hq
      go_wp2_with fail
      go_ret
      refine ⟨⟨true, ?_, rfl⟩, HQ.out⟩
      have := HE.out
      rw [List.take_of_length_le (by rw [HL.out]; omega), List.take_of_length_le (by rw [HL'.out]; omega)] at this
      exact (decide_eq_true this).symm
theorem maxL_take {l : List Nat} {k : Nat} (h : k < l.length) : maxL (l.take (k + 1)) = max (maxL (l.take k)) l[k] := by rw [take_snoc _ _ h, maxL_snoc]
set_option maxHeartbeats 1000000 in
theorem Max_any (A : Option Addr) (n c : Nat) (l : List Nat) (w : World) (hn : n ≤ 1073741824) (h1 : 1 ≤ n) (h : Rd w w.heap.size 1 A n (natC l)) :
    Calls Try.prog 37 #[.slice A n c] w (MaxP l w) := by
  have hl : l.length = n := by have := h.1; simpa using this
  have H := Lib.hid h; have HL := Lib.hid hl
  obtain ⟨b1, o1, rfl, _, r0⟩ := nat_cell h (k := 0) (by omega)
  rw [Nat.add_zero] at r0
  have HS : Hid (l[0]'(by omega) = maxL (l.take 1)) := Lib.hid (by rw [maxL_take (by omega)]; simp [maxL])
  generalize l[0]'(by omega) = x0 at r0 HS
  clear h hl
  have g0 : ¬ ((n : Int) < 1) := by omega
  go_enter Try.func37, Try.ntmps37
  go_wp2_with fail
  clear r0
  go_loop [3, 4] (fun m i => ∃ (k M : Nat), 1 ≤ k ∧ k ≤ n ∧ i = .int .i64 k ∧ m = .int .i64 M ∧ M = maxL (l.take k)) (fun _ i => n - (intOf i).toNat)
  case atStart => exact ⟨1, x0, Nat.le_refl _, h1, rfl, rfl, HS.out⟩
  case round =>
    obtain ⟨k, M, hk1, hk, rfl, rfl, hM⟩ := hrel
    have HM := Lib.hid hM
    clear hM
    by_cases hlt : k < n
    · have hki : (k : Int) < (n : Int) := by omega
      have hkl : k < l.length := by rw [HL.out]; exact hlt
      obtain ⟨b2, o2, hA, _, r1⟩ := nat_cell H.out hkl
      injection hA with hA
      injection hA with e1 e2 _
      subst e1; subst e2
      have HS2 := Lib.hid (maxL_take hkl)
      rw [← HM.out] at HS2
      generalize l[k] = x at r1 HS2
      have hmx : max (M : Int) (x : Int) = ((max M x : Nat) : Int) := by omega
      obtain ⟨y, hy⟩ : ∃ y, y = max M x := ⟨_, rfl⟩
      rw [← hy] at hmx HS2
      clear hy hkl
      go_wp2_with fail
      go_round
      case rel => exact ⟨k + 1, y, by omega, hlt, by go_num, rfl, HS2.out.symm⟩
      case measure => simp [intOf]; omega
    · have hki : ¬ (k : Int) < (n : Int) := by omega
      go_wp2_with fail
      go_ret
      have := HM.out
      rw [List.take_of_length_le (by rw [HL.out]; omega)] at this
      exact ⟨⟨M, this, rfl⟩, rfl⟩
#print axioms Equal_any
#print axioms Max_any
end Go.Proofs.Ytfinjdkcgmepfaa
/- A set of checks, and the contract of toggle. Conditions: as each statement says. -/
namespace Go.Proofs.Ytfinjdkcgmepfaa
open Go.RowKit
set_option linter.unusedVariables false
def bitC (ws : List Nat) (i : Nat) : Bool := (ws.getD (i / 64) 0).testBit (i % 64)
/-- The words of a set of checks. -/
structure CWords (w : World) (H : Nat) (ws : List Nat) : Prop where
  blk : w.heap[H]? = some (.cells (ws.map fun x : Nat => Value.int .u64 x).toArray 62 (0, 0))
  len : ws.length = 4
  lt : ∀ i, ws.getD i 0 < two64
theorem CWords.cell {w : World} {H : Nat} {ws : List Nat} (h : CWords w H ws) {j : Nat} (hj : j < 4) : w.cell? ⟨H, j, none⟩ = some (.int .u64 (ws.getD j 0 : Nat)) := by
  rw [cell_of_row _ _ _ _ _ _ h.blk]
  have := h.len
  simp [List.getD_eq_getElem?_getD, List.getElem?_eq_getElem (show j < ws.length by omega)]
theorem CWords.frozen {w : World} {H : Nat} {ws : List Nat} (h : CWords w H ws) (j : Nat) : w.frozen? ⟨H, j, none⟩ = false := by simp [World.frozen?, h.blk]
theorem CWords.set {w : World} {H : Nat} {ws : List Nat} (h : CWords w H ws) {j x : Nat} (hj : j < 4) (hx : x < two64) : CWords (w.setCell ⟨H, j, none⟩ (.int .u64 x)) H (ws.set j x) where
  blk := by
    have := blk_setR (o := j) h.blk (.int .u64 x)
    rw [this]
    simp [List.map_set]
  len := by rw [List.length_set]; exact h.len
  lt := fun i => by
    rw [List.getD_eq_getElem?_getD, List.getElem?_set]
    split
    · split
      · exact hx
      · decide
    · rw [← List.getD_eq_getElem?_getD]; exact h.lt i
theorem CWords.q {w w' : World} {H : Nat} {ws : List Nat} (h : CWords w H ws) (hq : Qw w w') : CWords w' H ws := ⟨by rw [hq.heap]; exact h.blk, h.len, h.lt⟩
/-- The set holds just the true places of t. -/
def ChkAt (w : World) (H : Nat) (t : List Bool) : Prop := t.length ≤ 256 ∧ ∃ ws, CWords w H ws ∧ ∀ i, i < 256 → bitC ws i = t.getD i false
theorem ChkAt.lt {w : World} {H : Nat} {t : List Bool} (h : ChkAt w H t) : H < w.heap.size := by
  obtain ⟨_, ws, h, _⟩ := h; exact (Array.getElem?_eq_some_iff.1 h.blk).1
theorem ChkAt.keep {w w' : World} {H : Nat} {t : List Bool} (h : ChkAt w H t) (hk : w'.heap[H]? = w.heap[H]?) : ChkAt w' H t := by
  obtain ⟨h0, ws, h, hb⟩ := h; exact ⟨h0, ws, ⟨hk.trans h.blk, h.len, h.lt⟩, hb⟩
theorem bitC_set {ws : List Nat} (hl : ws.length = 4) {i j : Nat} (hi : i < 256) (hj : j < 256) : bitC (ws.set (i / 64) (ws.getD (i / 64) 0 ^^^ 2 ^ (i % 64))) j = (bitC ws j != decide (i = j)) := by
  unfold bitC
  rw [List.getD_eq_getElem?_getD, List.getElem?_set]
  by_cases e : i / 64 = j / 64
  · rw [if_pos e, if_pos (by omega)]
    simp only [Option.getD_some]
    rw [Nat.testBit_xor, Nat.testBit_two_pow, e]
    congr 1
    rw [decide_eq_decide]; omega
  · rw [if_neg e, ← List.getD_eq_getElem?_getD]
    rw [show decide (i = j) = false by rw [decide_eq_false_iff_not]; rintro rfl; exact e rfl]
    simp
theorem ChkAt.flip {w w' : World} {H : Nat} {t : List Bool} {ws : List Nat} {k : Nat} (h0 : t.length ≤ 256) (hb : ∀ i, i < 256 → bitC ws i = t.getD i false) (hl : ws.length = 4) (hk : k < t.length) (h : CWords w' H (ws.set (k / 64) (ws.getD (k / 64) 0 ^^^ 2 ^ (k % 64)))) : ChkAt w' H (flipK t (k : Int)) :=
  ⟨by rw [flipK_len]; exact h0, _, h, fun j hj => by rw [bitC_set hl (by omega) hj, hb j hj, flipK_get _ _ (by simpa using hk)]; simp⟩
theorem wrapC_nat64 (y : Nat) (h : y < two64) : IntKind.u64.wrap (y : Int) = (y : Int) := by
  rw [IntKind.wrap_u64]; unfold two64 at h; omega
theorem chk_wrap {i : Nat} (x : Nat) (hx : x < two64) (hi : i < 64) : bits BinOp.xor IntKind.u64 (x : Int) (IntKind.u64.wrap (2 ^ i)) = ((x ^^^ 2 ^ i : Nat) : Int) := by
  have hp : 2 ^ i < two64 := Nat.lt_of_lt_of_le (show 2 ^ i < 2 ^ 64 from Nat.pow_lt_pow_right (by decide) hi) (by decide)
  have e : IntKind.u64.wrap (2 ^ i) = ((2 ^ i : Nat) : Int) := by
    have h1 : ((2 ^ i : Nat) : Int) = 2 ^ i := by simp
    rw [← h1]; exact wrapC_nat64 _ hp
  rw [e]
  exact u64_xor_nat _ _ hx hp
def TogP (H : Nat) (t : List Bool) (w : World) (e : Ending) (w' : World) : Prop := e = .returned (.tuple #[]) ∧ ChkAt w' H t ∧ w.grownBy w' (some H)
set_option maxRecDepth 100000 in
set_option maxHeartbeats 4000000 in
theorem toggle_any (H B m c : Nat) (A : Option Addr) (t : List Bool) (l : List Int) (w : World) (hm : m ≤ 1000) (ht : ChkAt w H t) (hl : ∀ x ∈ l, 0 ≤ x ∧ x < t.length) (h : Rd w B 1 A m (l.map (Value.int .i64))) (hA : 0 < m → ∀ p, A = some p → p.block ≠ H) :
    Calls Try.prog 31 #[.pointer (some ⟨H, 0, none⟩), .slice A m c] w (TogP H (synCol t l) w) := by
  have hll : l.length = m := by have := h.1; simpa using this
  have h256 := ht.1
  have HT := Lib.hid ht; have HL := Lib.hid hl; have HR := Lib.hid h; have HA := Lib.hid hA; have HLL := Lib.hid hll
  clear ht hl h hA hll
  go_enter Try.func31, Try.ntmps31
  go_wp2_with fail
  go_loopw [8] (fun i wr => ∃ k : Nat, k ≤ m ∧ i = .int .i64 k ∧ ChkAt wr H (synCol t (l.take k)) ∧ w.grownBy wr (some H)) (fun i _ => m - (intOf i).toNat)
  case atStart => exact ⟨0, Nat.zero_le _, rfl, HT.out, World.grownBy.refl _ _⟩
  case round =>
    obtain ⟨k, hk, rfl, hc, hg⟩ := hrel
    obtain ⟨wa, rfl⟩ : ∃ z : World, z = wr := ⟨_, rfl⟩
    have HC := Lib.hid hc; have HG := Lib.hid hg
    clear hc hg
    by_cases hlt : k < m
    · have hki : (k : Int) < (m : Int) := by omega
      have hkl : k < l.length := by rw [HLL.out]; exact hlt
      obtain ⟨b1, o1, hA1, hb1, hx⟩ := int_cell HR.out hkl
      have hbl : b1 < w.heap.size := World.block_lt_of_cell? w _ hx
      have hne := HA.out (by omega) _ hA1
      have hx2 := (cell_heap (HG.out.block b1 hbl (fun e => hne (by injection e))) (o1 + k)).trans hx
      subst hA1
      have hxr := HL.out _ (List.getElem_mem hkl)
      have HS3 : Hid (synCol t (l.take (k + 1)) = flipK (synCol t (l.take k)) l[k]) := Lib.hid (by rw [take_snoc _ _ hkl, synCol_snoc])
      generalize l[k] = x at hx2 hx hxr HS3
      obtain ⟨q, rfl⟩ := Int.eq_ofNat_of_zero_le hxr.1
      have hq : q < t.length := by omega
      obtain ⟨cur, hcur⟩ : ∃ cur, cur = synCol t (l.take k) := ⟨_, rfl⟩
      have hcl : cur.length = t.length := by rw [hcur, synCol_len]
      rw [← hcur] at HC HS3
      obtain ⟨h0, ws, hw, hbt⟩ := HC.out
      have hj : q / 64 < 4 := by omega
      have hi64 : q % 64 < 64 := Nat.mod_lt _ (by decide)
      have c0 := hw.cell hj
      have f0 := hw.frozen (q / 64)
      have hlt2 := hw.lt (q / 64)
      have hxl : ws.getD (q / 64) 0 ^^^ 2 ^ (q % 64) < two64 := Nat.xor_lt_two_pow (n := 64) hlt2 (Nat.lt_of_lt_of_le (show 2 ^ (q % 64) < 2 ^ 64 from Nat.pow_lt_pow_right (by decide) hi64) (by decide))
      have hnew := hw.set hj hxl
      have HFL := Lib.hid (ChkAt.flip (w := wa) (k := q) h0 hbt hw.len (by omega) hnew)
      have hcw := chk_wrap _ hlt2 hi64
      obtain ⟨y, hy⟩ : ∃ y, y = ws.getD (q / 64) 0 ^^^ 2 ^ (q % 64) := ⟨_, rfl⟩
      rw [← hy] at HFL hcw
      generalize ws.getD (q / 64) 0 = x0 at c0 hcw
      have j1 : (0 : Int) ≤ (q : Int) / 64 := by omega
      have j2 : (q : Int) / 64 < 4 := by omega
      have j3 : ((q : Int) / 64).toNat = q / 64 := by omega
      have j4 : (0 : Int) ≤ (q : Int) % 64 := by omega
      clear hw hbt hlt2 hxl hnew hy hcur hcl h0 hxr hx hne hkl
      go_wp2_with fail
      go_region
      go_wp2_with fail
      go_roundw
      case rel => exact ⟨k + 1, hlt, by go_num, by rw [HS3.out]; exact HFL.out.keep rfl, ⟨HG.out.os, HG.out.tape, HG.out.output, by have := HG.out.size; simpa [World.setCell] using this, fun b h1 h2 => (Below.heap_setCell _ _ _ _ (by simpa using h2)).trans (HG.out.block b h1 h2)⟩⟩
      case measure => simp [intOf]; omega
    · have hki : ¬ (k : Int) < (m : Int) := by omega
      go_wp2_with fail
      go_end0
      have hc := HC.out
      rw [List.take_of_length_le (by rw [HLL.out]; omega)] at hc
      exact ⟨rfl, hc, HG.out⟩
#print axioms toggle_any
end Go.Proofs.Ytfinjdkcgmepfaa
/- The contract of the program's Decode, for what is valid. Conditions: as each statement says. -/
namespace Go.Proofs.Ytfinjdkcgmepfaa
open Go.RowKit
set_option linter.unusedVariables false
def cntB (bad : Nat → Bool) (l : List Int) : Nat := l.countP fun k => bad k.toNat
theorem cntB_snoc (bad : Nat → Bool) (l : List Int) (x : Int) : cntB bad (l ++ [x]) = cntB bad l + if bad x.toNat = true then 1 else 0 := by
  unfold cntB; rw [List.countP_append, List.countP_cons, List.countP_nil]; simp
theorem cntB_le (bad : Nat → Bool) (l : List Int) : cntB bad l ≤ l.length := List.countP_le_length
theorem votesC_snoc (cols : List (List Int)) (bad : Nat → Bool) (l : List Int) : votesC (cols ++ [l]) bad = votesC cols bad ++ [cntB bad l] := by simp [votesC, cntB]
theorem votesC_len (cols : List (List Int)) (bad : Nat → Bool) : (votesC cols bad).length = cols.length := by simp [votesC]
def padV (l : List Nat) (n : Nat) : List Nat := l ++ List.replicate (n - l.length) 0
theorem padV_len {l : List Nat} {n : Nat} (h : l.length ≤ n) : (padV l n).length = n := by simp [padV]; omega
theorem padV_set (l : List Nat) (n : Nat) (u : Nat) (h : l.length < n) : (padV l n).set l.length u = padV (l ++ [u]) n := by
  unfold padV
  rw [List.set_append_right _ _ (Nat.le_refl _), Nat.sub_self, show n - l.length = (n - (l.length + 1)) + 1 by omega, List.replicate_succ, List.set_cons_zero, List.length_append, List.append_assoc]; rfl
theorem padV_set0 (l : List Nat) (n : Nat) (h : l.length < n) : (padV l n).set l.length 0 = padV l n := by
  unfold padV
  rw [List.set_append_right _ _ (Nat.le_refl _), Nat.sub_self, show n - l.length = (n - (l.length + 1)) + 1 by omega, List.replicate_succ, List.set_cons_zero]
theorem padV_full (l : List Nat) (n : Nat) (h : n ≤ l.length) : padV l n = l := by
  unfold padV; rw [show n - l.length = 0 by omega]; simp
/-- What Decode returns, when its arguments fit. -/
def DecP (N : Nat) (V : Option (List Bool × Nat)) (w : World) (e : Ending) (w' : World) : Prop :=
  ((∃ z q A c, V = some (z, q) ∧ e = .returned (.tuple #[.slice A N c, .int .i64 (q : Nat), .int .i64 0]) ∧ N ≤ c ∧ Rd w' w'.heap.size 1 A N (z.map Value.bool)) ∨ (V = none ∧ e = .returned (.tuple #[.slice none 0 0, .int .i64 0, .int .i64 18]))) ∧ Below w.heap.size w w'
theorem fits5_ok (N C D s : Nat) (A A' : Option Addr) (c c' : Nat) (w : World) (h : codeE N C D = 0) :
    Calls Try.prog 30 #[codV N C D s, .slice A N c, .slice A' C c'] w fun e w' => e = .returned (.int .i64 0) ∧ Below w.heap.size w w' :=
  (fits5_any N C D s A A' N c C c' w).mono fun e w' ⟨⟨E, hE, he⟩, hb⟩ => ⟨by rw [he, hE, fitE_ok.2 ⟨h, rfl, rfl⟩], hb⟩
set_option maxRecDepth 100000 in
set_option maxHeartbeats 8000000 in
theorem Decode_ok (N C D s : Nat) (A A' : Option Addr) (ca cb R : Nat) (bs ss : List Bool) (V : Option (List Bool × Nat)) (w : World) (h0 : codeE N C D = 0) (hs : s < two64) (hR : R ≤ 64) (hV : decL C (colsL C D s N) ss (R + 1) 0 bs = V)
    (h : Rd w w.heap.size 1 A N (bs.map Value.bool)) (h' : Rd w w.heap.size 1 A' C (ss.map Value.bool)) :
    Calls Try.prog 21 #[codV N C D s, .slice A N ca, .slice A' C cb, .int .i64 R] w (DecP N V w) := by
  obtain ⟨h1, h2, h3, h4, h5, h6, h7⟩ := codeE_ok.1 h0
  have hmk := fun w => make_int w N (by omega)
  have HM := Lib.hid (colsL_mem (C := C) (D := D) (s := s) (n := N) (by omega))
  have H0 := Lib.hid h0; have HS := Lib.hid hs; have HV := Lib.hid hV; have H := Lib.hid h; have H' := Lib.hid h'; have HMK := Lib.hid hmk
  have j1 : ¬ ((R : Int) < 0) := by omega
  have j2 : ¬ ((64 : Int) < (R : Int)) := by omega
  have hw1 : wrap64 ((R : Int) + 1) = ((R + 1 : Nat) : Int) := by unfold wrap64; omega
  clear h0 hs hV h h' hmk
  go_enter Try.func21, Try.ntmps21
  go_wp2_with fail
  refine (fits5_ok N C D s A A' ca cb _ H0.out).mono ?_
  rintro e w1 ⟨rfl, hb⟩
  have hcc := (CodeAt.new w N C D s).below hb (Nat.le_refl _)
  have HB : Hid (Below w.heap.size w w1) := Lib.hid (((Below.refl _ _).alloc (Nat.le_refl _) _).trans (hb.mono (by simp)))
  have c0 := hcc.c0; have c1 := hcc.c1; have c2 := hcc.c2; have c3 := hcc.c3
  have HCC := Lib.hid hcc
  clear hb hcc
  go_wp2_with fail
  refine (columns_any N C D s _ H0.out HS.out).mono ?_
  rintro e w2 ⟨A2, k2, cols, rfl, hk2, hcols, hll, hb2⟩
  have HLL := Lib.hid hll
  have HC : Hid (∀ l ∈ cols, l.length ≤ 256 ∧ ∀ x ∈ l, 0 ≤ x ∧ x < C) := Lib.hid (fun l hl => by rw [hcols] at hl; have := HM.out l hl; exact ⟨by omega, this.2⟩)
  have HV2 : Hid (decL C cols ss (R + 1) 0 bs = V) := Lib.hid (by rw [hcols]; exact HV.out)
  have HCD := Lib.hid (HCC.out.past hb2 HCC.out.lt)
  have HB2 := Lib.hid (bnext HB.out hb2)
  have HA := Lib.hid ((H.out.past HB.out).past hb2); have HA' := Lib.hid ((H'.out.past HB.out).past hb2)
  have HCL : Hid (cols.length = N) := Lib.hid hll.len
  clear hcols hll hb2 c0 c1 c2 c3 HV HCC HB H H' HM
  go_wp2_with fail
  refine (Clone_bool A N ca bs _ (by omega) HA.out).mono ?_
  rintro e w3 ⟨Ax, cx, rfl, hcx, hox, hb3⟩
  have HOX := Lib.hid hox; have HB3 := Lib.hid hb3
  have HBL : Hid (bs.length = N) := Lib.hid (by have := HA.out.1; simpa using this)
  clear hox hb3
  dsimp only
  go_wp2_with fail
  go_loopw [43] (fun i wr => ∃ (r : Nat) (x : List Bool), r ≤ R + 1 ∧ i = .int .i64 r ∧ x.length = N ∧ decL C cols ss (R + 1 - r) r x = V ∧ wr.ownsRow w2.heap.size 4 1 (.slice Ax N cx) N (x.map Value.bool) ∧ Below w2.heap.size w2 wr) (fun i _ => R + 1 - (intOf i).toNat)
  case atStart => exact ⟨0, bs, Nat.zero_le _, rfl, HBL.out, HV2.out, HOX.out, HB3.out⟩
  case round =>
    obtain ⟨r, x, hr, rfl, hxl, hdec, hown, hbw⟩ := hrel
    obtain ⟨wa, rfl⟩ : ∃ z : World, z = wr := ⟨_, rfl⟩
    have HXL := Lib.hid hxl; have HDC := Lib.hid hdec; have HO := Lib.hid hown; have HBW := Lib.hid hbw
    have hcd := HCD.out.past hbw HCD.out.lt
    have c0 := hcd.c0; have c1 := hcd.c1; have c2 := hcd.c2; have c3 := hcd.c3
    clear hxl hdec hown hbw hcd HOX HB3 HV2
    by_cases hlt : r < R + 1
    · have hri : (r : Int) < ((R + 1 : Nat) : Int) := by omega
      go_wp2_with fail
      refine (syndrome_any N C D s A2 Ax k2 cx N _ _ cols x _ (by omega) (by omega) HC.out (Nat.le_refl _) (Nat.le_refl _) (HLL.out.past HBW.out) (Rd.own HO.out)).mono ?_
      rintro e w4 ⟨A3, c3', rfl, hc3, ho3, hb4⟩
      dsimp only [id]
      obtain ⟨now, hnow⟩ : ∃ now, now = synL C x cols := ⟨_, rfl⟩
      rw [← hnow] at ho3
      have HNL : Hid (now.length = C) := Lib.hid (by rw [hnow, synL_len])
      obtain ⟨f, hf⟩ : ∃ f, R + 1 - r = f + 1 := ⟨R - r, by omega⟩
      obtain ⟨vt, hvt⟩ : ∃ vt, vt = votesC cols (badF now ss) := ⟨_, rfl⟩
      have hD := HDC.out
      rw [hf, decL, ← hnow, show votesX C cols ss x = vt by unfold votesX; rw [← hnow, hvt]] at hD
      have HD := Lib.hid hD; have HF := Lib.hid hf; have HVT := Lib.hid hvt
      have HN4 := Lib.hid (Rd.own ho3); have HO4 := Lib.hid (ownsRow_below HO.out hb4 (Nat.le_refl _)); have HB4 := Lib.hid (HBW.out.trans (hb4.mono HBW.out.size))
      clear hnow hf hvt hD ho3 hb4 HO HBW HDC c0 c1 c2 c3
      go_wp2_with fail
      refine (Equal_any A3 A' C c3' cb now ss _ (by omega) HN4.out ((HA'.out.past (HB4.out)))).mono ?_
      rintro e w5 ⟨⟨v, hv, rfl⟩, hq5⟩
      have HV5 := Lib.hid hv
      have HN5 := Lib.hid (HN4.out.past (hq5.below _)); have HO5 := Lib.hid (ownsRow_below HO4.out (hq5.below _) (Nat.le_refl _)); have HB5 := Lib.hid (HB4.out.trans (hq5.below _))
      clear hv hq5 HN4 HO4 HB4
      cases v with
      | true =>
        have HE : Hid (V = some (x, r)) := Lib.hid (by
          have h1 := of_decide_eq_true HV5.out.symm
          have := HD.out
          rw [if_pos h1] at this
          exact this.symm)
        go_wp2_with fail
        go_ret3
        exact ⟨.inl ⟨x, r, Ax, cx, HE.out, rfl, hcx, Rd.own HO5.out⟩, HB2.out.trans (HB5.out.mono HB2.out.size)⟩
      | false =>
        have HNE : Hid (now ≠ ss) := Lib.hid (of_decide_eq_false HV5.out.symm)
        have c0 := (HCD.out.past HB5.out HCD.out.lt).c0
        have hmk := HMK.out
        go_wp2_with fail
        clear hmk c0
        have hown := own_new w5 (Array.replicate N (.int .i64 0)) 3 N (by simp) (by omega)
        have HAL : Hid (Below w5.heap.size w5 (w5.alloc (.cells (Array.replicate N (.int .i64 0)) 3))) := Lib.hid ((Below.refl _ _).alloc (Nat.le_refl _) _)
        have HOV : Hid ((w5.alloc (.cells (Array.replicate N (.int .i64 0)) 3)).ownsRow w5.heap.size 3 1 (.slice (some ⟨w5.heap.size, 0, none⟩) N N) N (natC (padV (votesC (cols.take 0) (badF now ss)) N))) := Lib.hid (by simpa [padV, votesC] using hown)
        clear hown
        generalize w5.alloc (.cells (Array.replicate N (.int .i64 0)) 3) = w6 at HAL HOV ⊢
        go_loopw [60] (fun i wr => ∃ k : Nat, k ≤ N ∧ i = .int .i64 k ∧ wr.ownsRow w5.heap.size 3 1 (.slice (some ⟨w5.heap.size, 0, none⟩) N N) N (natC (padV (votesC (cols.take k) (badF now ss)) N)) ∧ Below w5.heap.size w5 wr) (fun i _ => N - (intOf i).toNat)
        case atStart => exact ⟨0, Nat.zero_le _, rfl, HOV.out, HAL.out⟩
        case round =>
          obtain ⟨k, hk, rfl, hown, hbw⟩ := hrel
          obtain ⟨wb, rfl⟩ : ∃ z : World, z = wr := ⟨_, rfl⟩
          have HO6 := Lib.hid hown; have HB6 := Lib.hid hbw
          clear hown hbw HOV HAL
          by_cases hlk : k < N
          · have hki : (k : Int) < (N : Int) := by omega
            have hkc : k < cols.length := by rw [HCL.out]; exact hlk
            have hll6 := (HLL.out.below HB5.out).mono (HB5.out.size)
            obtain ⟨b1, o1, Ai, ci, rfl, ⟨_, hb1⟩, hcell, hle, hrd, _⟩ := hll6.row k hkc
            replace hcell := (HB6.out.cell (p := ⟨b1, o1 + k, none⟩) hb1).trans hcell
            have hrow := HC.out _ (List.getElem_mem hkc)
            have hvs : votesC (cols.take (k + 1)) (badF now ss) = votesC (cols.take k) (badF now ss) ++ [cntB (badF now ss) cols[k]] := by rw [take_snoc _ _ hkc, votesC_snoc]
            obtain ⟨l, hl⟩ : ∃ l, l = cols[k] := ⟨_, rfl⟩
            obtain ⟨P, hP⟩ : ∃ P, P = votesC (cols.take k) (badF now ss) := ⟨_, rfl⟩
            have hPl : P.length = k := by rw [hP, votesC_len, List.length_take]; omega
            rw [← hl] at hcell hle hrd hrow hvs
            rw [← hP] at HO6 hvs
            have HRD := Lib.hid hrd; have HRW := Lib.hid hrow; have HVS := Lib.hid hvs; have HPL := Lib.hid hPl
            have HO7 : Hid (wb.ownsRow w5.heap.size 3 1 (.slice (some ⟨w5.heap.size, 0, none⟩) N N) N (natC ((padV P N).set k (cntB (badF now ss) (l.take 0))))) := Lib.hid (by
              have e := padV_set0 P N (by omega)
              rw [hPl] at e
              rw [List.take_zero, show cntB (badF now ss) [] = 0 from rfl, e]; exact HO6.out)
            have hl256 := HRW.out.1
            clear hl hP hrd hrow hvs hPl hb1 hkc hll6 HO6
            go_wp2_with fail
            clear hcell
            go_loopw [67] (fun i wr => ∃ j : Nat, j ≤ l.length ∧ i = .int .i64 j ∧ wr.ownsRow w5.heap.size 3 1 (.slice (some ⟨w5.heap.size, 0, none⟩) N N) N (natC ((padV P N).set k (cntB (badF now ss) (l.take j)))) ∧ Below w5.heap.size w5 wr) (fun i _ => l.length - (intOf i).toNat)
            case atStart => exact ⟨0, Nat.zero_le _, rfl, HO7.out, HB6.out⟩
            case round =>
              obtain ⟨j, hj, rfl, hown, hbw⟩ := hrel
              obtain ⟨wc, rfl⟩ : ∃ z : World, z = wr := ⟨_, rfl⟩
              have HO8 := Lib.hid hown; have HB8 := Lib.hid hbw
              clear hown hbw
              by_cases hlj : j < l.length
              · have hji : (j : Int) < (l.length : Int) := by omega
                obtain ⟨b3, o3, rfl, hb3, hx⟩ := int_cell (HRD.out.below HB8.out) hlj
                have hxr := HRW.out.2 _ (List.getElem_mem hlj)
                have HCN : Hid (cntB (badF now ss) (l.take (j + 1)) = cntB (badF now ss) (l.take j) + if badF now ss (l[j]).toNat = true then 1 else 0) := Lib.hid (by rw [take_snoc _ _ hlj, cntB_snoc])
                generalize l[j] = xx at hx hxr HCN
                obtain ⟨q, rfl⟩ := Int.eq_ofNat_of_zero_le hxr.1
                have hq : q < C := by omega
                have hqi : (q : Int) < (C : Int) := hxr.2
                obtain ⟨b4, o4, rfl, hb4, hn4⟩ := bool_cell (HN5.out.below HB8.out) hq
                obtain ⟨b5, o5, rfl, hb5, hs5⟩ := bool_cell ((HA'.out.past HB5.out).below HB8.out) hq
                have hbad : badF now ss ((q : Nat) : Int).toNat = (now.getD q false != ss.getD q false) := rfl
                rw [hbad] at HCN
                generalize now.getD q false = ba at hn4 HCN
                generalize ss.getD q false = bb at hs5 HCN
                obtain ⟨cn, hcn⟩ : ∃ cn, cn = cntB (badF now ss) (l.take j) := ⟨_, rfl⟩
                have hcl : cn ≤ 256 := by rw [hcn]; have := cntB_le (badF now ss) (l.take j); rw [List.length_take] at this; omega
                rw [← hcn] at HCN HO8
                obtain ⟨y, hy⟩ : ∃ y : Int, y = (cn : Int) := ⟨_, rfl⟩
                have hy0 : 0 ≤ y := by omega
                have hy2 : y ≤ 256 := by omega
                have e0 : wc.cell? ⟨w5.heap.size, k, none⟩ = some (.int .i64 y) := by
                  have hkp : k < ((padV P N).set k cn).length := by rw [List.length_set, padV_len (by rw [HPL.out]; omega)]; exact hlk
                  rw [HO8.out.cellAt k (by omega), List.getElem?_map, List.getElem?_eq_getElem hkp, List.getElem_set_self, hy]; rfl
                have f0 := HO8.out.frozenAt k
                have hst := (HO8.out.drew.stored k (.int .i64 (y + 1))).1
                have e1 : (natC ((padV P N).set k cn)).set k (.int .i64 (y + 1)) = natC ((padV P N).set k (cn + 1)) := by
                  unfold natC; rw [hy, ← Int.natCast_succ, ← List.map_set (f := fun x : Nat => Value.int .i64 (x : Int)), List.set_set]
                rw [e1] at hst
                have HST := Lib.hid hst; have HBS := Lib.hid (HB8.out.drew.setCell (p := ⟨w5.heap.size, k, none⟩) (Nat.le_refl _) (.int .i64 (y + 1)))
                clear hst e1 hcn hxr hb3 hb4 hb5 hbad hy hcl
                cases ba <;> cases bb
                case false.false =>
                  have HC2 : Hid (cntB (badF now ss) (l.take (j + 1)) = cn) := Lib.hid (by rw [HCN.out]; rfl)
                  clear HCN
                  go_wp2_with fail
                  go_region
                  go_wp2_with fail
                  go_roundw
                  case rel => exact ⟨j + 1, hlj, by go_num, by rw [HC2.out]; exact HO8.out, HB8.out.drew⟩
                  case measure => simp [intOf]; omega
                case true.true =>
                  have HC2 : Hid (cntB (badF now ss) (l.take (j + 1)) = cn) := Lib.hid (by rw [HCN.out]; rfl)
                  clear HCN
                  go_wp2_with fail
                  go_region
                  go_wp2_with fail
                  go_roundw
                  case rel => exact ⟨j + 1, hlj, by go_num, by rw [HC2.out]; exact HO8.out, HB8.out.drew⟩
                  case measure => simp [intOf]; omega
                all_goals
                  have HC2 : Hid (cntB (badF now ss) (l.take (j + 1)) = cn + 1) := Lib.hid (by rw [HCN.out]; rfl)
                  clear HCN
                  go_wp2_with fail
                  go_region
                  go_wp2_with fail
                  go_roundw
                  case rel => exact ⟨j + 1, hlj, by go_num, by rw [HC2.out]; exact HST.out, HBS.out⟩
                  case measure => simp [intOf]; omega
              · have hji : ¬ (j : Int) < (l.length : Int) := by omega
                have HE : Hid (wc.ownsRow w5.heap.size 3 1 (.slice (some ⟨w5.heap.size, 0, none⟩) N N) N (natC (padV (votesC (cols.take (k + 1)) (badF now ss)) N))) := Lib.hid (by
                  have h1 := HO8.out
                  have e := padV_set P N (cntB (badF now ss) l) (by rw [HPL.out]; exact hlk)
                  rw [HPL.out] at e
                  rw [List.take_of_length_le (by omega), e, ← HVS.out] at h1
                  exact h1)
                go_wp2_with fail
                go_roundw
                case rel => exact ⟨k + 1, hlk, by go_num, HE.out, HB8.out⟩
                case measure => simp [intOf]; omega
          · have hki : ¬ (k : Int) < (N : Int) := by omega
            obtain rfl : k = N := by omega
            have HVO : Hid (wb.ownsRow w5.heap.size 3 1 (.slice (some ⟨w5.heap.size, 0, none⟩) k k) k (natC vt)) := Lib.hid (by
              have h1 := HO6.out
              rw [List.take_of_length_le (by rw [HCL.out]; exact Nat.le_refl _), ← HVT.out, padV_full _ _ (by rw [HVT.out, votesC_len, HCL.out]; exact Nat.le_refl _)] at h1
              exact h1)
            have HVL : Hid (vt.length = k) := Lib.hid (by rw [HVT.out, votesC_len, HCL.out])
            clear HO6
            go_wp2_with fail
            refine (Max_any (some ⟨w5.heap.size, 0, none⟩) k k vt _ (by omega) (by omega) (Rd.own HVO.out)).mono ?_
            rintro e w7 ⟨⟨m, hm, rfl⟩, rfl⟩
            have HMX := Lib.hid hm
            clear hm
            by_cases hm0 : m = 0
            · have HE : Hid (V = none) := Lib.hid (by
                have := HD.out
                rw [if_neg HNE.out, if_pos (by rw [← HMX.out]; exact hm0)] at this
                exact this.symm)
              subst hm0
              go_wp2_with fail
              go_ret3
              exact ⟨.inr ⟨HE.out, rfl⟩, HB2.out.trans ((HB5.out.trans (HB6.out.mono HB5.out.size)).mono HB2.out.size)⟩
            · have HE : Hid (decL C cols ss f (r + 1) (flipM x vt m) = V) := Lib.hid (by
                have := HD.out
                rw [if_neg HNE.out, if_neg (by rw [← HMX.out]; exact hm0), ← HMX.out] at this
                exact this)
              have hmi : ((m : Int) == 0) = false := by simpa using hm0
              have hown : wb.ownsRow w2.heap.size 4 1 (.slice Ax k cx) k ((flipT x vt m 0).map Value.bool) := by
                rw [flipT_zero]; exact ownsRow_below HO5.out HB6.out (Nat.le_refl _)
              have HOX := Lib.hid hown; have HB7 := Lib.hid (HB5.out.trans (HB6.out.mono HB5.out.size))
              obtain ⟨gx, cpx, hvx⟩ := own_head hown (by omega)
              injection hvx with hAx _ hcx2
              subst hAx; subst hcx2
              have hgx : gx < w5.heap.size := by
                have := (HO5.out.lt gx rfl).2; exact this
              have HXV : Hid (x.length = vt.length) := Lib.hid (by rw [HXL.out, HVL.out])
              have HGX := Lib.hid hgx
              clear hown hm0 hgx
              go_wp2_with fail
              go_loopw [94] (fun i wr => ∃ q : Nat, q ≤ k ∧ i = .int .i64 q ∧ wr.ownsRow w2.heap.size 4 1 (.slice (some ⟨gx, 0, none⟩) k cx) k ((flipT x vt m q).map Value.bool) ∧ wr.ownsRow w5.heap.size 3 1 (.slice (some ⟨w5.heap.size, 0, none⟩) k k) k (natC vt) ∧ Below w2.heap.size w2 wr) (fun i _ => k - (intOf i).toNat)
              case atStart => exact ⟨0, Nat.zero_le _, rfl, HOX.out, HVO.out, HB7.out⟩
              case round =>
                obtain ⟨q, hq, rfl, hox, hov, hbw⟩ := hrel
                obtain ⟨wc, rfl⟩ : ∃ z : World, z = wr := ⟨_, rfl⟩
                have HO8 := Lib.hid hox; have HV8 := Lib.hid hov; have HB8 := Lib.hid hbw
                clear hox hov hbw HOX HVO HB7
                by_cases hlq : q < k
                · have hqi : (q : Int) < (k : Int) := by omega
                  have hqv : q < vt.length := by rw [HVL.out]; exact hlq
                  have hqx : q < x.length := by rw [HXL.out]; exact hlq
                  have r1 : wc.cell? ⟨w5.heap.size, q, none⟩ = some (.int .i64 (vt[q] : Nat)) := by
                    rw [HV8.out.cellAt q (by omega), List.getElem?_map, List.getElem?_eq_getElem hqv]; rfl
                  have HFS := Lib.hid (flipT_step HXV.out m hqx)
                  have hgv : vt.getD q 0 = vt[q] := by simp [List.getD_eq_getElem?_getD, hqv]
                  rw [hgv] at HFS
                  generalize vt[q] = vq at r1 HFS
                  obtain ⟨y, hy⟩ : ∃ y : Int, y = (vq : Int) := ⟨_, rfl⟩
                  rw [← hy] at r1
                  by_cases hvm : vq = m
                  · have hyb : (y == (m : Int)) = true := by rw [hy, hvm]; simp
                    have HFS2 : Hid (flipT x vt m (q + 1) = (flipT x vt m q).set q (!(x.getD q false))) := Lib.hid (by rw [HFS.out, if_pos hvm])
                    have hfl : q < (flipT x vt m q).length := by rw [flipT_len HXV.out]; exact hqx
                    have r2 : wc.cell? ⟨gx, q, none⟩ = some (.bool (x.getD q false)) := by
                      rw [HO8.out.cellAt q (by omega), List.getElem?_map, List.getElem?_eq_getElem hfl, ← flipT_get HXV.out m hqx, getD_at _ _ hfl]; rfl
                    have f2 := HO8.out.frozenAt q
                    have hst := (HO8.out.stored q (.bool (!(x.getD q false)))).1
                    rw [← List.map_set, ← HFS2.out] at hst
                    have hsv : (wc.setCell ⟨gx, q, none⟩ (.bool (!(x.getD q false)))).ownsRow w5.heap.size 3 1 (.slice (some ⟨w5.heap.size, 0, none⟩) k k) k (natC vt) := ownsRow_setCell_other HV8.out (by intro e; injection e with e; have := HGX.out; simp only at e; omega) _
                    have hgl := (HO8.out.lt gx rfl).1
                    have HST := Lib.hid hst; have HSV := Lib.hid hsv; have HBS := Lib.hid (HB8.out.setCell (p := ⟨gx, q, none⟩) hgl (.bool (!(x.getD q false))))
                    generalize x.getD q false = xq at r2 HST HSV HBS
                    clear hst hsv hgl hfl hvm hy hqx hqv hgv HFS
                    go_wp2_with fail
                    go_roundw
                    case rel => exact ⟨q + 1, hlq, by go_num, HST.out, HSV.out, HBS.out⟩
                    case measure => simp [intOf]; omega
                  · have hyb : (y == (m : Int)) = false := by rw [hy]; simpa using (by omega : ¬ (vq : Int) = m)
                    have HFS2 : Hid (flipT x vt m (q + 1) = flipT x vt m q) := Lib.hid (by rw [HFS.out, if_neg hvm])
                    clear hvm hy hqx hqv hgv HFS
                    go_wp2_with fail
                    go_roundw
                    case rel => exact ⟨q + 1, hlq, by go_num, by rw [HFS2.out]; exact HO8.out, HV8.out, HB8.out⟩
                    case measure => simp [intOf]; omega
                · have hqi : ¬ (q : Int) < (k : Int) := by omega
                  obtain rfl : q = k := by omega
                  have HXN : Hid (wc.ownsRow w2.heap.size 4 1 (.slice (some ⟨gx, 0, none⟩) q cx) q ((flipM x vt m).map Value.bool)) := Lib.hid (by
                    have h1 := HO8.out
                    have e := flipT_all HXV.out m
                    rw [HXL.out] at e
                    rw [e] at h1
                    exact h1)
                  have HXL2 : Hid ((flipM x vt m).length = q) := Lib.hid (by rw [flipM_len HXV.out, HXL.out])
                  have HE2 : Hid (decL C cols ss (R + 1 - (r + 1)) (r + 1) (flipM x vt m) = V) := Lib.hid (by
                    have := HF.out
                    rw [show R + 1 - (r + 1) = f by omega]; exact HE.out)
                  go_wp2_with fail
                  go_roundw
                  case rel => exact ⟨r + 1, flipM x vt m, hlt, by go_num, HXL2.out, HE2.out, HXN.out, HB8.out⟩
                  case measure => simp [intOf]; omega
    · have hri : ¬ (r : Int) < ((R + 1 : Nat) : Int) := by omega
      have HE : Hid (V = none) := Lib.hid (by
        have := HDC.out
        rw [show R + 1 - r = 0 by omega, decL] at this
        exact this.symm)
      go_wp2_with fail
      go_ret3
      exact ⟨.inr ⟨HE.out, rfl⟩, HB2.out.trans (HBW.out.mono HB2.out.size)⟩
#print axioms Decode_ok
end Go.Proofs.Ytfinjdkcgmepfaa
/- The contract of the document's Decode, for what is valid. Conditions: as each statement says. -/
namespace Go.Proofs.Ytfinjdkcgmepfaa
open Go.RowKit
set_option linter.unusedVariables false
theorem bumpV_le {v : List Nat} {x : Int} {b : Nat} (h : ∀ u ∈ v, u ≤ b) : ∀ u ∈ bumpV v x, u ≤ b + 1 := by
  intro u hu
  unfold bumpV at hu
  rcases List.mem_or_eq_of_mem_set hu with g | g
  · have := h u g; omega
  · subst g
    rw [List.getD_eq_getElem?_getD]
    by_cases hk : x.toNat < v.length
    · rw [List.getElem?_eq_getElem hk]; have := h _ (List.getElem_mem hk); simp; omega
    · rw [List.getElem?_eq_none (by omega)]; simp
def openB (bad : Nat → Bool) (i : Nat) : Bool := (List.range i).any bad
theorem openB_succ (bad : Nat → Bool) (i : Nat) : openB bad (i + 1) = (openB bad i || bad i) := by simp [openB, List.range_succ]
theorem openB_no {bad : Nat → Bool} {n : Nat} (h : openB bad n = false) : ∀ k, k < n → bad k = false := by
  intro k hk
  unfold openB at h
  rw [List.any_eq_false] at h
  have := h k (by simpa using hk)
  simpa using this
theorem openB_yes {bad : Nat → Bool} {n : Nat} (h : openB bad n = true) : ∃ k, k < n ∧ bad k = true := by
  unfold openB at h
  rw [List.any_eq_true] at h
  obtain ⟨k, hk, hb⟩ := h
  exact ⟨k, by simpa using hk, hb⟩
theorem refsizes_ok (N C D s : Nat) (A A' : Option Addr) (c c' : Nat) (w : World) (h : codeE N C D = 0) :
    Calls Try.prog 34 #[codV N C D s, .slice A N c, .slice A' C c'] w fun e w' => e = .returned (.int .i64 0) ∧ Below w.heap.size w w' :=
  (refsizes_any N C D s A A' N c C c' w).mono fun e w' ⟨⟨E, hE, he⟩, hb⟩ => ⟨by rw [he, hE, fitE_ok.2 ⟨h, rfl, rfl⟩], hb⟩
/-- What holds at each round of the counting. -/
structure VoI (w5 w : World) (N i M : Nat) (V : List Nat) (vs : List Nat) : Prop where
  own : w.ownsRow w5.heap.size 3 1 (.slice (some ⟨w5.heap.size, 0, none⟩) N N) N (natC V)
  bl : Below w5.heap.size w5 w
  is : V = vs
  mx : M = maxL V
  le : ∀ u ∈ V, u ≤ i
  len : V.length = N
theorem VoI.q {w5 w w' : World} {N i M : Nat} {V vs : List Nat} (h : VoI w5 w N i M V vs) (hq : Qw w w') : VoI w5 w' N i M V vs :=
  ⟨by obtain ⟨d, rfl⟩ := hq; exact h.own, h.bl.trans (hq.below _), h.is, h.mx, h.le, h.len⟩
theorem VoI.bump {w5 w : World} {N i M q : Nat} {V vs : List Nat} {y : Int} (h : VoI w5 w N i M V vs) (hq : q < N) (hy : y = ((V.getD q 0 : Nat) : Int)) : VoI w5 (w.setCell ⟨w5.heap.size, q, none⟩ (.int .i64 (y + 1))) N (i + 1) (max M (V.getD q 0 + 1)) (bumpV V (q : Int)) (bumpV vs (q : Int)) where
  own := by
    have hst := (h.own.stored q (.int .i64 (y + 1))).1
    have e1 : (natC V).set q (.int .i64 (y + 1)) = natC (bumpV V (q : Int)) := by
      unfold natC bumpV; rw [hy, ← Int.natCast_succ, ← List.map_set (f := fun x : Nat => Value.int .i64 (x : Int))]; rfl
    rwa [e1] at hst
  bl := h.bl.setCell (p := ⟨w5.heap.size, q, none⟩) (Nat.le_refl _) _
  is := by rw [h.is]
  mx := by rw [maxL_bump (by rw [h.len]; exact hq), ← h.mx]; rfl
  le := bumpV_le h.le
  len := by rw [bumpV_len, h.len]
set_option maxRecDepth 100000 in
set_option maxHeartbeats 8000000 in
theorem refDecode_ok (N C D s : Nat) (A A' : Option Addr) (ca cb R : Nat) (bs ss : List Bool) (V : Option (List Bool × Nat)) (w : World) (h0 : codeE N C D = 0) (hs : s < two64) (hR : R ≤ 64) (hV : decL C (colsL C D s N) ss (R + 1) 0 bs = V)
    (h : Rd w w.heap.size 1 A N (bs.map Value.bool)) (h' : Rd w w.heap.size 1 A' C (ss.map Value.bool)) :
    Calls Try.prog 22 #[codV N C D s, .slice A N ca, .slice A' C cb, .int .i64 R] w (DecP N V w) := by
  obtain ⟨h1, h2, h3, h4, h5, h6, h7⟩ := codeE_ok.1 h0
  have hmk := fun w => make_int w N (by omega)
  have HM := Lib.hid (colsL_mem (C := C) (D := D) (s := s) (n := N) (by omega))
  have H0 := Lib.hid h0; have HS := Lib.hid hs; have HV := Lib.hid hV; have H := Lib.hid h; have H' := Lib.hid h'; have HMK := Lib.hid hmk
  have j1 : ¬ ((R : Int) < 0) := by omega
  have j2 : ¬ ((64 : Int) < (R : Int)) := by omega
  clear h0 hs hV h h' hmk
  go_enter Try.func22, Try.ntmps22
  go_wp2_with fail
  refine (refsizes_ok N C D s A A' ca cb _ H0.out).mono ?_
  rintro e w1 ⟨rfl, hb⟩
  have hcc := (CodeAt.new w N C D s).below hb (Nat.le_refl _)
  have HB : Hid (Below w.heap.size w w1) := Lib.hid (((Below.refl _ _).alloc (Nat.le_refl _) _).trans (hb.mono (by simp)))
  have c0 := hcc.c0; have c1 := hcc.c1; have c2 := hcc.c2; have c3 := hcc.c3
  have HCC := Lib.hid hcc
  clear hb hcc
  go_wp2_with fail
  refine (refMatrix_ok N C D s _ H0.out HS.out).mono ?_
  rintro e w2 ⟨A2, k2, rows, rfl, hk2, hrows, hll, hb2⟩
  obtain ⟨cols, hcols⟩ : ∃ cols, cols = colsL C D s N := ⟨_, rfl⟩
  rw [← hcols] at hrows HV HM
  have HLL := Lib.hid hll
  have HCO : Hid (cols.length = N) := Lib.hid (by rw [hcols, colsL_len])
  have HC : Hid (∀ l ∈ cols, ∀ x ∈ l, 0 ≤ x ∧ x < C) := Lib.hid (fun l hl => (HM.out l hl).2)
  have HRW : Hid (rows = matL C cols) := Lib.hid hrows
  have HRM : Hid (∀ r ∈ rows, r.length ≤ 2048 ∧ ∀ x ∈ r, 0 ≤ x ∧ x < N) := Lib.hid (fun r hr => by
    rw [hrows] at hr
    have h1 := matL_mem _ _ r hr
    have h2 := matL_short C 4 cols (fun l hl => by have := (HM.out l hl).1; omega) r hr
    rw [HCO.out] at h1 h2
    exact ⟨by omega, h1⟩)
  have HCD := Lib.hid (HCC.out.past hb2 HCC.out.lt)
  have HB2 := Lib.hid (bnext HB.out hb2)
  have HA := Lib.hid ((H.out.past HB.out).past hb2); have HA' := Lib.hid ((H'.out.past HB.out).past hb2)
  have HRL : Hid (rows.length = C) := Lib.hid hll.len
  have HBL : Hid (bs.length = N) := Lib.hid (by have := HA.out.1; simpa using this)
  have hN1 : 0 < N := by omega
  clear hcols hll hb2 c0 c1 c2 c3 HCC HB H H' HM hrows
  dsimp only
  go_wp2_with (at_builtin; refine wpList_copyB elB_b5 (.tmp 40) (.tmp 41) rfl rfl rfl rfl (HA.out.alloc (Nat.le_refl _) _) (by omega) (by decide) ?_; intro Ax cx w3 hcx hrx hox hb3; have HOX := Lib.hid (ownsRow_base (hox hN1) (show w2.heap.size ≤ _ by simp)); have HB3 := Lib.hid ((((Below.refl w2.heap.size w2).alloc (Nat.le_refl _) _)).trans (hb3.mono (by simp))); clear hrx hox hb3)
  go_loopw [15] (fun i wr => ∃ (r : Nat) (x : List Bool), r ≤ R + 1 ∧ i = .int .i64 r ∧ x.length = N ∧ decL C cols ss (R + 1 - r) r x = V ∧ wr.ownsRow w2.heap.size 4 1 (.slice Ax N cx) N (x.map Value.bool) ∧ Below w2.heap.size w2 wr) (fun i _ => R + 1 - (intOf i).toNat)
  case atStart => exact ⟨0, bs, Nat.zero_le _, rfl, HBL.out, HV.out, HOX.out, HB3.out⟩
  case round =>
    obtain ⟨r, x, hr, rfl, hxl, hdec, hown, hbw⟩ := hrel
    obtain ⟨wa, rfl⟩ : ∃ z : World, z = wr := ⟨_, rfl⟩
    have HXL := Lib.hid hxl; have HDC := Lib.hid hdec; have HO := Lib.hid hown; have HBW := Lib.hid hbw
    have c0 := (HCD.out.past hbw HCD.out.lt).c0
    clear hxl hdec hown hbw HOX HB3 HV
    by_cases hlt : r < R + 1
    · have hri : (r : Int) ≤ (R : Int) := by omega
      have hmk := HMK.out
      obtain ⟨now, hnow⟩ : ∃ now, now = synL C x cols := ⟨_, rfl⟩
      have HNW := Lib.hid hnow
      have HNL : Hid (now.length = C) := Lib.hid (by rw [hnow, synL_len])
      obtain ⟨f, hf⟩ : ∃ f, R + 1 - r = f + 1 := ⟨R - r, by omega⟩
      obtain ⟨vt, hvt⟩ : ∃ vt, vt = votesC cols (badF now ss) := ⟨_, rfl⟩
      have hD := HDC.out
      rw [hf, decL, ← hnow, show votesX C cols ss x = vt by unfold votesX; rw [← hnow, hvt]] at hD
      have HD := Lib.hid hD; have HF := Lib.hid hf
      have HVT : Hid (votesR N rows (badF now ss) C = vt) := Lib.hid (by rw [hvt, ← votes_eq cols _ HC.out, HCO.out, HRW.out])
      have HPAR : Hid (∀ i (hi : i < rows.length), parL x rows[i] = now.getD i false) := Lib.hid (fun i hi => by
        rw [hnow, syn_mat x cols HC.out i (by rw [← HRL.out]; exact hi), ← HRW.out, List.getD_eq_getElem?_getD, List.getElem?_eq_getElem hi]; rfl)
      clear hf hvt hD hnow HDC
      go_wp2_with fail
      clear hmk c0
      have hown := own_new wa (Array.replicate N (.int .i64 0)) 3 N (by simp) (by omega)
      have HI0 : Hid (VoI wa (wa.alloc (.cells (Array.replicate N (.int .i64 0)) 3)) N 0 0 (List.replicate N 0) (votesR N rows (badF now ss) 0)) := Lib.hid ⟨by simpa using hown, (Below.refl _ _).alloc (Nat.le_refl _) _, rfl, (maxL_zero N).symm, fun u hu => by rw [List.eq_of_mem_replicate hu]; exact Nat.le_refl _, by simp⟩
      clear hown
      generalize wa.alloc (.cells (Array.replicate N (.int .i64 0)) 3) = w6 at HI0 ⊢
      go_loopw [17, 18, 19] (fun mo op i wr => ∃ (k M : Nat) (Vk : List Nat) (Mi : Int) (o : Bool), k ≤ C ∧ i = .int .i64 k ∧ mo = .int .i64 Mi ∧ op = .bool o ∧ Mi = (M : Int) ∧ o = openB (badF now ss) k ∧ VoI wa wr N (k * 4096) M Vk (votesR N rows (badF now ss) k)) (fun _ _ i _ => C - (intOf i).toNat)
      case atStart => exact ⟨0, 0, _, 0, false, Nat.zero_le _, rfl, rfl, rfl, rfl, rfl, by rw [Nat.zero_mul]; exact HI0.out⟩
      case round =>
        obtain ⟨k, M, Vk, Mi, o, hk, rfl, rfl, rfl, hMi, ho, hI⟩ := hrel
        obtain ⟨wb, rfl⟩ : ∃ z : World, z = wr := ⟨_, rfl⟩
        have HI6 := Lib.hid hI; have HMI := Lib.hid hMi; have HOP := Lib.hid ho
        clear hI hMi ho HI0
        have HB6 := Lib.hid (HBW.out.trans (HI6.out.bl.mono HBW.out.size))
        by_cases hlk : k < C
        · have hki : (k : Int) < (C : Int) := by omega
          have hkr : k < rows.length := by rw [HRL.out]; exact hlk
          obtain ⟨b1, o1, Ai, ci, rfl, ⟨_, hb1⟩, hcell, hle, hrd, _⟩ := HLL.out.row k hkr
          have hcell6 := (HB6.out.cell (p := ⟨b1, o1 + k, none⟩) hb1).trans hcell
          have hrm := HRM.out _ (List.getElem_mem hkr)
          have hpar := HPAR.out k hkr
          have hvr : votesR N rows (badF now ss) (k + 1) = if badF now ss k = true then rowV (votesR N rows (badF now ss) k) rows[k] else votesR N rows (badF now ss) k := by
            rw [votesR, List.getD_eq_getElem?_getD, List.getElem?_eq_getElem hkr]; rfl
          obtain ⟨l, hl⟩ : ∃ l, l = rows[k] := ⟨_, rfl⟩
          rw [← hl] at hcell hcell6 hle hrd hrm hpar hvr
          obtain ⟨b5, o5, hA5, hb5, hs5⟩ := bool_cell HA'.out hlk
          have hs6 := (HB6.out.cell (p := ⟨b5, o5 + k, none⟩) hb5).trans hs5
          subst hA5
          have hbad : badF now ss k = (now.getD k false != ss.getD k false) := rfl
          have HOS := Lib.hid (openB_succ (badF now ss) k)
          rw [hbad] at hvr HOS
          rw [← HOP.out] at HOS
          have HRD := Lib.hid hrd; have HRM2 := Lib.hid hrm; have HPR := Lib.hid hpar; have HVR := Lib.hid hvr; have HC1 := Lib.hid hcell; have HB1 := Lib.hid hb1
          have hl2 := HRM2.out.1
          have HX6 : Hid (Rd wb wb.heap.size 1 Ax N (x.map Value.bool)) := Lib.hid ((Rd.own HO.out).past HI6.out.bl)
          clear hl hrd hrm hpar hvr hbad hkr hcell hb1 hb5 hs5
          generalize ss.getD k false = sb at hs6 HVR HOS
          generalize now.getD k false = nb at HVR HOS HPR
          cases nb <;> cases sb
          case false.false =>
            go_wp2_with fail
            go_region_held3 (fun w' => w'.cell? ⟨b1, o1 + k, none⟩ = some (.slice Ai l.length ci) ∧ w'.cell? ⟨b5, o5 + k, none⟩ = some (.bool false)) (exact ⟨hcell6, hs6⟩)
              ((go_at_call 29
                refine (refparity_any Ax Ai N cx l.length ci x l _ _ (by omega) (by omega) (HX6.out.q (w' := World.drew _) ⟨1, rfl⟩) ((HRD.out.past HB6.out).q (w' := World.drew _) ⟨1, rfl⟩) HRM2.out.2).mono ?_
                rintro e w7 ⟨rfl, rfl⟩
                rw [HPR.out]))
            have HV2 : Hid (votesR N rows (badF now ss) (k + 1) = votesR N rows (badF now ss) k) := Lib.hid (by rw [HVR.out]; rfl)
            have HO2 : Hid (o = openB (badF now ss) (k + 1)) := Lib.hid (by rw [HOS.out]; simp)
            clear HVR HOS hcell6 hs6
            go_wp2_with fail
            go_roundw
            case rel => exact ⟨k + 1, M, Vk, Mi, o, hlk, by go_num, rfl, rfl, HMI.out, HO2.out, by
              have h := HI6.out.q (w' := World.drew _) ⟨1, rfl⟩
              exact ⟨h.own, h.bl, by rw [HV2.out]; exact h.is, h.mx, fun u hu => by have := h.le u hu; omega, h.len⟩⟩
            case measure => simp [intOf]; omega
          case true.true =>
            go_wp2_with fail
            go_region_held3 (fun w' => w'.cell? ⟨b1, o1 + k, none⟩ = some (.slice Ai l.length ci) ∧ w'.cell? ⟨b5, o5 + k, none⟩ = some (.bool true)) (exact ⟨hcell6, hs6⟩)
              ((go_at_call 29
                refine (refparity_any Ax Ai N cx l.length ci x l _ _ (by omega) (by omega) (HX6.out.q (w' := World.drew _) ⟨1, rfl⟩) ((HRD.out.past HB6.out).q (w' := World.drew _) ⟨1, rfl⟩) HRM2.out.2).mono ?_
                rintro e w7 ⟨rfl, rfl⟩
                rw [HPR.out]))
            have HV2 : Hid (votesR N rows (badF now ss) (k + 1) = votesR N rows (badF now ss) k) := Lib.hid (by rw [HVR.out]; rfl)
            have HO2 : Hid (o = openB (badF now ss) (k + 1)) := Lib.hid (by rw [HOS.out]; simp)
            clear HVR HOS hcell6 hs6
            go_wp2_with fail
            go_roundw
            case rel => exact ⟨k + 1, M, Vk, Mi, o, hlk, by go_num, rfl, rfl, HMI.out, HO2.out, by
              have h := HI6.out.q (w' := World.drew _) ⟨1, rfl⟩
              exact ⟨h.own, h.bl, by rw [HV2.out]; exact h.is, h.mx, fun u hu => by have := h.le u hu; omega, h.len⟩⟩
            case measure => simp [intOf]; omega
          case false.true =>
            go_wp2_with fail
            go_region_held3 (fun w' => w'.cell? ⟨b1, o1 + k, none⟩ = some (.slice Ai l.length ci) ∧ w'.cell? ⟨b5, o5 + k, none⟩ = some (.bool true)) (exact ⟨hcell6, hs6⟩)
              ((go_at_call 29
                refine (refparity_any Ax Ai N cx l.length ci x l _ _ (by omega) (by omega) (HX6.out.q (w' := World.drew _) ⟨1, rfl⟩) ((HRD.out.past HB6.out).q (w' := World.drew _) ⟨1, rfl⟩) HRM2.out.2).mono ?_
                rintro e w7 ⟨rfl, rfl⟩
                rw [HPR.out]))
            have HV2 : Hid (votesR N rows (badF now ss) (k + 1) = rowV (votesR N rows (badF now ss) k) l) := Lib.hid (by rw [HVR.out]; rfl)
            have HO2 : Hid (true = openB (badF now ss) (k + 1)) := Lib.hid (by rw [HOS.out]; simp)
            clear HVR HOS hcell6 hs6
            have HI7 := Lib.hid (HI6.out.q (w' := World.drew _) ⟨1, rfl⟩)
            go_wp2_with fail
            go_loopw [17, 20] (fun mo i wr => ∃ (j M2 : Nat) (V2 : List Nat) (Mj : Int), j ≤ l.length ∧ i = .int .i64 j ∧ mo = .int .i64 Mj ∧ Mj = (M2 : Int) ∧ VoI wa wr N (k * 4096 + j) M2 V2 (rowV (votesR N rows (badF now ss) k) (l.take j))) (fun _ i _ => l.length - (intOf i).toNat)
            case atStart => exact ⟨0, M, Vk, Mi, Nat.zero_le _, rfl, rfl, HMI.out, HI7.out⟩
            case round =>
              obtain ⟨j, M2, V2, Mj, hj, rfl, rfl, hMj, hI⟩ := hrel
              obtain ⟨wc, rfl⟩ : ∃ z : World, z = wr := ⟨_, rfl⟩
              have HI8 := Lib.hid hI; have HMJ := Lib.hid hMj
              have HB8 := Lib.hid (HBW.out.trans (hI.bl.mono HBW.out.size))
              clear hI hMj
              have hcell8 := (HB8.out.cell (p := ⟨b1, o1 + k, none⟩) HB1.out).trans HC1.out
              by_cases hlj : j < l.length
              · have hji : (j : Int) < (l.length : Int) := by omega
                obtain ⟨b3, o3, hA3, hb3, hx⟩ := int_cell HRD.out hlj
                have hx8 := (HB8.out.cell (p := ⟨b3, o3 + j, none⟩) hb3).trans hx
                subst hA3
                have hxr := HRM2.out.2 _ (List.getElem_mem hlj)
                have HS3 : Hid (rowV (votesR N rows (badF now ss) k) (l.take (j + 1)) = bumpV (rowV (votesR N rows (badF now ss) k) (l.take j)) l[j]) := Lib.hid (by rw [take_snoc _ _ hlj, rowV_snoc])
                generalize l[j] = xx at hx8 hx hxr HS3
                obtain ⟨q, rfl⟩ := Int.eq_ofNat_of_zero_le hxr.1
                have hq : q < N := by omega
                have hqi : (q : Int) < (N : Int) := hxr.2
                have hqv : q < V2.length := by rw [HI8.out.len]; exact hq
                have hVq : V2.getD q 0 = V2[q] := by simp [List.getD_eq_getElem?_getD, hqv]
                have hle8 := HI8.out.le _ (List.getElem_mem hqv)
                have hwl : w2.heap.size ≤ wa.heap.size := HBW.out.size
                obtain ⟨y, hy⟩ : ∃ y : Int, y = ((V2.getD q 0 : Nat) : Int) := ⟨_, rfl⟩
                have e0 : wc.cell? ⟨wa.heap.size, q, none⟩ = some (.int .i64 y) := by
                  rw [HI8.out.own.cellAt q (by omega), List.getElem?_map, List.getElem?_eq_getElem hqv, hy, hVq]; rfl
                have f0 := HI8.out.own.frozenAt q
                have hbm := HI8.out.bump hq hy
                have hy0 : 0 ≤ y := by omega
                have hy2 : y ≤ 100000000 := by rw [hy, hVq]; omega
                have HBM := Lib.hid hbm
                have g1 : (wc.setCell ⟨wa.heap.size, q, none⟩ (.int .i64 (y + 1))).cell? ⟨b1, o1 + k, none⟩ = some (.slice (some ⟨b3, o3, none⟩) l.length ci) := by
                  rw [World.cell?_setCell_other _ _ _ _ (fun e => by have := congrArg Addr.block e; have := HB1.out; simp only at *; omega)]; exact hcell8
                have g2 : (wc.setCell ⟨wa.heap.size, q, none⟩ (.int .i64 (y + 1))).cell? ⟨b3, o3 + j, none⟩ = some (.int .i64 (q : Int)) := by
                  rw [World.cell?_setCell_other _ _ _ _ (fun e => by have := congrArg Addr.block e; simp only at *; omega)]; exact hx8
                have g3 : (wc.setCell ⟨wa.heap.size, q, none⟩ (.int .i64 (y + 1))).cell? ⟨wa.heap.size, q, none⟩ = some (.int .i64 (y + 1)) := cell_set e0
                obtain ⟨Mz, hMz⟩ : ∃ Mz : Int, Mz = max Mj (y + 1) := ⟨_, rfl⟩
                have HMZ : Hid (Mz = ((max M2 (V2.getD q 0 + 1) : Nat) : Int)) := Lib.hid (by rw [hMz, HMJ.out, hy]; omega)
                have hmz := hMz.symm
                clear hbm hVq hqv hle8 hy hx hxr hb3 hMz
                go_wp2_with fail
                go_roundw
                case rel => exact ⟨j + 1, _, _, Mz, hlj, by go_num, rfl, HMZ.out, by rw [HS3.out]; exact HBM.out⟩
                case measure => simp [intOf]; omega
              · have hji : ¬ (j : Int) < (l.length : Int) := by omega
                have HE : Hid (VoI wa wc N ((k + 1) * 4096) M2 V2 (votesR N rows (badF now ss) (k + 1))) := Lib.hid (by
                  have h := HI8.out
                  rw [List.take_of_length_le (by omega), ← HV2.out] at h
                  exact ⟨h.own, h.bl, h.is, h.mx, fun u hu => by have := h.le u hu; omega, h.len⟩)
                go_wp2_with fail
                go_roundw
                case rel => exact ⟨k + 1, M2, V2, Mj, true, hlk, by go_num, rfl, rfl, HMJ.out, HO2.out, HE.out⟩
                case measure => simp [intOf]; omega
          case true.false =>
            go_wp2_with fail
            go_region_held3 (fun w' => w'.cell? ⟨b1, o1 + k, none⟩ = some (.slice Ai l.length ci) ∧ w'.cell? ⟨b5, o5 + k, none⟩ = some (.bool false)) (exact ⟨hcell6, hs6⟩)
              ((go_at_call 29
                refine (refparity_any Ax Ai N cx l.length ci x l _ _ (by omega) (by omega) (HX6.out.q (w' := World.drew _) ⟨1, rfl⟩) ((HRD.out.past HB6.out).q (w' := World.drew _) ⟨1, rfl⟩) HRM2.out.2).mono ?_
                rintro e w7 ⟨rfl, rfl⟩
                rw [HPR.out]))
            have HV2 : Hid (votesR N rows (badF now ss) (k + 1) = rowV (votesR N rows (badF now ss) k) l) := Lib.hid (by rw [HVR.out]; rfl)
            have HO2 : Hid (true = openB (badF now ss) (k + 1)) := Lib.hid (by rw [HOS.out]; simp)
            clear HVR HOS hcell6 hs6
            have HI7 := Lib.hid (HI6.out.q (w' := World.drew _) ⟨1, rfl⟩)
            go_wp2_with fail
            go_loopw [17, 20] (fun mo i wr => ∃ (j M2 : Nat) (V2 : List Nat) (Mj : Int), j ≤ l.length ∧ i = .int .i64 j ∧ mo = .int .i64 Mj ∧ Mj = (M2 : Int) ∧ VoI wa wr N (k * 4096 + j) M2 V2 (rowV (votesR N rows (badF now ss) k) (l.take j))) (fun _ i _ => l.length - (intOf i).toNat)
            case atStart => exact ⟨0, M, Vk, Mi, Nat.zero_le _, rfl, rfl, HMI.out, HI7.out⟩
            case round =>
              obtain ⟨j, M2, V2, Mj, hj, rfl, rfl, hMj, hI⟩ := hrel
              obtain ⟨wc, rfl⟩ : ∃ z : World, z = wr := ⟨_, rfl⟩
              have HI8 := Lib.hid hI; have HMJ := Lib.hid hMj
              have HB8 := Lib.hid (HBW.out.trans (hI.bl.mono HBW.out.size))
              clear hI hMj
              have hcell8 := (HB8.out.cell (p := ⟨b1, o1 + k, none⟩) HB1.out).trans HC1.out
              by_cases hlj : j < l.length
              · have hji : (j : Int) < (l.length : Int) := by omega
                obtain ⟨b3, o3, hA3, hb3, hx⟩ := int_cell HRD.out hlj
                have hx8 := (HB8.out.cell (p := ⟨b3, o3 + j, none⟩) hb3).trans hx
                subst hA3
                have hxr := HRM2.out.2 _ (List.getElem_mem hlj)
                have HS3 : Hid (rowV (votesR N rows (badF now ss) k) (l.take (j + 1)) = bumpV (rowV (votesR N rows (badF now ss) k) (l.take j)) l[j]) := Lib.hid (by rw [take_snoc _ _ hlj, rowV_snoc])
                generalize l[j] = xx at hx8 hx hxr HS3
                obtain ⟨q, rfl⟩ := Int.eq_ofNat_of_zero_le hxr.1
                have hq : q < N := by omega
                have hqi : (q : Int) < (N : Int) := hxr.2
                have hqv : q < V2.length := by rw [HI8.out.len]; exact hq
                have hVq : V2.getD q 0 = V2[q] := by simp [List.getD_eq_getElem?_getD, hqv]
                have hle8 := HI8.out.le _ (List.getElem_mem hqv)
                have hwl : w2.heap.size ≤ wa.heap.size := HBW.out.size
                obtain ⟨y, hy⟩ : ∃ y : Int, y = ((V2.getD q 0 : Nat) : Int) := ⟨_, rfl⟩
                have e0 : wc.cell? ⟨wa.heap.size, q, none⟩ = some (.int .i64 y) := by
                  rw [HI8.out.own.cellAt q (by omega), List.getElem?_map, List.getElem?_eq_getElem hqv, hy, hVq]; rfl
                have f0 := HI8.out.own.frozenAt q
                have hbm := HI8.out.bump hq hy
                have hy0 : 0 ≤ y := by omega
                have hy2 : y ≤ 100000000 := by rw [hy, hVq]; omega
                have HBM := Lib.hid hbm
                have g1 : (wc.setCell ⟨wa.heap.size, q, none⟩ (.int .i64 (y + 1))).cell? ⟨b1, o1 + k, none⟩ = some (.slice (some ⟨b3, o3, none⟩) l.length ci) := by
                  rw [World.cell?_setCell_other _ _ _ _ (fun e => by have := congrArg Addr.block e; have := HB1.out; simp only at *; omega)]; exact hcell8
                have g2 : (wc.setCell ⟨wa.heap.size, q, none⟩ (.int .i64 (y + 1))).cell? ⟨b3, o3 + j, none⟩ = some (.int .i64 (q : Int)) := by
                  rw [World.cell?_setCell_other _ _ _ _ (fun e => by have := congrArg Addr.block e; simp only at *; omega)]; exact hx8
                have g3 : (wc.setCell ⟨wa.heap.size, q, none⟩ (.int .i64 (y + 1))).cell? ⟨wa.heap.size, q, none⟩ = some (.int .i64 (y + 1)) := cell_set e0
                obtain ⟨Mz, hMz⟩ : ∃ Mz : Int, Mz = max Mj (y + 1) := ⟨_, rfl⟩
                have HMZ : Hid (Mz = ((max M2 (V2.getD q 0 + 1) : Nat) : Int)) := Lib.hid (by rw [hMz, HMJ.out, hy]; omega)
                have hmz := hMz.symm
                clear hbm hVq hqv hle8 hy hx hxr hb3 hMz
                go_wp2_with fail
                go_roundw
                case rel => exact ⟨j + 1, _, _, Mz, hlj, by go_num, rfl, HMZ.out, by rw [HS3.out]; exact HBM.out⟩
                case measure => simp [intOf]; omega
              · have hji : ¬ (j : Int) < (l.length : Int) := by omega
                have HE : Hid (VoI wa wc N ((k + 1) * 4096) M2 V2 (votesR N rows (badF now ss) (k + 1))) := Lib.hid (by
                  have h := HI8.out
                  rw [List.take_of_length_le (by omega), ← HV2.out] at h
                  exact ⟨h.own, h.bl, h.is, h.mx, fun u hu => by have := h.le u hu; omega, h.len⟩)
                go_wp2_with fail
                go_roundw
                case rel => exact ⟨k + 1, M2, V2, Mj, true, hlk, by go_num, rfl, rfl, HMJ.out, HO2.out, HE.out⟩
                case measure => simp [intOf]; omega
        · have hki : ¬ (k : Int) < (C : Int) := by omega
          obtain rfl : k = C := by omega
          have HVV : Hid (Vk = vt) := Lib.hid (by rw [HI6.out.is, HVT.out])
          have HMM : Hid (M = maxL vt) := Lib.hid (by rw [HI6.out.mx, HVV.out])
          have HVO : Hid (wb.ownsRow wa.heap.size 3 1 (.slice (some ⟨wa.heap.size, 0, none⟩) N N) N (natC vt)) := Lib.hid (by rw [← HVV.out]; exact HI6.out.own)
          have HVL : Hid (vt.length = N) := Lib.hid (by rw [← HVV.out]; exact HI6.out.len)
          cases o with
          | false =>
            have HE : Hid (V = some (x, r)) := Lib.hid (by
              have h1 : now = ss := bad_none (by have h2 := HA'.out.1; have h3 := HNL.out; simp at h2 <;> omega) (fun j hj => openB_no HOP.out.symm j (by rw [← HNL.out]; exact hj))
              have := HD.out
              rw [if_pos h1] at this
              exact this.symm)
            have HOE := Lib.hid (ownsRow_below HO.out HI6.out.bl (Nat.le_refl _))
            go_wp2_with fail
            go_ret3
            exact ⟨.inl ⟨x, r, Ax, cx, HE.out, rfl, (by obtain ⟨A9, c9, e9, h9⟩ := own_form HO.out; injection e9), Rd.own HOE.out⟩, HB2.out.trans (HB6.out.mono HB2.out.size)⟩
          | true =>
            have HNE : Hid (now ≠ ss) := Lib.hid (by
              obtain ⟨j, hj, hb⟩ := openB_yes HOP.out.symm
              intro e
              subst e
              unfold badF at hb
              simp at hb)
            have hw52 := HB6.out.size
            by_cases hm0 : M = 0
            · have HE : Hid (V = none) := Lib.hid (by
                have := HD.out
                rw [if_neg HNE.out, if_pos (by rw [← HMM.out]; exact hm0)] at this
                exact this.symm)
              obtain rfl : Mi = 0 := by rw [HMI.out, hm0]; rfl
              go_wp2_with fail
              go_ret3
              exact ⟨.inr ⟨HE.out, rfl⟩, HB2.out.trans (HB6.out.mono HB2.out.size)⟩
            · have HE : Hid (decL k cols ss f (r + 1) (flipM x vt M) = V) := Lib.hid (by
                have := HD.out
                rw [if_neg HNE.out, if_neg (by rw [← HMM.out]; exact hm0), ← HMM.out] at this
                exact this)
              have hmi : (Mi == 0) = false := by rw [HMI.out]; simpa using hm0
              have hown : wb.ownsRow w2.heap.size 4 1 (.slice Ax N cx) N ((flipT x vt M 0).map Value.bool) := by
                rw [flipT_zero]; exact ownsRow_below HO.out HI6.out.bl (Nat.le_refl _)
              have HOX := Lib.hid hown
              obtain ⟨gx, cpx, hvx⟩ := own_head hown (by omega)
              injection hvx with hAx _ hcx2
              subst hAx; subst hcx2
              have hgx : gx < wa.heap.size := (HO.out.lt gx rfl).2
              have HXV : Hid (x.length = vt.length) := Lib.hid (by rw [HXL.out, HVL.out])
              have HGX := Lib.hid hgx
              clear hown hm0 hgx
              go_wp2_with fail
              go_loopw [21] (fun i wr => ∃ q : Nat, q ≤ N ∧ i = .int .i64 q ∧ wr.ownsRow w2.heap.size 4 1 (.slice (some ⟨gx, 0, none⟩) N cx) N ((flipT x vt M q).map Value.bool) ∧ wr.ownsRow wa.heap.size 3 1 (.slice (some ⟨wa.heap.size, 0, none⟩) N N) N (natC vt) ∧ Below w2.heap.size w2 wr) (fun i _ => N - (intOf i).toNat)
              case atStart => exact ⟨0, Nat.zero_le _, rfl, HOX.out, HVO.out, HB6.out⟩
              case round =>
                obtain ⟨q, hq, rfl, hox, hov, hbw⟩ := hrel
                obtain ⟨wc, rfl⟩ : ∃ z : World, z = wr := ⟨_, rfl⟩
                have HO8 := Lib.hid hox; have HV8 := Lib.hid hov; have HB8 := Lib.hid hbw
                have c0 := (HCD.out.past hbw HCD.out.lt).c0
                clear hox hov hbw HOX HVO
                by_cases hlq : q < N
                · have hqi : (q : Int) < (N : Int) := by omega
                  have hqv : q < vt.length := by rw [HVL.out]; exact hlq
                  have hqx : q < x.length := by rw [HXL.out]; exact hlq
                  have r1 : wc.cell? ⟨wa.heap.size, q, none⟩ = some (.int .i64 (vt[q] : Nat)) := by
                    rw [HV8.out.cellAt q (by omega), List.getElem?_map, List.getElem?_eq_getElem hqv]; rfl
                  have HFS := Lib.hid (flipT_step HXV.out M hqx)
                  have hgv : vt.getD q 0 = vt[q] := by simp [List.getD_eq_getElem?_getD, hqv]
                  rw [hgv] at HFS
                  generalize vt[q] = vq at r1 HFS
                  obtain ⟨y, hy⟩ : ∃ y : Int, y = (vq : Int) := ⟨_, rfl⟩
                  rw [← hy] at r1
                  by_cases hvm : vq = M
                  · have hyb : (y == Mi) = true := by rw [hy, hvm, HMI.out]; simp
                    have HFS2 : Hid (flipT x vt M (q + 1) = (flipT x vt M q).set q (!(x.getD q false))) := Lib.hid (by rw [HFS.out, if_pos hvm])
                    have hfl : q < (flipT x vt M q).length := by rw [flipT_len HXV.out]; exact hqx
                    have r2 : wc.cell? ⟨gx, q, none⟩ = some (.bool (x.getD q false)) := by
                      rw [HO8.out.cellAt q (by omega), List.getElem?_map, List.getElem?_eq_getElem hfl, ← flipT_get HXV.out M hqx, getD_at _ _ hfl]; rfl
                    have f2 := HO8.out.frozenAt q
                    have hst := (HO8.out.stored q (.bool (!(x.getD q false)))).1
                    rw [← List.map_set, ← HFS2.out] at hst
                    have hsv : (wc.setCell ⟨gx, q, none⟩ (.bool (!(x.getD q false)))).ownsRow wa.heap.size 3 1 (.slice (some ⟨wa.heap.size, 0, none⟩) N N) N (natC vt) := ownsRow_setCell_other HV8.out (by intro e; injection e with e; have := HGX.out; simp only at e; omega) _
                    have hgl := (HO8.out.lt gx rfl).1
                    have HST := Lib.hid hst; have HSV := Lib.hid hsv; have HBS := Lib.hid (HB8.out.setCell (p := ⟨gx, q, none⟩) hgl (.bool (!(x.getD q false))))
                    generalize x.getD q false = xq at r2 HST HSV HBS
                    clear hst hsv hgl hfl hvm hy hqx hqv hgv HFS
                    go_wp2_with fail
                    go_roundw
                    case rel => exact ⟨q + 1, hlq, by go_num, HST.out, HSV.out, HBS.out⟩
                    case measure => simp [intOf]; omega
                  · have hyb : (y == Mi) = false := by rw [hy, HMI.out]; simpa using (by omega : ¬ (vq : Int) = M)
                    have HFS2 : Hid (flipT x vt M (q + 1) = flipT x vt M q) := Lib.hid (by rw [HFS.out, if_neg hvm])
                    clear hvm hy hqx hqv hgv HFS
                    go_wp2_with fail
                    go_roundw
                    case rel => exact ⟨q + 1, hlq, by go_num, by rw [HFS2.out]; exact HO8.out, HV8.out, HB8.out⟩
                    case measure => simp [intOf]; omega
                · have hqi : ¬ (q : Int) < (N : Int) := by omega
                  obtain rfl : q = N := by omega
                  have HXN : Hid (wc.ownsRow w2.heap.size 4 1 (.slice (some ⟨gx, 0, none⟩) q cx) q ((flipM x vt M).map Value.bool)) := Lib.hid (by
                    have h1 := HO8.out
                    have e := flipT_all HXV.out M
                    rw [HXL.out] at e
                    rw [e] at h1
                    exact h1)
                  have HXL2 : Hid ((flipM x vt M).length = q) := Lib.hid (by rw [flipM_len HXV.out, HXL.out])
                  have HE2 : Hid (decL k cols ss (R + 1 - (r + 1)) (r + 1) (flipM x vt M) = V) := Lib.hid (by
                    have := HF.out
                    rw [show R + 1 - (r + 1) = f by omega]; exact HE.out)
                  go_wp2_with fail
                  go_roundw
                  case rel => exact ⟨r + 1, flipM x vt M, hlt, by go_num, HXL2.out, HE2.out, HXN.out, HB8.out⟩
                  case measure => simp [intOf]; omega
    · have hri : ¬ (r : Int) ≤ (R : Int) := by omega
      have HE : Hid (V = none) := Lib.hid (by
        have := HDC.out
        rw [show R + 1 - r = 0 by omega, decL] at this
        exact this.symm)
      go_wp2_with fail
      go_ret3
      exact ⟨.inr ⟨HE.out, rfl⟩, HB2.out.trans (HBW.out.mono HB2.out.size)⟩
#print axioms refDecode_ok
end Go.Proofs.Ytfinjdkcgmepfaa
/- The walk of ReconcileDecodes: it returns true for any input. Conditions: none beyond the arguments' types. -/
namespace Go.Proofs.Ytfinjdkcgmepfaa
open Go.RowKit
set_option linter.unusedVariables false
/-- The error of Decode. -/
def decE (N C D : Int) (n m : Nat) (R : Int) : Int := if fitE N C D n m ≠ 0 then fitE N C D n m else if R < 0 ∨ 64 < R then 3 else 0
def DecB (E : Int) (w : World) (e : Ending) (w' : World) : Prop := e = .returned (.tuple #[.slice none 0 0, .int .i64 0, .int .i64 E]) ∧ Below w.heap.size w w'
set_option maxHeartbeats 1000000 in
theorem Decode_bad (N C D : Int) (s : Nat) (A A' : Option Addr) (n ca m cb : Nat) (R : Int) (w : World) (h : decE N C D n m R ≠ 0) :
    Calls Try.prog 21 #[codV N C D s, .slice A n ca, .slice A' m cb, .int .i64 R] w (DecB (decE N C D n m R) w) := by
  by_cases h0 : fitE N C D n m = 0
  · have h2 : R < 0 ∨ (0 ≤ R ∧ 64 < R) := by unfold decE at h; rw [if_neg (by simpa using h0)] at h; split at h <;> omega
    have HE : Hid (decE N C D n m R = 3) := Lib.hid (by unfold decE; rw [if_neg (by simpa using h0), if_pos (by omega)])
    have H0 := Lib.hid h0
    clear h h0
    rcases h2 with h2 | ⟨h2, h3⟩
    all_goals
      go_enter Try.func21, Try.ntmps21
      go_wp2_with fail
      refine (fits5_any N C D s A A' n ca m cb _).mono ?_
      rintro e w1 ⟨⟨E, hE, rfl⟩, hb⟩
      obtain rfl : E = 0 := by rw [hE, H0.out]
      have HB : Hid (Below w.heap.size w w1) := Lib.hid (((Below.refl _ _).alloc (Nat.le_refl _) _).trans (hb.mono (by simp)))
      clear hb hE
      go_wp2_with fail
      go_ret3
      exact ⟨by rw [HE.out]; rfl, HB.out⟩
  · have hv : fitE N C D n m = 2 ∨ fitE N C D n m = 22 := by unfold fitE at *; split at h0 <;> split <;> simp_all
    have HE : Hid (decE N C D n m R = fitE N C D n m) := Lib.hid (by unfold decE; rw [if_pos h0])
    clear h
    obtain ⟨F, hF⟩ : ∃ F, F = fitE N C D n m := ⟨_, rfl⟩
    rw [← hF] at hv HE
    have hF0 : (F != 0) = true := by rcases hv with h | h <;> rw [h] <;> rfl
    have HF := Lib.hid hF
    clear hv h0 hF
    go_enter Try.func21, Try.ntmps21
    go_wp2_with fail
    refine (fits5_any N C D s A A' n ca m cb _).mono ?_
    rintro e w1 ⟨⟨E, hE, rfl⟩, hb⟩
    obtain rfl : E = F := by rw [hE, HF.out]
    have HB : Hid (Below w.heap.size w w1) := Lib.hid (((Below.refl _ _).alloc (Nat.le_refl _) _).trans (hb.mono (by simp)))
    clear hb hE
    go_wp2_with fail
    go_ret3
    exact ⟨by rw [HE.out]; rfl, HB.out⟩
set_option maxHeartbeats 1000000 in
theorem refDecode_bad (N C D : Int) (s : Nat) (A A' : Option Addr) (n ca m cb : Nat) (R : Int) (w : World) (h : decE N C D n m R ≠ 0) :
    Calls Try.prog 22 #[codV N C D s, .slice A n ca, .slice A' m cb, .int .i64 R] w (DecB (decE N C D n m R) w) := by
  by_cases h0 : fitE N C D n m = 0
  · have h2 : R < 0 ∨ (0 ≤ R ∧ 64 < R) := by unfold decE at h; rw [if_neg (by simpa using h0)] at h; split at h <;> omega
    have HE : Hid (decE N C D n m R = 3) := Lib.hid (by unfold decE; rw [if_neg (by simpa using h0), if_pos (by omega)])
    have H0 := Lib.hid h0
    clear h h0
    rcases h2 with h2 | ⟨h2, h3⟩
    all_goals
      go_enter Try.func22, Try.ntmps22
      go_wp2_with fail
      refine (refsizes_any N C D s A A' n ca m cb _).mono ?_
      rintro e w1 ⟨⟨E, hE, rfl⟩, hb⟩
      obtain rfl : E = 0 := by rw [hE, H0.out]
      have HB : Hid (Below w.heap.size w w1) := Lib.hid (((Below.refl _ _).alloc (Nat.le_refl _) _).trans (hb.mono (by simp)))
      clear hb hE
      go_wp2_with fail
      go_ret3
      exact ⟨by rw [HE.out]; rfl, HB.out⟩
  · have hv : fitE N C D n m = 2 ∨ fitE N C D n m = 22 := by unfold fitE at *; split at h0 <;> split <;> simp_all
    have HE : Hid (decE N C D n m R = fitE N C D n m) := Lib.hid (by unfold decE; rw [if_pos h0])
    clear h
    obtain ⟨F, hF⟩ : ∃ F, F = fitE N C D n m := ⟨_, rfl⟩
    rw [← hF] at hv HE
    have hF0 : (F != 0) = true := by rcases hv with h | h <;> rw [h] <;> rfl
    have HF := Lib.hid hF
    clear hv h0 hF
    go_enter Try.func22, Try.ntmps22
    go_wp2_with fail
    refine (refsizes_any N C D s A A' n ca m cb _).mono ?_
    rintro e w1 ⟨⟨E, hE, rfl⟩, hb⟩
    obtain rfl : E = F := by rw [hE, HF.out]
    have HB : Hid (Below w.heap.size w w1) := Lib.hid (((Below.refl _ _).alloc (Nat.le_refl _) _).trans (hb.mono (by simp)))
    clear hb hE
    go_wp2_with fail
    go_ret3
    exact ⟨by rw [HE.out]; rfl, HB.out⟩
/-- What both sides say, in one form. -/
def DecX (N C D : Int) (n m : Nat) (R : Int) (s : Nat) (bs ss : List Bool) (w : World) (e : Ending) (w' : World) : Prop :=
  ∃ A k c z q E, e = .returned (.tuple #[.slice A k c, .int .i64 (q : Int), .int .i64 E]) ∧
    (z, q, E) = (if decE N C D n m R ≠ 0 then (([], 0, decE N C D n m R) : List Bool × Int × Int) else match decL C.toNat (colsL C.toNat D.toNat s N.toNat) ss (R.toNat + 1) 0 bs with | some (z, q) => (z, (q : Int), 0) | none => ([], 0, 18)) ∧ Rd w' w'.heap.size 1 A k (z.map Value.bool) ∧ k ≤ 512 ∧ Below w.heap.size w w'
theorem DecX.bad {N C D : Int} {n m : Nat} {R : Int} {s : Nat} {bs ss : List Bool} {w w' : World} {e : Ending} (h : decE N C D n m R ≠ 0) (hb : DecB (decE N C D n m R) w e w') : DecX N C D n m R s bs ss w e w' :=
  ⟨none, 0, 0, [], 0, _, hb.1, by rw [if_pos h], Rd.nil _ _ _ _, by omega, hb.2⟩
theorem DecX.good {N C D : Nat} {R : Nat} {s : Nat} {bs ss : List Bool} {w w' : World} {e : Ending} (hN : N ≤ 512) (h : decE N C D N C R = 0) (hb : DecP N (decL C (colsL C D s N) ss (R + 1) 0 bs) w e w') : DecX N C D N C R s bs ss w e w' := by
  obtain ⟨⟨z, q, A, c, hV, he, hc, hr⟩ | ⟨hV, he⟩, hb⟩ := hb
  · exact ⟨A, N, c, z, q, 0, he, by rw [if_neg (by simpa using h)]; simp only [Int.toNat_natCast]; rw [hV], hr, hN, hb⟩
  · exact ⟨none, 0, 0, [], 0, 18, he, by rw [if_neg (by simpa using h)]; simp only [Int.toNat_natCast]; rw [hV], Rd.nil _ _ _ _, by omega, hb⟩
theorem decE_ok {N C D : Int} {n m : Nat} {R : Int} (h : decE N C D n m R = 0) : ∃ c d r : Nat, codeE N C D = 0 ∧ N = n ∧ C = m ∧ D = d ∧ R = r ∧ r ≤ 64 := by
  unfold decE at h
  split at h
  · rename_i h2; exact absurd h h2
  · rename_i h2
    split at h
    · cases h
    · obtain ⟨a, b, c⟩ := fitE_ok.1 (show fitE N C D n m = 0 by simpa using h2)
      obtain ⟨n', c', d', e1, e2, e3⟩ := code_nat a
      exact ⟨c', d', R.toNat, a, b.symm, c.symm, e3, by omega, by omega⟩
theorem Decode_any (N C D : Int) (s : Nat) (A A' : Option Addr) (n ca m cb : Nat) (R : Int) (bs ss : List Bool) (w : World) (hs : s < two64) (h : Rd w w.heap.size 1 A n (bs.map Value.bool)) (h' : Rd w w.heap.size 1 A' m (ss.map Value.bool)) :
    Calls Try.prog 21 #[codV N C D s, .slice A n ca, .slice A' m cb, .int .i64 R] w (DecX N C D n m R s bs ss w) := by
  by_cases h0 : decE N C D n m R = 0
  · obtain ⟨c, d, r, hc, rfl, rfl, rfl, rfl, hr⟩ := decE_ok h0
    exact (Decode_ok n m d s A A' ca cb r bs ss _ w hc hs hr rfl h h').mono fun e w' hp => DecX.good (by have := codeE_ok.1 hc; omega) h0 hp
  · exact (Decode_bad N C D s A A' n ca m cb R w h0).mono fun e w' hp => DecX.bad h0 hp
theorem refDecode_any (N C D : Int) (s : Nat) (A A' : Option Addr) (n ca m cb : Nat) (R : Int) (bs ss : List Bool) (w : World) (hs : s < two64) (h : Rd w w.heap.size 1 A n (bs.map Value.bool)) (h' : Rd w w.heap.size 1 A' m (ss.map Value.bool)) :
    Calls Try.prog 22 #[codV N C D s, .slice A n ca, .slice A' m cb, .int .i64 R] w (DecX N C D n m R s bs ss w) := by
  by_cases h0 : decE N C D n m R = 0
  · obtain ⟨c, d, r, hc, rfl, rfl, rfl, rfl, hr⟩ := decE_ok h0
    exact (refDecode_ok n m d s A A' ca cb r bs ss _ w hc hs hr rfl h h').mono fun e w' hp => DecX.good (by have := codeE_ok.1 hc; omega) h0 hp
  · exact (refDecode_bad N C D s A A' n ca m cb R w h0).mono fun e w' hp => DecX.bad h0 hp
set_option maxRecDepth 100000 in
set_option maxHeartbeats 4000000 in
theorem ReconcileDecodes_walk (v0 : Value) (i0 : CodeArg) (v1 : Value) (i1 : BitsArg) (v2 : Value) (i2 : BitsArg) (R : Int) (w : World) (hx0 : IsCode w v0 i0) (hx1 : IsBits w v1 i1) (hx2 : IsBits w v2 i2) (hR : -9223372036854775808 ≤ R ∧ R ≤ 9223372036854775807) :
    Calls Try.prog 6 #[v0, v1, v2, .int .i64 R] w fun e w' => e = .returned (.bool true) ∧ Below w.heap.size w w' := by
  obtain ⟨N, C, D, s⟩ := i0
  obtain ⟨A, n, c, bs⟩ := i1
  obtain ⟨A', m, c', ss⟩ := i2
  obtain ⟨rfl, _, _, _, hs⟩ := hx0
  obtain ⟨rfl, hc, hm, hl, h⟩ := hx1
  obtain ⟨rfl, hc', hm', hl', h'⟩ := hx2
  simp only at hs hc hl h hm hc' hl' h' hm'
  have hs2 : s < two64 := hs
  have H := Lib.hid h; have H' := Lib.hid h'
  clear h h'
  have HB0 : Hid (Below w.heap.size w (w.alloc (.cells (codC N C D s) 25))) := Lib.hid ((Below.refl _ _).alloc (Nat.le_refl _) _)
  by_cases hn : 600 < n ∨ 600 < m
  · have g1 : (600 : Int) < (n : Int) ∨ (¬ (600 : Int) < (n : Int) ∧ (600 : Int) < (m : Int)) := by omega
    clear hn
    rcases g1 with g1 | ⟨g1, g2⟩
    all_goals
      go_enter Try.func6, Try.ntmps6
      go_wp2_with fail
      refine (works_any _).mono ?_
      rintro e w9 ⟨rfl, hb9⟩
      go_wp2_with fail
      go_ret
      exact ⟨rfl, bnext HB0.out hb9⟩
  · have g1 : ¬ (600 : Int) < (n : Int) := by omega
    have g2 : ¬ (600 : Int) < (m : Int) := by omega
    have HCD := Lib.hid (CodeAt.new w N C D s)
    have HR := Lib.hid (H.out.past HB0.out); have HR' := Lib.hid (H'.out.past HB0.out)
    clear H H' hn
    go_enter Try.func6, Try.ntmps6
    go_wp2_with fail
    refine (Decode_any N C D s A A' n c m c' R bs ss _ hs2 HR.out HR'.out).mono ?_
    rintro e w1 ⟨A1, k1, c1, z, q, E, rfl, hz, hr1, hk1, hb1⟩
    have HCD1 := Lib.hid (HCD.out.past hb1 HCD.out.lt)
    have HB1 := Lib.hid (bnext HB0.out hb1); have HRa := Lib.hid (HR.out.past hb1); have HRa' := Lib.hid (HR'.out.past hb1); have HZ := Lib.hid hr1; have HZE := Lib.hid hz
    have d0 := HCD1.out.c0; have d1 := HCD1.out.c1; have d2 := HCD1.out.c2; have d3 := HCD1.out.c3
    clear hb1 hr1 hz HB0 HR HR' HCD
    dsimp only
    go_wp2_with fail
    refine (refDecode_any N C D s A A' n c m c' R bs ss _ hs2 HRa.out HRa'.out).mono ?_
    rintro e w2 ⟨A2, k2, c2, z', q', E', rfl, hz', hr2, hk2, hb2⟩
    rw [← HZE.out] at hz'
    simp only [Prod.mk.injEq] at hz'
    obtain ⟨rfl, rfl, rfl⟩ := hz'
    have HB2 := Lib.hid (bnext HB1.out hb2); have HZ1 := Lib.hid (HZ.out.past hb2); have HZ2 := Lib.hid hr2
    obtain rfl : k2 = k1 := by have h1 := HZ1.out.1; have h2 := hr2.1; simp at h1 h2; omega
    clear hb2 hr2 d0 d1 d2 d3
    dsimp only
    go_wp2_with fail
    refine (Bools_eq A1 A2 k2 c1 c2 z' _ (by omega) HZ1.out HZ2.out).mono ?_
    rintro e w10 ⟨rfl, hq7⟩
    have HQ7 := Lib.hid hq7
    clear hq7
    go_wp2_with fail
    refine (works_any _).mono ?_
    rintro e w9 ⟨rfl, hb9⟩
    have HB9 := Lib.hid (bnext (bnext HB2.out (HQ7.out.below _)) hb9)
    clear hb9
    go_wp2_with fail
    go_ret
    exact ⟨rfl, HB9.out⟩
#print axioms ReconcileDecodes_walk
end Go.Proofs.Ytfinjdkcgmepfaa
