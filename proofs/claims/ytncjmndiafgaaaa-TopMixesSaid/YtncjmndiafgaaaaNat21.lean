/- The contract of Bound. Conditions: as each statement says. -/
import Derived.Test.YtncjmndiafgaaaaNat15
import Derived.Deep.DeepCutAuto
namespace Go.Proofs.Ytncjmndiafgaaaa
open Go.RowKit
set_option linter.unusedVariables false
theorem num_set {w : World} {B n c v h i : Nat} {A A' : Option Addr} {n' c' : Nat} {u : Value} (hn : NumR w B A n c v) (hc : w.cell? ⟨h, i, none⟩ = some (.slice A' n' c')) : NumR (w.setCell ⟨h, i, none⟩ u) B A n c v := by
  obtain ⟨l, h1, h2, h3⟩ := hn.ex
  refine ⟨⟨l, h1, h2, h3.1, fun h0 => ?_⟩, hn.n2, hn.nc⟩
  obtain ⟨b, off, rfl, hb, hcell⟩ := h3.2 h0
  refine ⟨b, off, rfl, hb, fun j x hx => ?_⟩
  have h4 := hcell j x hx
  rw [World.cell?_setCell_other w _ _ u ?_]
  · exact h4
  · intro e
    have e2 : (⟨b, off + j, none⟩ : Addr) = ⟨h, i, none⟩ := by first | exact e | exact e.symm
    rw [e2, hc] at h4
    obtain ⟨y, _, rfl⟩ := List.mem_map.1 (List.mem_of_getElem? hx)
    cases h4
/-- A box that holds a slice. -/
structure BoxN (w : World) (h : Nat) (v : Value) : Prop where
  lt : h < w.heap.size
  cell : w.cell? ⟨h, 0, none⟩ = some v
  froz : w.frozen? ⟨h, 0, none⟩ = false
theorem BoxN.new (w : World) (v : Value) (t : TypeId) : BoxN (w.alloc (.cells #[v] t)) w.heap.size v := by
  have k1 := heap_alloc_new w (.cells #[v] t)
  exact ⟨by simp, by rw [cell_of_row _ _ _ _ _ _ k1]; rfl, by rw [World.frozen?, k1]; rfl⟩
theorem BoxN.past {w w' : World} {h : Nat} {v : Value} (hx : BoxN w h v) (hb : Below w.heap.size w w') : BoxN w' h v :=
  ⟨Nat.lt_of_lt_of_le hx.lt hb.size, (hb.cell (p := ⟨h, 0, none⟩) hx.lt).trans hx.cell, (hb.frozen (p := ⟨h, 0, none⟩) hx.lt).trans hx.froz⟩
theorem BoxN.put {w : World} {h : Nat} {v : Value} (hx : BoxN w h v) (u : Value) : BoxN (w.setCell ⟨h, 0, none⟩ u) h u :=
  ⟨by rw [size_setCell]; exact hx.lt, cell_set hx.cell, by rw [World.frozen?_setCell]; exact hx.froz⟩
/-- The limit of Bound, in its box. -/
def LimP (w1 : World) (v : Nat) (s : Value) (wx : World) : Prop := ∃ h A n c, s = .pointer (some ⟨h, 0, none⟩) ∧ w1.heap.size ≤ h ∧ BoxN wx h (.slice A n c) ∧ NumR wx wx.heap.size A n c v ∧ Below w1.heap.size w1 wx
theorem bx4 (w : World) (TI sI seI : Int) (f : FV) (t t2 : TypeId) : BxC ((((w.alloc (.cells #[.int .i64 TI] t)).alloc (.cells #[.int .i64 sI] t)).alloc (.cells #[.int .i64 seI] t)).alloc (.cells #[.slice f.A f.n f.c, .slice f.B f.m f.d] t2)) w.heap.size TI sI seI f := by
  have e1 : (w.alloc (.cells #[.int .i64 TI] t)).heap.size = w.heap.size + 1 := by simp
  have e2 : ((w.alloc (.cells #[.int .i64 TI] t)).alloc (.cells #[.int .i64 sI] t)).heap.size = w.heap.size + 1 + 1 := by simp
  have e3 : (((w.alloc (.cells #[.int .i64 TI] t)).alloc (.cells #[.int .i64 sI] t)).alloc (.cells #[.int .i64 seI] t)).heap.size = w.heap.size + 1 + 1 + 1 := by simp
  have k1 := heap_alloc_new w (.cells #[.int .i64 TI] t)
  have k2 := heap_alloc_new (w.alloc (.cells #[.int .i64 TI] t)) (.cells #[.int .i64 sI] t)
  have k3 := heap_alloc_new ((w.alloc (.cells #[.int .i64 TI] t)).alloc (.cells #[.int .i64 sI] t)) (.cells #[.int .i64 seI] t)
  have k4 := heap_alloc_new (((w.alloc (.cells #[.int .i64 TI] t)).alloc (.cells #[.int .i64 sI] t)).alloc (.cells #[.int .i64 seI] t)) (.cells #[.slice f.A f.n f.c, .slice f.B f.m f.d] t2)
  rw [e1] at k2; rw [e2] at k3; rw [e3] at k4
  refine ⟨?_, ?_, ?_, ?_, ?_⟩
  · rw [World.cell?_alloc_lt _ _ _ (by show w.heap.size < _; omega), World.cell?_alloc_lt _ _ _ (by show w.heap.size < _; omega), World.cell?_alloc_lt _ _ _ (by show w.heap.size < _; omega), cell_of_row _ _ _ _ _ _ k1]; rfl
  · rw [World.cell?_alloc_lt _ _ _ (by show w.heap.size + 1 < _; omega), World.cell?_alloc_lt _ _ _ (by show w.heap.size + 1 < _; omega), cell_of_row _ _ _ _ _ _ k2]; rfl
  · rw [World.cell?_alloc_lt _ _ _ (by show w.heap.size + 1 + 1 < _; omega), cell_of_row _ _ _ _ _ _ k3]; rfl
  · rw [cell_of_row _ _ _ _ _ _ k4]; rfl
  · rw [cell_of_row _ _ _ _ _ _ k4]; rfl
def BoundP (T s se v u : Nat) (w : World) (e : Ending) (w' : World) : Prop := ∃ (L : Nat) (LI : Int), LI = L ∧ e = .returned (.tuple #[.int .i64 LI, .int .i64 0]) ∧ se ≤ L ∧ L ≤ T ∧ (L = se ∨ possB T s se v u L = true) ∧ (L = T ∨ possB T s se v u (L + 1) = false) ∧ Below w.heap.size w w'
set_option maxRecDepth 100000 in
set_option maxHeartbeats 4000000 in
theorem bound_num (f : FV) (w : World) (T s se : Nat) (TI sI seI : Int) (hTI : TI = T) (hsI : sI = s) (hseI : seI = se) (hT : T ≤ 10) (hs : s ≤ T) (hse : se ≤ s) (hf : f.ok w w.heap.size) (hvu : f.v < f.u) (hu : f.u ≤ 1000000) :
    Calls Try.prog 15 #[.int .i64 TI, .int .i64 sI, .int .i64 seI, .agg #[.slice f.A f.n f.c, .slice f.B f.m f.d]] w (BoundP T s se f.v f.u w) := by
  have hbn := bin_le T hT s
  have hprod : f.v * bin T s ≤ 1000000 * 252 := Nat.mul_le_mul (by omega) hbn
  have hpr : f.v * bin T s ≤ 4000000000 := by omega
  have i1 : ¬ seI < 0 := by omega
  have i2 : ¬ sI < seI := by omega
  have j1 : 0 ≤ sI := by omega
  have j2 : sI ≤ TI := by omega
  have j3 : TI ≤ 10 := by omega
  have HTI := Lib.hid hTI; have HSI := Lib.hid hsI; have HSE := Lib.hid hseI; have HF := Lib.hid hf
  clear hTI hsI hseI hf hprod hbn
  go_enter Try.func15, Try.ntmps15
  go_wp2_with fail
  have BX0 := Lib.hid (bx4 w TI sI seI f 3 29)
  have HB0 : Hid (Below w.heap.size w ((((w.alloc (.cells #[.int .i64 TI] 3)).alloc (.cells #[.int .i64 sI] 3)).alloc (.cells #[.int .i64 seI] 3)).alloc (.cells #[.slice f.A f.n f.c, .slice f.B f.m f.d] 29))) := Lib.hid (((((Below.refl _ _).alloc (Nat.le_refl _) _).alloc (by simp) _).alloc (by simp; omega) _).alloc (by simp; omega) _)
  have HS : Hid (((((w.alloc (.cells #[.int .i64 TI] 3)).alloc (.cells #[.int .i64 sI] 3)).alloc (.cells #[.int .i64 seI] 3)).alloc (.cells #[.slice f.A f.n f.c, .slice f.B f.m f.d] 29)).heap.size = w.heap.size + 1 + 1 + 1 + 1) := Lib.hid (by simp)
  generalize (((w.alloc (.cells #[.int .i64 TI] 3)).alloc (.cells #[.int .i64 sI] 3)).alloc (.cells #[.int .i64 seI] 3)).alloc (.cells #[.slice f.A f.n f.c, .slice f.B f.m f.d] 29) = W at BX0 HB0 HS ⊢
  have HV := Lib.hid (fs_one W f 29 (HF.out.past HB0.out HB0.out.size))
  rw [HS.out] at HV
  refine (valid_ok (w.heap.size + 1 + 1 + 1 + 1) 1 _ _ (by omega) HV.out).mono ?_
  rintro e w1 ⟨rfl, hb1⟩
  have hb3 : Below W.heap.size W w1 := ((Below.refl _ _).alloc (Nat.le_refl _) _).trans (hb1.mono (by simp))
  have BXW := Lib.hid (BxC.past BX0.out hb3 (by rw [HS.out]; omega))
  have hg1 : w.heap.size + 1 + 1 + 1 < w1.heap.size := by have h1 := hb3.size; have h2 := HS.out; omega
  have HBW := Lib.hid (bnextN HB0.out hb3)
  clear hb1 hb3 BX0 HB0 HS HV
  have b0 := BXW.out
  go_wp2_with fail
  refine (sane_yes TI sI _ j1 j2 (by omega)).mono ?_
  rintro e w' ⟨rfl, rfl⟩
  go_wp2_with fail
  refine (order_num (HF.out.num.past HBW.out HBW.out.size) (HF.out.den.past HBW.out HBW.out.size)).mono ?_
  rintro e w2 ⟨he, hq⟩
  obtain ⟨z, hz, rfl⟩ : ∃ z, z = ordI f.v f.u ∧ e = .returned (.int .i64 z) := ⟨_, rfl, he⟩
  have hz0 : ¬ 0 ≤ z := by rw [hz]; unfold ordI; rw [if_pos hvu]; omega
  have BXW2 := Lib.hid (BxC.past BXW.out (hq.below w1.heap.size) hg1)
  have hg2 : w.heap.size + 1 + 1 + 1 < w2.heap.size := by rw [hq.heap]; exact hg1
  have HBW2 := Lib.hid (HBW.out.trans (hq.below _))
  clear hz he hq b0 BXW HBW hg1
  obtain ⟨w1, rfl⟩ : ∃ x : World, x = w2 := ⟨_, rfl⟩
  have BXW := BXW2; have HBW := HBW2; have hg1 := hg2
  clear BXW2 HBW2 hg2
  go_wp2_with fail
  go_cut [11] (fun s11 wx => LimP w1 (f.v * bin T s) s11 wx)
  case first =>
    refine wp_region_held_drew (S := fun w' => BxC w' w.heap.size TI sI seI f ∧ Below w1.heap.size w1 w') (by kernel_rfl) ?_ (fun hHeld => ?_)
    · (try dsimp only); first | exact ⟨BXW.out, Below.refl _ _⟩ | exact ⟨BXW.out.past ((Qw.refl w1).drew.below _) hg1, (Qw.refl w1).drew.below _⟩ | exact HS2.out | exact HS3.out | exact ⟨BxC.past hHeld.1 ((Below.refl _ _).alloc (Nat.le_refl _) _) (Nat.lt_of_lt_of_le hg1 hHeld.2.size), hHeld.2.alloc hHeld.2.size _⟩ | exact ⟨BxC.past (w' := World.setCell _ _ _) hHeld.1 ((Below.refl w1.heap.size _).setCell hlow _) hg1, hHeld.2.setCell hlow _⟩ | exact hHeld
    refine wpAnyH_take (i := 0) (oi := ⟨some 41, _, _, _, _, _⟩) (v := ?_) rfl (by kernel_rfl) (by kernel_rfl) (by kernel_rfl) (fun _ _ _ h => h) (Or.inl ⟨by rfl, ?_⟩) (by assumption) ?_
    rotate_left
    · (intro w hSw; (try dsimp only at hSw); go_simp; try with_reducible rfl)
    try simp only [Act.put, List.setIfInBounds_toArray, List.set_cons_zero, List.set_cons_succ]
    refine wpAnyH_take (i := 1) (oi := ⟨some 42, _, _, _, _, _⟩) (v := ?_) rfl (by kernel_rfl) (by kernel_rfl) (by kernel_rfl) (fun _ _ _ h => h) (Or.inl ⟨by rfl, ?_⟩) (by assumption) ?_
    rotate_left
    · (intro w hSw; (try dsimp only at hSw); go_simp; try with_reducible rfl)
    try simp only [Act.put, List.setIfInBounds_toArray, List.set_cons_zero, List.set_cons_succ]
    refine wpAnyH_take (i := 2) (oi := ⟨some 43, _, _, _, _, _⟩) (v := ?_) rfl (by kernel_rfl) (by kernel_rfl) (by kernel_rfl) (fun _ _ _ h => h) (Or.inl ⟨by rfl, ?_⟩) (by assumption) ?_
    rotate_left
    · (intro w hSw; (try dsimp only at hSw); go_simp; try with_reducible rfl)
    try simp only [Act.put, List.setIfInBounds_toArray, List.set_cons_zero, List.set_cons_succ]
    refine wpAnyH_take (i := 3) (oi := ⟨some 44, _, _, _, _, _⟩) (v := ?_) rfl (by kernel_rfl) (by kernel_rfl) (by kernel_rfl) (fun _ _ _ h => h) (Or.inl ⟨by rfl, ?_⟩) (by assumption) ?_
    rotate_left
    · (intro w hSw; (try dsimp only at hSw); go_simp; try with_reducible rfl)
    try simp only [Act.put, List.setIfInBounds_toArray, List.set_cons_zero, List.set_cons_succ]
    refine wpAnyH_ready (rs := [4, 6]) (by kernel_rfl) (by simp) ?_
    refine AllReadyH.cons (o := ⟨some 45, _, _, _, _, _⟩) rfl (fun K hK => ?_) ?_
    · skip
      go_simp
      refine (choose_num T s TI sI HTI.out HSI.out hT hs).mono ?_
      rintro e w2 ⟨A1, n1, k1, rfl, hr1, hb1⟩
      have HS2 := Lib.hid (⟨BxC.past hHeld.1 hb1 (Nat.lt_of_lt_of_le hg1 hHeld.2.size), hHeld.2.trans (hb1.mono hHeld.2.size)⟩ : BxC w2 w.heap.size TI sI seI f ∧ Below w1.heap.size w1 w2)
      have HR1 := Lib.hid hr1
      clear hr1 hb1
      go_wp2_with fail
      refine hK.out _ _ ?_ (fun hHeld => ?_)
      · (try dsimp only); first | exact ⟨BXW.out, Below.refl _ _⟩ | exact ⟨BXW.out.past ((Qw.refl w1).drew.below _) hg1, (Qw.refl w1).drew.below _⟩ | exact HS2.out | exact HS3.out | exact ⟨BxC.past hHeld.1 ((Below.refl _ _).alloc (Nat.le_refl _) _) (Nat.lt_of_lt_of_le hg1 hHeld.2.size), hHeld.2.alloc hHeld.2.size _⟩ | exact ⟨BxC.past (w' := World.setCell _ _ _) hHeld.1 ((Below.refl w1.heap.size _).setCell hlow _) hg1, hHeld.2.setCell hlow _⟩ | exact hHeld
      clear hK K
      try simp only [Act.put, List.setIfInBounds_toArray, List.set_cons_zero, List.set_cons_succ]
      refine wpAnyH_ready (rs := [5, 6]) (by kernel_rfl) (by simp) ?_
      refine AllReadyH.cons (o := ⟨some 46, _, _, _, _, _⟩) rfl (fun K hK => ?_) ?_
      · skip
        go_simp
        refine (times_num (HF.out.num.past (HBW.out.trans (hHeld.2.mono HBW.out.size)) (Nat.le_trans HBW.out.size hHeld.2.size)) HR1.out hpr).mono ?_
        rintro e w3 ⟨A2, n2, k2, rfl, hr2, hb2⟩
        have HS3 := Lib.hid (⟨BxC.past hHeld.1 hb2 (Nat.lt_of_lt_of_le hg1 hHeld.2.size), hHeld.2.trans (hb2.mono hHeld.2.size)⟩ : BxC w3 w.heap.size TI sI seI f ∧ Below w1.heap.size w1 w3)
        have HR2 := Lib.hid hr2
        clear hr2 hb2
        go_wp2_with fail
        refine hK.out _ _ ?_ (fun hHeld => ?_)
        · (try dsimp only); first | exact ⟨BXW.out, Below.refl _ _⟩ | exact ⟨BXW.out.past ((Qw.refl w1).drew.below _) hg1, (Qw.refl w1).drew.below _⟩ | exact HS2.out | exact HS3.out | exact ⟨BxC.past hHeld.1 ((Below.refl _ _).alloc (Nat.le_refl _) _) (Nat.lt_of_lt_of_le hg1 hHeld.2.size), hHeld.2.alloc hHeld.2.size _⟩ | exact ⟨BxC.past (w' := World.setCell _ _ _) hHeld.1 ((Below.refl w1.heap.size _).setCell hlow _) hg1, hHeld.2.setCell hlow _⟩ | exact hHeld
        clear hK K
        try simp only [Act.put, List.setIfInBounds_toArray, List.set_cons_zero, List.set_cons_succ]
        refine wpAnyH_ready (rs := [6]) (by kernel_rfl) (by simp) ?_
        refine AllReadyH.cons (o := ⟨some 11, _, _, _, _, _⟩) rfl (fun K hK => ?_) AllReadyH.nil
        go_simp
        refine hK.out _ _ ?_ (fun hHeld => ?_)
        · (try dsimp only); first | exact ⟨BXW.out, Below.refl _ _⟩ | exact ⟨BXW.out.past ((Qw.refl w1).drew.below _) hg1, (Qw.refl w1).drew.below _⟩ | exact HS2.out | exact HS3.out | exact ⟨BxC.past hHeld.1 ((Below.refl _ _).alloc (Nat.le_refl _) _) (Nat.lt_of_lt_of_le hg1 hHeld.2.size), hHeld.2.alloc hHeld.2.size _⟩ | exact ⟨BxC.past (w' := World.setCell _ _ _) hHeld.1 ((Below.refl w1.heap.size _).setCell hlow _) hg1, hHeld.2.setCell hlow _⟩ | exact hHeld
        clear hK K
        try simp only [Act.put, List.setIfInBounds_toArray, List.set_cons_zero, List.set_cons_succ]
        have hx := BoxN.new w3 (.slice none 0 0) 25
        have hbx : Below w3.heap.size w3 (w3.alloc (.cells #[.slice none 0 0] 25)) := (Below.refl _ _).alloc (Nat.le_refl _) _
        have hlow : w1.heap.size ≤ w3.heap.size := HS3.out.2.size
        have HR2' := Lib.hid (HR2.out.next hbx)
        clear HR2
        have HR2 := HR2'
        clear HR2'
        clear hbx
        generalize w3.alloc (.cells #[.slice none 0 0] 25) = wm at *
        have hx1 := hx.cell; have hx0 := hx.froz
        refine wpAnyH_ready (rs := [7]) (by kernel_rfl) (by simp) ?_
        refine AllReadyH.cons (o := ⟨none, _, _, _, _, _⟩) rfl (fun K hK => ?_) AllReadyH.nil
        have hx1 := hx.cell; have hx0 := hx.froz
        go_simp
        refine hK.out _ _ ?_ (fun hHeld => ?_)
        · (try dsimp only); first | exact ⟨BXW.out, Below.refl _ _⟩ | exact ⟨BXW.out.past ((Qw.refl w1).drew.below _) hg1, (Qw.refl w1).drew.below _⟩ | exact HS2.out | exact HS3.out | exact ⟨BxC.past hHeld.1 ((Below.refl _ _).alloc (Nat.le_refl _) _) (Nat.lt_of_lt_of_le hg1 hHeld.2.size), hHeld.2.alloc hHeld.2.size _⟩ | exact ⟨BxC.past (w' := World.setCell _ _ _) hHeld.1 ((Below.refl w1.heap.size _).setCell hlow _) hg1, hHeld.2.setCell hlow _⟩ | exact hHeld
        clear hK K
        try simp only [Act.put, List.setIfInBounds_toArray, List.set_cons_zero, List.set_cons_succ]
        refine wpAnyH_done (by kernel_rfl) ?_ _
        have hx9 := BoxN.put hx (.slice A2 n2 k2)
        have hr9 := num_set (u := .slice A2 n2 k2) HR2.out hx.cell
        have hb9 := hHeld.2
        have hlow9 := hlow
        clear hx hx1 hx0 hlow
        go_wp2_with fail
        go_meet
        exact ⟨_, _, _, _, rfl, hlow9, hx9, by rw [size_setCell]; exact hr9, hb9⟩
      refine AllReadyH.cons (o := ⟨some 11, _, _, _, _, _⟩) rfl (fun K hK => ?_) AllReadyH.nil
      go_simp
      refine hK.out _ _ ?_ (fun hHeld => ?_)
      · (try dsimp only); first | exact ⟨BXW.out, Below.refl _ _⟩ | exact ⟨BXW.out.past ((Qw.refl w1).drew.below _) hg1, (Qw.refl w1).drew.below _⟩ | exact HS2.out | exact HS3.out | exact ⟨BxC.past hHeld.1 ((Below.refl _ _).alloc (Nat.le_refl _) _) (Nat.lt_of_lt_of_le hg1 hHeld.2.size), hHeld.2.alloc hHeld.2.size _⟩ | exact ⟨BxC.past (w' := World.setCell _ _ _) hHeld.1 ((Below.refl w1.heap.size _).setCell hlow _) hg1, hHeld.2.setCell hlow _⟩ | exact hHeld
      clear hK K
      try simp only [Act.put, List.setIfInBounds_toArray, List.set_cons_zero, List.set_cons_succ]
      have hx := BoxN.new w2 (.slice none 0 0) 25
      have hbx : Below w2.heap.size w2 (w2.alloc (.cells #[.slice none 0 0] 25)) := (Below.refl _ _).alloc (Nat.le_refl _) _
      have hlow : w1.heap.size ≤ w2.heap.size := HS2.out.2.size
      have HR1' := Lib.hid (HR1.out.next hbx)
      clear HR1
      have HR1 := HR1'
      clear HR1'
      clear hbx
      generalize w2.alloc (.cells #[.slice none 0 0] 25) = wm at *
      have hx1 := hx.cell; have hx0 := hx.froz
      refine wpAnyH_ready (rs := [5]) (by kernel_rfl) (by simp) ?_
      refine AllReadyH.cons (o := ⟨some 46, _, _, _, _, _⟩) rfl (fun K hK => ?_) AllReadyH.nil
      go_simp
      refine (times_num (HF.out.num.past (HBW.out.trans (hHeld.2.mono HBW.out.size)) (Nat.le_trans HBW.out.size hHeld.2.size)) HR1.out hpr).mono ?_
      rintro e w3 ⟨A2, n2, k2, rfl, hr2, hb2⟩
      have HS3 := Lib.hid (⟨BxC.past hHeld.1 hb2 (Nat.lt_of_lt_of_le hg1 hHeld.2.size), hHeld.2.trans (hb2.mono hHeld.2.size)⟩ : BxC w3 w.heap.size TI sI seI f ∧ Below w1.heap.size w1 w3)
      have HR2 := Lib.hid hr2
      have hx2 := BoxN.past hx hb2
      clear hx
      have hx := hx2
      clear hx2
      clear hr2 hb2
      go_wp2_with fail
      refine hK.out _ _ ?_ (fun hHeld => ?_)
      · (try dsimp only); first | exact ⟨BXW.out, Below.refl _ _⟩ | exact ⟨BXW.out.past ((Qw.refl w1).drew.below _) hg1, (Qw.refl w1).drew.below _⟩ | exact HS2.out | exact HS3.out | exact ⟨BxC.past hHeld.1 ((Below.refl _ _).alloc (Nat.le_refl _) _) (Nat.lt_of_lt_of_le hg1 hHeld.2.size), hHeld.2.alloc hHeld.2.size _⟩ | exact ⟨BxC.past (w' := World.setCell _ _ _) hHeld.1 ((Below.refl w1.heap.size _).setCell hlow _) hg1, hHeld.2.setCell hlow _⟩ | exact hHeld
      clear hK K
      try simp only [Act.put, List.setIfInBounds_toArray, List.set_cons_zero, List.set_cons_succ]
      refine wpAnyH_ready (rs := [7]) (by kernel_rfl) (by simp) ?_
      refine AllReadyH.cons (o := ⟨none, _, _, _, _, _⟩) rfl (fun K hK => ?_) AllReadyH.nil
      have hx1 := hx.cell; have hx0 := hx.froz
      go_simp
      refine hK.out _ _ ?_ (fun hHeld => ?_)
      · (try dsimp only); first | exact ⟨BXW.out, Below.refl _ _⟩ | exact ⟨BXW.out.past ((Qw.refl w1).drew.below _) hg1, (Qw.refl w1).drew.below _⟩ | exact HS2.out | exact HS3.out | exact ⟨BxC.past hHeld.1 ((Below.refl _ _).alloc (Nat.le_refl _) _) (Nat.lt_of_lt_of_le hg1 hHeld.2.size), hHeld.2.alloc hHeld.2.size _⟩ | exact ⟨BxC.past (w' := World.setCell _ _ _) hHeld.1 ((Below.refl w1.heap.size _).setCell hlow _) hg1, hHeld.2.setCell hlow _⟩ | exact hHeld
      clear hK K
      try simp only [Act.put, List.setIfInBounds_toArray, List.set_cons_zero, List.set_cons_succ]
      refine wpAnyH_done (by kernel_rfl) ?_ _
      have hx9 := BoxN.put hx (.slice A2 n2 k2)
      have hr9 := num_set (u := .slice A2 n2 k2) HR2.out hx.cell
      have hb9 := hHeld.2
      have hlow9 := hlow
      clear hx hx1 hx0 hlow
      go_wp2_with fail
      go_meet
      exact ⟨_, _, _, _, rfl, hlow9, hx9, by rw [size_setCell]; exact hr9, hb9⟩
    refine AllReadyH.cons (o := ⟨some 11, _, _, _, _, _⟩) rfl (fun K hK => ?_) AllReadyH.nil
    go_simp
    refine hK.out _ _ ?_ (fun hHeld => ?_)
    · (try dsimp only); first | exact ⟨BXW.out, Below.refl _ _⟩ | exact ⟨BXW.out.past ((Qw.refl w1).drew.below _) hg1, (Qw.refl w1).drew.below _⟩ | exact HS2.out | exact HS3.out | exact ⟨BxC.past hHeld.1 ((Below.refl _ _).alloc (Nat.le_refl _) _) (Nat.lt_of_lt_of_le hg1 hHeld.2.size), hHeld.2.alloc hHeld.2.size _⟩ | exact ⟨BxC.past (w' := World.setCell _ _ _) hHeld.1 ((Below.refl w1.heap.size _).setCell hlow _) hg1, hHeld.2.setCell hlow _⟩ | exact hHeld
    clear hK K
    try simp only [Act.put, List.setIfInBounds_toArray, List.set_cons_zero, List.set_cons_succ]
    have hx : BoxN (w1.alloc (.cells #[.slice none 0 0] 25)).drew w1.heap.size (.slice none 0 0) := BoxN.new w1.drew (.slice none 0 0) 25
    have hlow : w1.heap.size ≤ w1.heap.size := Nat.le_refl _
    generalize (w1.alloc (.cells #[.slice none 0 0] 25)).drew = wm at *
    have hx1 := hx.cell; have hx0 := hx.froz
    refine wpAnyH_ready (rs := [4]) (by kernel_rfl) (by simp) ?_
    refine AllReadyH.cons (o := ⟨some 45, _, _, _, _, _⟩) rfl (fun K hK => ?_) AllReadyH.nil
    go_simp
    refine (choose_num T s TI sI HTI.out HSI.out hT hs).mono ?_
    rintro e w2 ⟨A1, n1, k1, rfl, hr1, hb1⟩
    have HS2 := Lib.hid (⟨BxC.past hHeld.1 hb1 (Nat.lt_of_lt_of_le hg1 hHeld.2.size), hHeld.2.trans (hb1.mono hHeld.2.size)⟩ : BxC w2 w.heap.size TI sI seI f ∧ Below w1.heap.size w1 w2)
    have HR1 := Lib.hid hr1
    have hx2 := BoxN.past hx hb1
    clear hx
    have hx := hx2
    clear hx2
    clear hr1 hb1
    go_wp2_with fail
    refine hK.out _ _ ?_ (fun hHeld => ?_)
    · (try dsimp only); first | exact ⟨BXW.out, Below.refl _ _⟩ | exact ⟨BXW.out.past ((Qw.refl w1).drew.below _) hg1, (Qw.refl w1).drew.below _⟩ | exact HS2.out | exact HS3.out | exact ⟨BxC.past hHeld.1 ((Below.refl _ _).alloc (Nat.le_refl _) _) (Nat.lt_of_lt_of_le hg1 hHeld.2.size), hHeld.2.alloc hHeld.2.size _⟩ | exact ⟨BxC.past (w' := World.setCell _ _ _) hHeld.1 ((Below.refl w1.heap.size _).setCell hlow _) hg1, hHeld.2.setCell hlow _⟩ | exact hHeld
    clear hK K
    try simp only [Act.put, List.setIfInBounds_toArray, List.set_cons_zero, List.set_cons_succ]
    refine wpAnyH_ready (rs := [5]) (by kernel_rfl) (by simp) ?_
    refine AllReadyH.cons (o := ⟨some 46, _, _, _, _, _⟩) rfl (fun K hK => ?_) AllReadyH.nil
    go_simp
    refine (times_num (HF.out.num.past (HBW.out.trans (hHeld.2.mono HBW.out.size)) (Nat.le_trans HBW.out.size hHeld.2.size)) HR1.out hpr).mono ?_
    rintro e w3 ⟨A2, n2, k2, rfl, hr2, hb2⟩
    have HS3 := Lib.hid (⟨BxC.past hHeld.1 hb2 (Nat.lt_of_lt_of_le hg1 hHeld.2.size), hHeld.2.trans (hb2.mono hHeld.2.size)⟩ : BxC w3 w.heap.size TI sI seI f ∧ Below w1.heap.size w1 w3)
    have HR2 := Lib.hid hr2
    have hx2 := BoxN.past hx hb2
    clear hx
    have hx := hx2
    clear hx2
    clear hr2 hb2
    go_wp2_with fail
    refine hK.out _ _ ?_ (fun hHeld => ?_)
    · (try dsimp only); first | exact ⟨BXW.out, Below.refl _ _⟩ | exact ⟨BXW.out.past ((Qw.refl w1).drew.below _) hg1, (Qw.refl w1).drew.below _⟩ | exact HS2.out | exact HS3.out | exact ⟨BxC.past hHeld.1 ((Below.refl _ _).alloc (Nat.le_refl _) _) (Nat.lt_of_lt_of_le hg1 hHeld.2.size), hHeld.2.alloc hHeld.2.size _⟩ | exact ⟨BxC.past (w' := World.setCell _ _ _) hHeld.1 ((Below.refl w1.heap.size _).setCell hlow _) hg1, hHeld.2.setCell hlow _⟩ | exact hHeld
    clear hK K
    try simp only [Act.put, List.setIfInBounds_toArray, List.set_cons_zero, List.set_cons_succ]
    refine wpAnyH_ready (rs := [7]) (by kernel_rfl) (by simp) ?_
    refine AllReadyH.cons (o := ⟨none, _, _, _, _, _⟩) rfl (fun K hK => ?_) AllReadyH.nil
    have hx1 := hx.cell; have hx0 := hx.froz
    go_simp
    refine hK.out _ _ ?_ (fun hHeld => ?_)
    · (try dsimp only); first | exact ⟨BXW.out, Below.refl _ _⟩ | exact ⟨BXW.out.past ((Qw.refl w1).drew.below _) hg1, (Qw.refl w1).drew.below _⟩ | exact HS2.out | exact HS3.out | exact ⟨BxC.past hHeld.1 ((Below.refl _ _).alloc (Nat.le_refl _) _) (Nat.lt_of_lt_of_le hg1 hHeld.2.size), hHeld.2.alloc hHeld.2.size _⟩ | exact ⟨BxC.past (w' := World.setCell _ _ _) hHeld.1 ((Below.refl w1.heap.size _).setCell hlow _) hg1, hHeld.2.setCell hlow _⟩ | exact hHeld
    clear hK K
    try simp only [Act.put, List.setIfInBounds_toArray, List.set_cons_zero, List.set_cons_succ]
    refine wpAnyH_done (by kernel_rfl) ?_ _
    have hx9 := BoxN.put hx (.slice A2 n2 k2)
    have hr9 := num_set (u := .slice A2 n2 k2) HR2.out hx.cell
    have hb9 := hHeld.2
    have hlow9 := hlow
    clear hx hx1 hx0 hlow
    go_wp2_with fail
    go_meet
    exact ⟨_, _, _, _, rfl, hlow9, hx9, by rw [size_setCell]; exact hr9, hb9⟩
  case rest =>
    obtain ⟨w2, hw2⟩ : ∃ x, x = wc := ⟨_, rfl⟩
    subst hw2
    obtain ⟨h, A, n, c, rfl, hh, hx, hl, hb2⟩ := hcut
    have BXW2 := Lib.hid (BxC.past BXW.out hb2 hg1)
    have HBW2 := Lib.hid (HBW.out.trans (hb2.mono HBW.out.size))
    have hgh : w.heap.size + 1 + 1 + 1 < h := by omega
    have HX := Lib.hid hx; have HL := Lib.hid hl
    clear BXW hx hl hb2 HBW
    have b0 := BXW2.out
    go_wp2_with fail
    go_quiet (fail)
    have HC3 : Hid (BxL (w2.drewN nq) w.heap.size h TI sI seI f A n c) := Lib.hid ⟨BXW2.out, HX.out.cell⟩
    have HL3 : Hid (NumR (w2.drewN nq) (w2.drewN nq).heap.size A n c (f.v * bin T s)) := Lib.hid (HL.out.q ⟨nq, rfl⟩)
    have HF3 : Hid (f.ok (w2.drewN nq) (w2.drewN nq).heap.size) := Lib.hid ((HF.out.past HBW2.out HBW2.out.size).q ⟨nq, rfl⟩)
    have HB3 : Hid (Below w.heap.size w (w2.drewN nq)) := Lib.hid (HBW2.out.trans (Qw.below ⟨nq, rfl⟩ _))
    have hlt : h < (w2.drewN nq).heap.size := HX.out.lt
    generalize w2.drewN nq = w3 at HC3 HL3 HF3 HB3 hlt ⊢
    clear BXW2 HBW2 HX HL HF b0
    go_wp2_with fail
    go_loopw [13, 14] (fun lv hv wr => ∃ (lo hi : Nat) (loI hiI : Int), loI ≤ lo ∧ (lo : Int) ≤ loI ∧ hiI ≤ hi ∧ (hi : Int) ≤ hiI ∧ lv = .int .i64 loI ∧ hv = .int .i64 hiI ∧ se ≤ lo ∧ lo ≤ hi ∧ hi ≤ T ∧ (lo = se ∨ possB T s se f.v f.u lo = true) ∧ (hi = T ∨ possB T s se f.v f.u (hi + 1) = false) ∧ Below w3.heap.size w3 wr) (fun lv hv _ => (intOf hv - intOf lv).toNat)
    case atStart =>
      have h1 := HSE.out; have h2 := HTI.out
      exact ⟨se, T, seI, TI, by omega, by omega, by omega, by omega, rfl, rfl, Nat.le_refl _, by omega, Nat.le_refl _, .inl rfl, .inl rfl, Below.refl _ _⟩
    case round =>
      obtain ⟨lo, hi, loI, hiI, k1, k2, k3, k4, rfl, rfl, k5, k6, k7, hlo, hhi, hbw⟩ := hrel
      obtain ⟨wa, rfl⟩ : ∃ z : World, z = wr := ⟨_, rfl⟩
      have HLO := Lib.hid hlo; have HHI := Lib.hid hhi; have HBW := Lib.hid hbw
      clear hlo hhi hbw
      have l0 : 0 ≤ loI := by omega
      have l1 : hiI ≤ 10 := by omega
      by_cases hlh : lo < hi
      · have hlhI : loI < hiI := by omega
        obtain ⟨mid, hmid⟩ : ∃ mid : Nat, mid = (lo + hi + 1) / 2 := ⟨_, rfl⟩
        have m1 : (loI + hiI + 1) / 2 = mid := by omega
        have m2 : lo < mid := by omega
        have m3 : mid ≤ hi := by omega
        have HM1 := Lib.hid m1
        obtain ⟨mI, hmI⟩ : ∃ mI : Int, mI = (loI + hiI + 1) / 2 := ⟨_, rfl⟩
        have n1 : mI ≤ mid := by omega
        have n2 : (mid : Int) ≤ mI := by omega
        have HMI : Hid ((loI + hiI + 1) / 2 = mI) := Lib.hid hmI.symm
        clear m1 hmid hmI
        go_wp2_with fail
        rw [HMI.out]
        refine (possible_num w.heap.size h f A n c _ T s se mid TI sI seI mI HTI.out HSI.out HSE.out (by omega) hT hs hse (by omega) (BxL.past HC3.out HBW.out hgh hlt) hgh (Nat.lt_of_lt_of_le hlt HBW.out.size) (HF3.out.next HBW.out) (HL3.out.next HBW.out) hu (by omega)).mono ?_
        rintro e wb ⟨rfl, hb4⟩
        have HB4 := Lib.hid (bnextN HBW.out hb4)
        clear hb4
        cases hp : possB T s se f.v f.u mid
        · have HP := Lib.hid hp
          clear hp
          have n3 : 0 ≤ mI := by omega
          go_wp2_with fail
          go_roundw
          case rel => exact ⟨lo, mid - 1, _, _, k1, k2, by omega, by omega, rfl, rfl, k5, by omega, by omega, HLO.out, .inr (by rw [show mid - 1 + 1 = mid by omega]; exact HP.out), HB4.out⟩
          case measure => simp [intOf]; omega
        · have HP := Lib.hid hp
          clear hp
          go_wp2_with fail
          go_roundw
          case rel => exact ⟨mid, hi, _, _, n1, n2, k3, k4, rfl, rfl, by omega, m3, k7, .inr HP.out, HHI.out, HB4.out⟩
          case measure => simp [intOf]; omega
      · have hlhI : ¬ loI < hiI := by omega
        obtain rfl : lo = hi := by omega
        go_wp2_with fail
        go_ret2
        exact ⟨lo, loI, by omega, rfl, k5, k7, HLO.out, HHI.out, HB3.out.trans (HBW.out.mono HB3.out.size)⟩
#print axioms bound_num
end Go.Proofs.Ytncjmndiafgaaaa
/- The contracts of Rate, ones, and frac at small numbers. Conditions: as each statement says. -/
namespace Go.Proofs.Ytncjmndiafgaaaa
open Go.RowKit
set_option linter.unusedVariables false
/-- How many bits of a number are true. -/
def onesN (n : Nat) : Nat := if h : n = 0 then 0 else n % 2 + onesN (n / 2)
theorem onesN_zero : onesN 0 = 0 := by rw [onesN]; rfl
theorem onesN_step (n : Nat) : onesN n = n % 2 + onesN (n / 2) := by
  by_cases h : n = 0
  · subst h; simp [onesN_zero]
  · rw [onesN, dif_neg h]
theorem onesN_le (n : Nat) : onesN n ≤ n := by
  induction n using Nat.strongRecOn with
  | ind n ih =>
    rw [onesN_step]
    by_cases h : n = 0
    · subst h; simp [onesN_zero]
    · have := ih (n / 2) (by omega); omega
def OnesP (n : Nat) (w : World) (e : Ending) (w' : World) : Prop := (∃ z : Int, z = onesN n ∧ e = .returned (.int .i64 z)) ∧ w = w'
set_option maxHeartbeats 1000000 in
theorem ones_any (n : Nat) (nI : Int) (w : World) (hnI : nI = n) (hn : n ≤ 1000000) : Calls Try.prog 6 #[.int .i64 nI] w (OnesP n w) := by
  have HN := Lib.hid hnI
  clear hnI
  go_enter Try.func6, Try.ntmps6
  go_wp2_with fail
  go_loop [0, 3] (fun nv cv => ∃ (m c : Nat) (mI cI : Int), mI ≤ m ∧ (m : Int) ≤ mI ∧ cI ≤ c ∧ (c : Int) ≤ cI ∧ nv = .int .i64 mI ∧ cv = .int .i64 cI ∧ c + onesN m = onesN n ∧ m ≤ n) (fun nv _ => (intOf nv).toNat)
  case atStart =>
    have h := HN.out
    exact ⟨n, 0, nI, 0, by omega, by omega, by omega, by omega, rfl, rfl, by omega, Nat.le_refl _⟩
  case round =>
    obtain ⟨m, c, mI, cI, h1, h2, h3, h4, rfl, rfl, hs, hm⟩ := hrel
    have hle := onesN_le n
    have HS := Lib.hid hs
    have c0 : 0 ≤ cI := by omega
    have c1 : cI ≤ 1000000 := by omega
    have c2 : mI ≤ 1000000 := by omega
    by_cases hp : 0 < mI
    · have c3 : 0 ≤ mI := by omega
      have HST := Lib.hid (onesN_step m)
      clear hs
      go_wp2_with fail
      go_round
      case rel => exact ⟨m / 2, c + m % 2, _, _, by omega, by omega, by omega, by omega, rfl, rfl, by have a := HS.out; have b := HST.out; omega, by omega⟩
      case measure => simp [intOf]; omega
    · have HZ : Hid (cI = onesN n) := Lib.hid (by
        have h0 : m = 0 := by omega
        subst h0
        rw [onesN_zero] at hs; omega)
      clear hs
      go_wp2_with fail
      go_ret
      exact ⟨⟨cI, HZ.out, rfl⟩, rfl⟩
/-- A block known whole. -/
def BlkN (w : World) (h : Nat) (cs : Array Value) (t : TypeId) : Prop := w.heap[h]? = some (.cells cs t (0, 0))
theorem BlkN.lt {w : World} {h : Nat} {cs : Array Value} {t : TypeId} (k : BlkN w h cs t) : h < w.heap.size := (Array.getElem?_eq_some_iff.1 k).1
theorem BlkN.past {w w' : World} {h B : Nat} {cs : Array Value} {t : TypeId} (k : BlkN w h cs t) (hb : Below B w w') (hB : h < B) : BlkN w' h cs t := (hb.block h hB).trans k
theorem BlkN.cell {w : World} {h : Nat} {cs : Array Value} {t : TypeId} (k : BlkN w h cs t) (i : Nat) : w.cell? ⟨h, i, none⟩ = cs[i]? := by rw [cell_of_row _ _ _ _ _ _ k]
theorem BlkN.froz {w : World} {h : Nat} {cs : Array Value} {t : TypeId} (k : BlkN w h cs t) (i : Nat) : w.frozen? ⟨h, i, none⟩ = false := by
  have : w.heap[h]? = some (.cells cs t (0, 0)) := k
  rw [World.frozen?, this]; rfl
theorem BlkN.new (w : World) (cs : Array Value) (t : TypeId) : BlkN (w.alloc (.cells cs t)) w.heap.size cs t := heap_alloc_new w _
theorem BlkN.set {w : World} {h : Nat} {cs : Array Value} {t : TypeId} (k : BlkN w h cs t) (i : Nat) (u : Value) : BlkN (w.setCell ⟨h, i, none⟩ u) h (cs.setIfInBounds i u) t := by
  have : w.heap[h]? = some (.cells cs t (0, 0)) := k
  show (w.setCell ⟨h, i, none⟩ u).heap[h]? = _
  simp only [World.setCell, Array.getElem?_modify, this, if_true, Option.map_some, Option.isSome_none, Bool.false_eq_true, if_false]
abbrev estC (TI sI seI LI RI : Int) : Value := .agg #[.int .i64 TI, .int .i64 sI, .int .i64 seI, .int .i64 LI, .int .i64 RI]
def RateP (T s se v u : Nat) (TI sI seI : Int) (w : World) (e : Ending) (w' : World) : Prop := ∃ (L : Nat) (LI : Int), LI = L ∧ e = .returned (.tuple #[estC TI sI seI LI (LI - seI), .int .i64 0]) ∧ se ≤ L ∧ L ≤ T ∧ (L = se ∨ possB T s se v u L = true) ∧ (L = T ∨ possB T s se v u (L + 1) = false) ∧ Below w.heap.size w w'
set_option maxRecDepth 100000 in
set_option maxHeartbeats 1000000 in
theorem rate_num (f : FV) (w : World) (T s se : Nat) (TI sI seI : Int) (hTI : TI = T) (hsI : sI = s) (hseI : seI = se) (hT : T ≤ 10) (hs : s ≤ T) (hse : se ≤ s) (hf : f.ok w w.heap.size) (hvu : f.v < f.u) (hu : f.u ≤ 1000000) :
    Calls Try.prog 7 #[.int .i64 TI, .int .i64 sI, .int .i64 seI, .agg #[.slice f.A f.n f.c, .slice f.B f.m f.d]] w (RateP T s se f.v f.u TI sI seI w) := by
  have j0 : 0 ≤ seI := by omega
  have j1 : seI ≤ 10 := by omega
  have HTI := Lib.hid hTI; have HSI := Lib.hid hsI; have HSE := Lib.hid hseI; have HF := Lib.hid hf
  clear hTI hsI hseI hf
  go_enter Try.func7, Try.ntmps7
  go_wp2_with fail
  have HK0 := Lib.hid (BlkN.new (w.alloc (.cells #[.slice f.A f.n f.c, .slice f.B f.m f.d] 29)) #[.int .i64 0, .int .i64 0, .int .i64 0, .int .i64 0, .int .i64 0] 32)
  have HB0 : Hid (Below w.heap.size w ((w.alloc (.cells #[.slice f.A f.n f.c, .slice f.B f.m f.d] 29)).alloc (.cells #[.int .i64 0, .int .i64 0, .int .i64 0, .int .i64 0, .int .i64 0] 32))) := Lib.hid (((Below.refl _ _).alloc (Nat.le_refl _) _).alloc (by simp) _)
  have HS : Hid ((w.alloc (.cells #[.slice f.A f.n f.c, .slice f.B f.m f.d] 29)).heap.size = w.heap.size + 1) := Lib.hid (by simp)
  rw [HS.out] at HK0
  refine (bound_num f _ T s se TI sI seI HTI.out HSI.out HSE.out hT hs hse (HF.out.past HB0.out HB0.out.size) hvu hu).mono ?_
  generalize (w.alloc (.cells #[.slice f.A f.n f.c, .slice f.B f.m f.d] 29)).alloc (.cells #[.int .i64 0, .int .i64 0, .int .i64 0, .int .i64 0, .int .i64 0] 32) = W at HK0 HB0 ⊢
  clear HS
  rintro e w1 ⟨L, LI, hLI, rfl, p1, p2, p3, p4, hb1⟩
  have hk1 := BlkN.past HK0.out hb1 HK0.out.lt
  have HB1 := Lib.hid (bnextN HB0.out hb1)
  have l0 : 0 ≤ LI := by omega
  have l1 : LI ≤ 10 := by omega
  have c0 : w1.cell? ⟨w.heap.size + 1, 0, none⟩ = some (.int .i64 0) := hk1.cell 0
  have c1 : w1.cell? ⟨w.heap.size + 1, 1, none⟩ = some (.int .i64 0) := hk1.cell 1
  have c2 : w1.cell? ⟨w.heap.size + 1, 2, none⟩ = some (.int .i64 0) := hk1.cell 2
  have c3 : w1.cell? ⟨w.heap.size + 1, 3, none⟩ = some (.int .i64 0) := hk1.cell 3
  have c4 : w1.cell? ⟨w.heap.size + 1, 4, none⟩ = some (.int .i64 0) := hk1.cell 4
  have f0 := hk1.froz 0
  have f1 := hk1.froz 1
  have f2 := hk1.froz 2
  have f3 := hk1.froz 3
  have f4 := hk1.froz 4
  have HP3 := Lib.hid p3; have HP4 := Lib.hid p4; have HLI := Lib.hid hLI
  have HK1 := Lib.hid hk1
  clear hk1 hb1 p3 p4 hLI HK0 HB0
  go_wp2_with fail
  have hk5 := ((((HK1.out.set 0 (.int .i64 TI)).set 1 (.int .i64 sI)).set 2 (.int .i64 seI)).set 3 (.int .i64 LI)).set 4 (.int .i64 (LI - seI))
  have hb5 : Below w.heap.size w (((((w1.setCell ⟨w.heap.size + 1, 0, none⟩ (.int .i64 TI)).setCell ⟨w.heap.size + 1, 1, none⟩ (.int .i64 sI)).setCell ⟨w.heap.size + 1, 2, none⟩ (.int .i64 seI)).setCell ⟨w.heap.size + 1, 3, none⟩ (.int .i64 LI)).setCell ⟨w.heap.size + 1, 4, none⟩ (.int .i64 (LI - seI))) :=
    ((((HB1.out.setCell (p := ⟨w.heap.size + 1, 0, none⟩) (Nat.le_succ _) _).setCell (p := ⟨w.heap.size + 1, 1, none⟩) (Nat.le_succ _) _).setCell (p := ⟨w.heap.size + 1, 2, none⟩) (Nat.le_succ _) _).setCell (p := ⟨w.heap.size + 1, 3, none⟩) (Nat.le_succ _) _).setCell (p := ⟨w.heap.size + 1, 4, none⟩) (Nat.le_succ _) _
  generalize ((((w1.setCell ⟨w.heap.size + 1, 0, none⟩ (.int .i64 TI)).setCell ⟨w.heap.size + 1, 1, none⟩ (.int .i64 sI)).setCell ⟨w.heap.size + 1, 2, none⟩ (.int .i64 seI)).setCell ⟨w.heap.size + 1, 3, none⟩ (.int .i64 LI)).setCell ⟨w.heap.size + 1, 4, none⟩ (.int .i64 (LI - seI)) = wf at hk5 hb5 ⊢
  have d0 : wf.cell? ⟨w.heap.size + 1, 0, none⟩ = some (.int .i64 TI) := hk5.cell 0
  have d1 : wf.cell? ⟨w.heap.size + 1, 1, none⟩ = some (.int .i64 sI) := hk5.cell 1
  have d2 : wf.cell? ⟨w.heap.size + 1, 2, none⟩ = some (.int .i64 seI) := hk5.cell 2
  have d3 : wf.cell? ⟨w.heap.size + 1, 3, none⟩ = some (.int .i64 LI) := hk5.cell 3
  have d4 : wf.cell? ⟨w.heap.size + 1, 4, none⟩ = some (.int .i64 (LI - seI)) := hk5.cell 4
  refine bodyPost_ret (v := .tuple #[estC TI sI seI LI (LI - seI), .int .i64 0]) (by simp [results, Try.results7, go_sem, d0, d1, d2, d3, d4]) rfl ?_
  exact ⟨L, LI, HLI.out, rfl, p1, p2, HP3.out, HP4.out, hb5⟩
#print axioms rate_num
end Go.Proofs.Ytncjmndiafgaaaa
/- The contracts of frac and fit at small numbers, and of common at 3 and 6. Conditions: as each statement says. -/
namespace Go.Proofs.Ytncjmndiafgaaaa
open Go.RowKit
set_option linter.unusedVariables false
theorem NumR.len_pos {w : World} {B n c v : Nat} {A : Option Addr} (h : NumR w B A n c v) (hv : 0 < v) : 0 < n := by
  obtain ⟨l, h1, h2, h3⟩ := h.ex
  have := h3.1
  rcases Nat.eq_zero_or_pos n with h0 | h0
  · subst h0
    have : l = [] := by simpa using this
    subst this; simp [valL] at h2; omega
  · exact h0
theorem Of_numI (v : Nat) (vI : Int) (w : World) (hvI : vI = v) (hv : v ≤ 4000000000) : Calls Try.prog 5 #[.int .u64 vI] w (RetNum w v) := by
  subst hvI; exact Of_num v w hv
theorem ordI_same (v : Nat) : ordI v v = 0 := by simp [ordI]
set_option maxRecDepth 100000 in
set_option maxHeartbeats 1000000 in
theorem frac_num (f : FV) (n d : Nat) (nI dI : Int) (w : World) (hn : nI = n) (hd : dI = d) (hn9 : n ≤ 1000) (hd9 : d ≤ 1000) (hd0 : 0 < d) (hf : f.ok w w.heap.size) (hv9 : f.v ≤ 1000000) (hu9 : f.u ≤ 1000000) (heq : f.v * d = n * f.u) :
    Calls Try.prog 20 #[.agg #[.slice f.A f.n f.c, .slice f.B f.m f.d], .int .u64 nI, .int .u64 dI] w fun e w' => e = .returned (.bool true) ∧ Below w.heap.size w w' := by
  have hm := hf.den.len_pos hf.pos
  have hp1 : f.v * d ≤ 1000000 * 1000 := Nat.mul_le_mul hv9 hd9
  have hp2 : n * f.u ≤ 1000 * 1000000 := Nat.mul_le_mul hn9 hu9
  have HN := Lib.hid hn; have HD := Lib.hid hd; have HF := Lib.hid hf; have HE := Lib.hid heq
  have HC : Hid (ordI (f.v * d) (n * f.u) = 0) := Lib.hid (by rw [heq, ordI_same])
  clear hn hd hf heq
  go_enter Try.func20, Try.ntmps20
  go_wp2_with fail
  have hk0 := BlkN.new w #[.slice f.A f.n f.c, .slice f.B f.m f.d] 29
  have HB0 : Hid (Below w.heap.size w (w.alloc (.cells #[.slice f.A f.n f.c, .slice f.B f.m f.d] 29))) := Lib.hid ((Below.refl _ _).alloc (Nat.le_refl _) _)
  have hlt : w.heap.size < (w.alloc (.cells #[.slice f.A f.n f.c, .slice f.B f.m f.d] 29)).heap.size := hk0.lt
  have b0 : FBox (w.alloc (.cells #[.slice f.A f.n f.c, .slice f.B f.m f.d] 29)) w.heap.size f := ⟨hk0.cell 0, hk0.cell 1⟩
  generalize w.alloc (.cells #[.slice f.A f.n f.c, .slice f.B f.m f.d] 29) = W at hk0 HB0 b0 hlt ⊢
  clear hk0
  go_region_held3 (fun w' => FBox w' w.heap.size f) (first | exact b0 | exact b1 | exact b2 | exact b3)
    ((first
      | (have hsecond := b1
         go_at_call 5
         refine (Of_numI d dI _ HD.out (by omega)).mono ?_
         rintro e w2 ⟨A2, n2, c2, rfl, hr2, hb2⟩
         have b2 := FBox.past b1 hb2 (Nat.lt_of_lt_of_le hlt HB1.out.size)
         have HB2 := Lib.hid (bnextN HB1.out hb2); have HR2 := Lib.hid hr2; have HR1' := Lib.hid (HR1.out.next hb2)
         clear hr2 hb2)
      | (go_at_call 5
         refine (Of_numI n nI _ HN.out (by omega)).mono ?_
         rintro e w1 ⟨A1, n1, c1, rfl, hr1, hb1⟩
         have b1 := FBox.past (w := World.drew W) b0 hb1 hlt
         have HB1 := Lib.hid ((Qw.below (⟨1, rfl⟩ : Qw W (World.drew W)) W.heap.size).trans hb1); have HR1 := Lib.hid hr1
         clear hr1 hb1)
      | (go_at_call 8
         refine (compare_num f ⟨A1, n1, c1, n, A2, n2, c2, d⟩ _ ((HF.out.past HB0.out HB0.out.size).next HB2.out) ⟨HR1'.out, HR2.out, hd0⟩ (by simpa using (by omega : f.v * d ≤ 4000000000)) (by simpa using (by omega : n * f.u ≤ 4000000000))).mono ?_
         rintro e w3 ⟨he, hb3⟩
         rw [HC.out] at he
         obtain rfl := he
         have b3 := FBox.past b2 hb3 (Nat.lt_of_lt_of_le hlt HB2.out.size)
         have HB3 := Lib.hid (bnextN HB2.out hb3)
         clear hb3)))
  have hm0 : (0 : Int) < (f.m : Int) := by omega
  go_wp2_with fail
  go_ret
  exact ⟨rfl, HB0.out.trans (HB3.out.mono HB0.out.size)⟩
theorem fit_num {A : Option Addr} {n c v : Nat} {w : World} (h : NumR w w.heap.size A n c v) : Calls Try.prog 49 #[.slice A n c] w fun e w' => ∃ A' n' c', e = .returned (.tuple #[.slice A' n' c', .int .i64 0]) ∧ NumR w' w'.heap.size A' n' c' v ∧ Below w.heap.size w w' := by
  obtain ⟨l, h1, h2, h3⟩ := h.ex
  have g := h.n2
  have hl : l.length = n := by have := h3.1; simpa using this
  have hlt : (trimL l).length ≤ n := by have h1 := trimN_le l l.length; rw [trimL_len]; omega
  subst h2
  refine (fit_any A n c l w (by omega) (by omega) h.nc h3).mono ?_
  rintro e w' ⟨A', n', c', rfl, hn', hc', hown, hb⟩
  exact ⟨A', n', c', rfl, ⟨⟨trimL l, trimL_limbs h1, trimL_val l, Rd.own hown⟩, by omega, hc'⟩, hb⟩
/-- A number in a block of the call's own. -/
structure OwnN (w : World) (base g n c v : Nat) : Prop where
  ex : ∃ l, Limbs l ∧ valL l = v ∧ w.ownsRow base 47 1 (.slice (some ⟨g, 0, none⟩) n c) n (limC l)
  n2 : n ≤ 1
  nc : n ≤ c
theorem OwnN.num {w : World} {base g n c v : Nat} (h : OwnN w base g n c v) : NumR w w.heap.size (some ⟨g, 0, none⟩) n c v := by
  obtain ⟨l, h1, h2, h3⟩ := h.ex
  exact ⟨⟨l, h1, h2, Rd.own h3⟩, Nat.le_succ_of_le h.n2, h.nc⟩
theorem OwnN.lt {w : World} {base g n c v : Nat} (h : OwnN w base g n c v) : g < w.heap.size := by
  obtain ⟨l, h1, h2, h3⟩ := h.ex; exact own_in h3
theorem OwnN.base {w : World} {base g n c v : Nat} (h : OwnN w base g n c v) : base ≤ g := by
  obtain ⟨l, h1, h2, h3⟩ := h.ex; exact own_base h3 rfl
theorem OwnN.mono {w : World} {base base' g n c v : Nat} (h : OwnN w base g n c v) (hb : base' ≤ base) : OwnN w base' g n c v := by
  obtain ⟨l, h1, h2, h3⟩ := h.ex; exact ⟨⟨l, h1, h2, ownsRow_mono h3 hb⟩, h.n2, h.nc⟩
theorem OwnN.next {w w' : World} {base g n c v : Nat} (h : OwnN w base g n c v) (hb : Below w.heap.size w w') : OwnN w' base g n c v := by
  obtain ⟨l, h1, h2, h3⟩ := h.ex; exact ⟨⟨l, h1, h2, ownsRow_below h3 hb (Nat.le_refl _)⟩, h.n2, h.nc⟩
theorem OwnN.grown {w w' : World} {base g h n c v : Nat} (k : OwnN w base g n c v) (hg : w.grownBy w' (some h)) (hne : g ≠ h) : OwnN w' base g n c v := by
  obtain ⟨l, h1, h2, h3⟩ := k.ex
  exact ⟨⟨l, h1, h2, ownsRow_grown h3 hg (fun j hj => by simp [Value.ownBlock] at hj; subst hj; simpa using hne)⟩, k.n2, k.nc⟩
/-- A call that returns a new number, which is small and not 0. -/
theorem RetLim.own {w w' : World} {l : List Nat} {e : Ending} (hl : Limbs l) (hlen : l.length ≤ 1) (h0 : 0 < l.length) (h : RetLim w l e w') : ∃ g n c, e = .returned (.slice (some ⟨g, 0, none⟩) n c) ∧ OwnN w' w.heap.size g n c (valL l) ∧ Below w.heap.size w w' := by
  obtain ⟨A, n, c, rfl, hn, hc, hown, hb⟩ := h
  rcases hown.2 with ⟨h1, _⟩ | ⟨g, cap, cur, hv, _⟩
  · injection h1 with e1 e2 e3; omega
  · injection hv with e1 e2 e3
    subst e1
    exact ⟨g, n, c, rfl, ⟨⟨l, hl, rfl, hown⟩, by omega, hc⟩, hb⟩
theorem clone_own {A : Option Addr} {n c v : Nat} {w : World} (h : NumR w w.heap.size A n c v) (hv : 0 < v) (hv9 : v ≤ 4000000000) : Calls Try.prog 14 #[.slice A n c] w fun e w' => ∃ g n' c', e = .returned (.slice (some ⟨g, 0, none⟩) n' c') ∧ OwnN w' w.heap.size g n' c' v ∧ Below w.heap.size w w' := by
  obtain ⟨l, h1, h2, h3⟩ := h.ex
  have g := h.n2
  subst h2
  refine (clone_any A n c l w (by omega) h.nc h3).mono fun e w' hr => ?_
  have hl : l.length = n := by have := h3.1; simpa using this
  have hlt : (trimL l).length ≤ n := by have h1 := trimN_le l l.length; rw [trimL_len]; omega
  have hpos : 0 < (trimL l).length := by
    rcases Nat.eq_zero_or_pos (trimL l).length with h0 | h0
    · exfalso
      have e0 : trimL l = [] := List.length_eq_zero_iff.1 h0
      have := trimL_val l
      rw [e0] at this; simp [valL] at this; omega
    · exact h0
  obtain ⟨g', n', c', he, ho, hb⟩ := RetLim.own (trimL_limbs h1) (small_len (trimL_nrm l) (trimL_val l) hv9) hpos hr
  rw [trimL_val] at ho
  exact ⟨g', n', c', he, ho, hb⟩
theorem bit_num {A : Option Addr} {n c v : Nat} {w : World} (h : NumR w w.heap.size A n c v) (hv : 0 < v) : Calls Try.prog 62 #[.slice A n c, .int .i64 0] w fun e w' => e = .returned (.int .u32 (v % 2 : Nat)) ∧ w = w' := by
  have hp := h.len_pos hv
  obtain ⟨l, h1, h2, h3⟩ := h.ex
  have g := h.n2
  subst h2
  have := bit_any A n c 0 w.heap.size l w (by omega) (by omega) h1 h3
  simpa [bitV] using this
theorem half_own {g n c base v : Nat} {w : World} (h : OwnN w base g n c v) : Calls Try.prog 64 #[.slice (some ⟨g, 0, none⟩) n c] w fun e w' => ∃ m, e = .returned (.slice (some ⟨g, 0, none⟩) m c) ∧ OwnN w' base g m c (v / 2) ∧ w.grownBy w' (some g) := by
  obtain ⟨l, h1, h2, h3⟩ := h.ex
  have g2 := h.n2; have gc := h.nc
  subst h2
  refine (half_any g n c base l w (by omega) h.nc h1 h3).mono ?_
  rintro e w' ⟨m, rfl, hm, hmt, ho, hg⟩
  refine ⟨m, rfl, ⟨⟨(halfL l).take m, (halfL_limbs h1).take m, ?_, ?_⟩, by omega, by omega⟩, hg⟩
  · have hl : l.length = n := by have := h3.1; simpa using this
    rw [hmt, trimN_val _ _ (by rw [halfL_len, hl]; exact Nat.le_refl _), List.take_of_length_le (by rw [halfL_len, hl]; exact Nat.le_refl _), halfL_val]
  · have := own_pre ho hm
    rwa [show limC ((halfL l).take m) = (limC (halfL l)).take m from List.map_take]
theorem minus_zero {A A' : Option Addr} {n c n' c' v : Nat} {w : World} (h : NumR w w.heap.size A n c v) (h' : NumR w w.heap.size A' n' c' v) (hn : n' ≤ n) : Calls Try.prog 63 #[.slice A n c, .slice A' n' c'] w fun e w' => ∃ A2 c2, e = .returned (.slice A2 0 c2) ∧ Below w.heap.size w w' := by
  obtain ⟨l, h1, h2, h3⟩ := h.ex; obtain ⟨l', h1', h2', h3'⟩ := h'.ex
  have g := h.n2; have g' := h'.n2
  refine (minus_any A A' n c n' c' l l' w (by omega) hn h1 h1' (by omega) h3 h3').mono ?_
  rintro e w' ⟨r, r1, r2, r3, A2, n2, c2, rfl, hn2, hc2, hown, hb⟩
  have e0 : r.length = 0 := by
    rcases Nat.eq_zero_or_pos r.length with h0 | h0
    · exact h0
    · have h5 := nrm_pos r2 h0
      have h6 : 0 < 4294967296 ^ (r.length - 1) := Nat.pow_pos (by decide)
      omega
  rw [e0] at hn2
  subst hn2
  exact ⟨A2, c2, rfl, hb⟩
#print axioms frac_num
#print axioms minus_zero
#print axioms half_own
end Go.Proofs.Ytncjmndiafgaaaa
/- The contract of common at 3 and 6. Conditions: as the statement says. -/
namespace Go.Proofs.Ytncjmndiafgaaaa
open Go.RowKit
set_option linter.unusedVariables false
theorem nbit_odd {A : Option Addr} {n c v : Nat} {w : World} (h : NumR w w.heap.size A n c v) (hv : v % 2 = 1) : Calls Try.prog 62 #[.slice A n c, .int .i64 0] w fun e w' => e = .returned (.int .u32 1) ∧ w = w' := by
  have := bit_num h (by omega)
  rw [hv] at this; exact this
theorem bit_even {A : Option Addr} {n c v : Nat} {w : World} (h : NumR w w.heap.size A n c v) (h0 : 0 < v) (hv : v % 2 = 0) : Calls Try.prog 62 #[.slice A n c, .int .i64 0] w fun e w' => e = .returned (.int .u32 0) ∧ w = w' := by
  have := bit_num h h0
  rw [hv] at this; exact this
/-- Where the search for the common divisor of 3 and 6 stands. -/
def ComS (w w0 : World) (a b : Value) : Prop :=
  (∃ g n c g' n' c', a = .slice (some ⟨g, 0, none⟩) n c ∧ b = .slice (some ⟨g', 0, none⟩) n' c' ∧ OwnN w w0.heap.size g n c 3 ∧ OwnN w w0.heap.size g' n' c' 6 ∧ g ≠ g') ∨
  (∃ A c g' n' c', a = .slice A 0 c ∧ b = .slice (some ⟨g', 0, none⟩) n' c' ∧ OwnN w w0.heap.size g' n' c' 3)
theorem OwnN.cell0 {w : World} {base g n c v : Nat} (h : OwnN w base g n c v) (h0 : 0 < v) (h1 : v ≤ 4000000000) : w.cell? ⟨g, 0, none⟩ = some (.int .u32 v) := by
  have hp := h.num.len_pos h0
  obtain ⟨l, l1, l2, l3⟩ := h.ex
  have := l3.cellAt 0 (by omega)
  rw [this]
  cases l with
  | nil => simp [valL] at l2; omega
  | cons x l =>
    rw [valL] at l2
    have e : x = v := by omega
    subst e; rfl
def cellV : Option Value → Nat
  | some (.int _ x) => x.toNat
  | _ => 0
def lenV : Value → Nat
  | .slice _ n _ => n
  | _ => 0
set_option maxRecDepth 100000 in
set_option maxHeartbeats 2000000 in
theorem common_36 {A A' : Option Addr} {n c n' c' : Nat} {w : World} (h : NumR w w.heap.size A n c 3) (h' : NumR w w.heap.size A' n' c' 6) :
    Calls Try.prog 47 #[.slice A n c, .slice A' n' c'] w (RetNum w 3) := by
  have H := Lib.hid h; have H' := Lib.hid h'
  clear h h'
  go_enter Try.func47, Try.ntmps47
  go_wp2_with fail
  refine (clone_own H.out (by omega) (by omega)).mono ?_
  rintro e w1 ⟨g1, n1, c1, rfl, ho1, hb1⟩
  have HO1 := Lib.hid ho1; have HB1 := Lib.hid hb1; have H2 := Lib.hid (H'.out.next hb1)
  clear ho1 hb1
  go_wp2_with fail
  refine (clone_own H2.out (by omega) (by omega)).mono ?_
  rintro e w2 ⟨g2, n2, c2, rfl, ho2, hb2⟩
  have hne : g1 ≠ g2 := by have a := HO1.out.lt; have b := ho2.base; omega
  have HO2 := Lib.hid (ho2.mono HB1.out.size); have HB2 := Lib.hid (bnextN HB1.out hb2); have HO1' := Lib.hid (HO1.out.next hb2)
  clear ho2 hb2 HO1 H2 HB1
  have p1 := HO1'.out.num.len_pos (by omega)
  have p2 := HO2.out.num.len_pos (by omega)
  have q1 : ¬ (n1 : Int) = 0 := by omega
  have q2 : ¬ (n2 : Int) = 0 := by omega
  have q3 : ((n1 : Int) == 0) = false := by simp; omega
  have q4 : ((n2 : Int) == 0) = false := by simp; omega
  go_wp2_with fail
  go_loop [0, 1, 5] (fun a b t => a = .slice (some ⟨g1, 0, none⟩) n1 c1 ∧ b = .slice (some ⟨g2, 0, none⟩) n2 c2 ∧ t = .int .i64 0) (fun _ _ _ => 0)
  case atStart => exact ⟨rfl, rfl, rfl⟩
  case round =>
    obtain ⟨rfl, rfl, rfl⟩ := hrel
    go_wp2_with fail
    refine (nbit_odd HO1'.out.num (by omega)).mono ?_
    rintro e w3 ⟨rfl, rfl⟩
    go_wp2_with fail
    go_loopw [0, 1] (fun a b wr => ComS wr w a b ∧ Below w.heap.size w wr) (fun a _ _ => lenV a)
    case atStart => exact ⟨.inl ⟨_, _, _, _, _, _, rfl, rfl, HO1'.out, HO2.out, hne⟩, HB2.out⟩
    case round =>
      clear p1 p2 q1 q2 q3 q4 hne HO1' HO2 HB2
      obtain ⟨hc, hbw⟩ := hrel
      obtain ⟨wa, rfl⟩ : ∃ z : World, z = wr := ⟨_, rfl⟩
      rcases hc with ⟨ga, na, ca, gb, nb, cb, rfl, rfl, hoa, hob, hne⟩ | ⟨Aa, ca, gb, nb, cb, rfl, rfl, hob⟩
      · have HA := Lib.hid hoa; have HB := Lib.hid hob; have HBW := Lib.hid hbw
        have p1 := hoa.num.len_pos (by omega)
        have hge := hob.n2
        clear hoa hob hbw
        have q1 : (0 : Int) < (na : Int) := by omega
        go_wp2_with fail
        go_loop [0] (fun a => a = .slice (some ⟨ga, 0, none⟩) na ca) (fun _ => 0)
        case atStart => rfl
        case round =>
          obtain rfl := hrel
          go_wp2_with fail
          refine (nbit_odd HA.out.num (by omega)).mono ?_
          rintro e w3 ⟨rfl, rfl⟩
          go_wp2_with fail
          go_loopw [1] (fun b wr => ∃ nb cb v, (v = 6 ∨ v = 3) ∧ b = .slice (some ⟨gb, 0, none⟩) nb cb ∧ OwnN wr w.heap.size gb nb cb v ∧ OwnN wr w.heap.size ga na ca 3 ∧ Below w.heap.size w wr) (fun _ wr => cellV (wr.cell? ⟨gb, 0, none⟩))
          case atStart => exact ⟨nb, cb, 6, .inl rfl, rfl, HB.out, HA.out, HBW.out⟩
          case round =>
            clear hge
            obtain ⟨nb, cb, v, hv, rfl, hob, hoa, hbw⟩ := hrel
            obtain ⟨wb, rfl⟩ : ∃ z : World, z = wr := ⟨_, rfl⟩
            have HA2 := Lib.hid hoa; have HB2 := Lib.hid hob; have HBW2 := Lib.hid hbw
            clear hoa hob hbw HA HB HBW
            rcases hv with rfl | rfl
            · go_wp2_with fail
              refine (bit_even HB2.out.num (by omega) (by omega)).mono ?_
              rintro e w3 ⟨rfl, rfl⟩
              go_wp2_with fail
              refine (half_own HB2.out).mono ?_
              rintro e w3 ⟨m, rfl, ho, hg⟩
              have HO3 := Lib.hid ho; have HA3 := Lib.hid (HA2.out.grown hg hne); have HG3 := Lib.hid hg
              have HBW3 := Lib.hid ((HBW2.out).grown hg HBW2.out.size (fun k hk => by cases hk; exact HB2.out.base))
              clear ho hg
              go_wp2_with fail
              go_roundw
              case rel => exact ⟨m, cb, 3, .inr rfl, rfl, HO3.out, HA3.out, HBW3.out⟩
              case measure => rw [HO3.out.cell0 (by omega) (by omega), HB2.out.cell0 (by omega) (by omega)]; simp [cellV]
            · go_wp2_with fail
              refine (nbit_odd HB2.out.num (by omega)).mono ?_
              rintro e w3 ⟨rfl, rfl⟩
              go_wp2_with fail
              refine (order_num HA2.out.num HB2.out.num).mono ?_
              rintro e w3 ⟨he, hq⟩
              rw [ordI_same] at he
              obtain rfl := he
              have HA3 := Lib.hid (HA2.out.num.q hq); have HB3 := Lib.hid (HB2.out.next (hq.below _)); have HBW3 := Lib.hid (HBW2.out.trans (hq.below _))
              have HH : Hid (w3.heap.size = wb.heap.size) := Lib.hid (by rw [hq.heap])
              clear hq
              go_wp2_with fail
              have HA4 := HA3.out
              rw [← HH.out] at HA4
              have hle : nb ≤ na := by
                have a := HA2.out.num.len_pos (by omega); have b := HB2.out.n2
                omega
              refine (minus_zero HA4 HB3.out.num hle).mono ?_
              rintro e w4 ⟨A4, c4, rfl, hb4⟩
              have HBW4 := Lib.hid (bnextN HBW3.out hb4); have HB4 := Lib.hid (HB3.out.next hb4)
              clear hb4 hle HA4
              go_wp2_with fail
              go_roundw
              case rel => exact ⟨.inr ⟨A4, c4, gb, nb, cb, rfl, rfl, HB4.out⟩, HBW4.out⟩
              case measure => simp [lenV]; omega
      · have HB := Lib.hid hob; have HBW := Lib.hid hbw
        clear hob hbw
        have hp := HB.out.num.len_pos (by omega)
        have hn2 := HB.out.n2
        obtain rfl : nb = 1 := by omega
        clear hp hn2
        have HCL : Hid (wa.cell? ⟨gb, 0, none⟩ = some (.int .u32 3)) := Lib.hid (HB.out.cell0 (by omega) (by omega))
        have hmk : ∀ w, (Instr.makeSlice 25 (.int .i64 2) (.int .i64 2)).run Try.prog w = .ok (.slice (some ⟨w.heap.size, 0, none⟩) 2 2) (w.alloc (.cells (Array.replicate 2 (.int .u32 0)) 47)) := fun w => make_nat w 2 (by omega)
        have hgl := HB.out.lt
        have H2 := Lib.hid (show (wa.alloc (.cells (Array.replicate 2 (.int .u32 0)) 47)).cell? ⟨gb, 0, none⟩ = some (.int .u32 3) from (World.cell?_alloc_lt wa _ _ hgl).trans HCL.out)
        have HP : Hid (0 < ([.int .u32 3] : List Value).length → ∃ ad, (some ⟨gb, 0, none⟩ : Option Addr) = some ad ∧ ∀ j v, ([.int .u32 3] : List Value)[j]? = some v → (wa.alloc (.cells (Array.replicate 2 (.int .u32 0)) 47)).cell? (ad.add j) = some v) := Lib.hid (fun _ => ⟨_, rfl, fun j v hj => by
          cases j with
          | zero => rw [addr_zero, H2.out]; exact hj
          | succ j => cases hj⟩)
        have HW : Hid (Below wa.heap.size wa (wa.alloc (.cells (Array.replicate 2 (.int .u32 0)) 47))) := Lib.hid ((Below.refl _ _).alloc (Nat.le_refl _) _)
        clear hgl
        have HG0 : Hid ((wa.alloc (.cells (Array.replicate 2 (.int .u32 0)) 47)).heap[wa.heap.size]? = some (.cells (List.replicate 2 (.int .u32 0)).toArray 47 (0, 0))) := Lib.hid (heap_alloc_new wa (.cells (Array.replicate 2 (.int .u32 0)) 47))
        have HLN : Hid (([.int .u32 3] : List Value).length = Nat.min 1 2) := Lib.hid (by decide)
        have HFT : Hid (0 + ([.int .u32 3] : List Value).length ≤ (List.replicate 2 (Value.int .u32 0)).length) := Lib.hid (by simp)
        have HON : Hid (∀ v ∈ ([.int .u32 3] : List Value), v.oneCell' = true) := Lib.hid (by intro v hv; simp at hv; subst hv; rfl)
        go_wp2_with (with_reducible refine wpList_copy_splice rfl _ _ _ _ rfl 47 (by kernel_rfl) (by kernel_rfl) _ _ _ _ _ _ rfl rfl wa.heap.size 0 (List.replicate 2 (.int .u32 0)) 47 HG0.out [.int .u32 3] HLN.out (fun h0 => ⟨rfl, HP.out h0⟩) HFT.out HON.out wa.heap.size wa HW.out (Nat.le_refl _) ?_; intro w8 HG hb8)
        have hgg : w8.heap[wa.heap.size]? = some (.cells ([.int .u32 3, .int .u32 0] : List Value).toArray 47 (0, 0)) := HG.out
        have HOW := Lib.hid (own_lim (base := w.heap.size) (n := 2) hgg rfl (by omega) HBW.out.size)
        have HB8 := Lib.hid (HBW.out.trans (hb8.mono HBW.out.size))
        clear hgg hb8 HG HG0 HP HW H2 HCL
        go_wp2_with fail
        go_loop [66] (fun i => i = .int .i64 0) (fun _ => 0)
        case atStart => rfl
        case round =>
          obtain rfl := hrel
          go_wp2_with fail
          refine (trim_any (some ⟨wa.heap.size, 0, none⟩) 2 2 w8.heap.size [3, 0] _ (by omega) (Nat.le_refl _) (Rd.own HOW.out)).mono ?_
          rintro e w5 ⟨he, rfl⟩
          obtain rfl : e = .returned (.slice (some ⟨wa.heap.size, 0, none⟩) 1 2) := he
          go_wp2_with fail
          go_ret
          exact ⟨_, 1, 2, rfl, ⟨⟨[3], fun x hx => by (simp at hx; subst hx; decide), rfl, Rd.own (own_pre (show w8.ownsRow _ _ 1 (.slice _ 2 2) 2 (limC [3, 0]) from HOW.out) (m := 1) (by omega))⟩, by omega, by omega⟩, HB8.out⟩
#print axioms common_36
end Go.Proofs.Ytncjmndiafgaaaa
/- The counting behind TopCovers. Conditions: as each statement says. -/
namespace Go.Proofs.Ytncjmndiafgaaaa
open Go.RowKit
set_option linter.unusedVariables false
/-- How many numbers below m have a property. -/
def cntTo (f : Nat → Bool) : Nat → Nat
  | 0 => 0
  | m + 1 => cntTo f m + (if f m then 1 else 0)
theorem cntTo_le {f g : Nat → Bool} : ∀ m, (∀ i, i < m → f i = true → g i = true) → cntTo f m ≤ cntTo g m
  | 0, _ => Nat.le_refl _
  | m + 1, h => by
    have ih := cntTo_le m (fun i hi => h i (by omega))
    have h1 := h m (by omega)
    rw [cntTo, cntTo]
    cases hf : f m
    · simp; omega
    · rw [h1 hf]; simpa using ih
theorem cntTo_none {f : Nat → Bool} : ∀ m, (∀ i, i < m → f i = false) → cntTo f m = 0
  | 0, _ => rfl
  | m + 1, h => by rw [cntTo, cntTo_none m (fun i hi => h i (by omega)), h m (by omega)]; rfl
theorem cntTo_same {f g : Nat → Bool} (m : Nat) (h : ∀ i, i < m → f i = g i) : cntTo f m = cntTo g m :=
  Nat.le_antisymm (cntTo_le m fun i hi e => by rw [← h i hi]; exact e) (cntTo_le m fun i hi e => by rw [h i hi]; exact e)
theorem cntTo_max (f : Nat → Bool) : ∀ m, cntTo f m ≤ m
  | 0 => Nat.le_refl _
  | m + 1 => by have := cntTo_max f m; rw [cntTo]; split <;> omega
theorem cntTo_two (f : Nat → Bool) : ∀ m, cntTo f (2 * m) = cntTo (fun i => f (2 * i)) m + cntTo (fun i => f (2 * i + 1)) m
  | 0 => rfl
  | m + 1 => by
    rw [show 2 * (m + 1) = 2 * m + 1 + 1 by omega, cntTo, cntTo, cntTo_two f m, cntTo, cntTo]; omega
theorem onesN_bit (m e : Nat) (he : e < 2) : onesN (2 * m + e) = e + onesN m := by
  rw [onesN_step, show (2 * m + e) % 2 = e by omega, show (2 * m + e) / 2 = m by omega]
theorem cov_and_bit (m b e d : Nat) (he : e < 2) (hd : d < 2) : (2 * m + e) &&& (2 * b + d) = 2 * (m &&& b) + e * d := by
  have h1 : ((2 * m + e) &&& (2 * b + d)) / 2 = m &&& b := by
    rw [Nat.and_div_two, show (2 * m + e) / 2 = m by omega, show (2 * b + d) / 2 = b by omega]
  have h2 : ((2 * m + e) &&& (2 * b + d)) % 2 = e * d := by
    have h := Nat.and_mod_two_pow (a := 2 * m + e) (b := 2 * b + d) (n := 1)
    rw [Nat.pow_one, show (2 * m + e) % 2 = e by omega, show (2 * b + d) % 2 = d by omega] at h
    rw [h]
    rcases (by omega : e = 0 ∨ e = 1) with rfl | rfl <;> rcases (by omega : d = 0 ∨ d = 1) with rfl | rfl <;> rfl
  omega
theorem onesN_and_le : ∀ (m b : Nat), onesN (m &&& b) ≤ onesN m := by
  intro m
  induction m using Nat.strongRecOn with
  | ind m ih =>
    intro b
    by_cases hm : m = 0
    · subst hm; simp [onesN_zero]
    · have h := cov_and_bit (m / 2) (b / 2) (m % 2) (b % 2) (by omega) (by omega)
      rw [show 2 * (m / 2) + m % 2 = m by omega, show 2 * (b / 2) + b % 2 = b by omega] at h
      have hl : m % 2 * (b % 2) ≤ m % 2 := by
        rcases (by omega : b % 2 = 0 ∨ b % 2 = 1) with e | e <;> rw [e] <;> omega
      rw [h, onesN_bit _ _ (by omega), onesN_step m]
      have := ih (m / 2) (by omega) (b / 2)
      omega
theorem onesN_le_bits : ∀ (n m : Nat), m < 2 ^ n → onesN m ≤ n
  | 0, m, h => by
    obtain rfl : m = 0 := by rw [Nat.pow_zero] at h; omega
    rw [onesN_zero]; exact Nat.le_refl _
  | n + 1, m, h => by
    rw [onesN_step]
    have := onesN_le_bits n (m / 2) (by rw [Nat.pow_succ] at h; omega)
    omega
/-- Sets of s bits that hold less than k of the bad ones. -/
def inM (bad s k i : Nat) : Bool := decide (onesN i = s ∧ onesN (i &&& bad) < k)
theorem sumB_00 (s : Nat) : ∀ k, k ≤ s + 1 + 1 → sumB 0 0 (s + 1) k = 0
  | 0, _ => rfl
  | k + 1, h => by
    rw [sumB, sumB_00 s k (by omega)]
    cases k with
    | zero => rw [bin_zero]; rfl
    | succ k => rw [show bin 0 (k + 1) = 0 from rfl]; simp
theorem count_in : ∀ (n bad s k : Nat), bad < 2 ^ n → k ≤ s + 1 → cntTo (inM bad s k) (2 ^ n) = sumB (onesN bad) (n - onesN bad) s k
  | 0, bad, s, k, h, hk => by
    obtain rfl : bad = 0 := by rw [Nat.pow_zero] at h; omega
    rw [onesN_zero, Nat.pow_zero, Nat.sub_zero, cntTo, cntTo]
    cases s with
    | zero =>
      rcases (by omega : k = 0 ∨ k = 1) with rfl | rfl
      · simp [inM, onesN_zero, sumB]
      · simp [inM, onesN_zero, sumB, bin_zero]
    | succ s =>
      rw [sumB_00 s k hk]
      simp [inM, onesN_zero]
  | n + 1, bad, s, k, h, hk => by
    have hb2 : bad / 2 < 2 ^ n := by rw [Nat.pow_succ] at h; omega
    have IH := count_in n (bad / 2)
    have hone := onesN_step bad
    have hle := onesN_le_bits n (bad / 2) hb2
    have hE : ∀ i, inM bad s k (2 * i) = inM (bad / 2) s k i := fun i => by
      have h1 := onesN_bit i 0 (by omega)
      have h2 := cov_and_bit i (bad / 2) 0 (bad % 2) (by omega) (by omega)
      rw [Nat.add_zero, show 2 * (bad / 2) + bad % 2 = bad by omega, Nat.zero_mul, Nat.add_zero] at h2
      have h3 := onesN_bit (i &&& (bad / 2)) 0 (by omega)
      rw [Nat.add_zero, Nat.zero_add] at h1 h3
      unfold inM
      rw [h1, h2, h3]
    have hO : ∀ i, inM bad s k (2 * i + 1) = decide (1 + onesN i = s ∧ bad % 2 + onesN (i &&& (bad / 2)) < k) := fun i => by
      have h1 := onesN_bit i 1 (by omega)
      have h2 := cov_and_bit i (bad / 2) 1 (bad % 2) (by omega) (by omega)
      rw [show 2 * (bad / 2) + bad % 2 = bad by omega, Nat.one_mul] at h2
      have h3 := onesN_bit (i &&& (bad / 2)) (bad % 2) (by omega)
      unfold inM
      rw [h1, h2, h3]
    rw [show (2 : Nat) ^ (n + 1) = 2 * 2 ^ n by rw [Nat.pow_succ]; omega, cntTo_two, cntTo_same (2 ^ n) (fun i _ => hE i), cntTo_same (2 ^ n) (fun i _ => hO i), IH s k hb2 hk]
    generalize onesN (bad / 2) = b at *
    obtain ⟨c, rfl⟩ : ∃ c, n = b + c := ⟨n - b, by omega⟩
    rw [show b + c - b = c by omega] at *
    cases s with
    | zero =>
      rw [cntTo_none (f := fun i => decide (1 + onesN i = 0 ∧ bad % 2 + onesN (i &&& (bad / 2)) < k)) _ (fun i _ => by simp)]
      rcases (by omega : bad % 2 = 0 ∨ bad % 2 = 1) with hd | hd
      · rw [hone, hd, Nat.zero_add, show b + c + 1 - b = c + 1 by omega]
        rcases (by omega : k = 0 ∨ k = 1) with rfl | rfl
        · rfl
        · simp [sumB, bin_zero]
      · rw [hone, hd, show b + c + 1 - (1 + b) = c by omega, Nat.add_comm 1 b]
        rcases (by omega : k = 0 ∨ k = 1) with rfl | rfl
        · rfl
        · rw [sumB_bad0]; rfl
    | succ s =>
      rcases (by omega : bad % 2 = 0 ∨ bad % 2 = 1) with hd | hd
      · rw [hone, hd, Nat.zero_add, show b + c + 1 - b = c + 1 by omega]
        have e1 : ∀ i, decide (1 + onesN i = s + 1 ∧ 0 + onesN (i &&& (bad / 2)) < k) = inM (bad / 2) s (min k (s + 1)) i := fun i => by
          unfold inM
          have := onesN_and_le i (bad / 2)
          refine decide_eq_decide.2 ?_
          omega
        rw [cntTo_same _ (fun i _ => e1 i), IH s _ hb2 (by omega)]
        rcases (by omega : k ≤ s + 1 ∨ k = s + 1 + 1) with hk2 | rfl
        · rw [show min k (s + 1) = k by omega]
          exact (sumB_good b c s k hk2).symm
        · rw [show min (s + 1 + 1) (s + 1) = s + 1 by omega, sumB_all, sumB_all, sumB_all, show b + (c + 1) = b + c + 1 by omega, bin_succ]; omega
      · rw [hone, hd, show b + c + 1 - (1 + b) = c by omega, Nat.add_comm 1 b]
        cases k with
        | zero =>
          rw [cntTo_none (f := fun i => decide (1 + onesN i = s + 1 ∧ 1 + onesN (i &&& (bad / 2)) < 0)) _ (fun i _ => by simp)]
          rfl
        | succ k =>
          have e1 : ∀ i, decide (1 + onesN i = s + 1 ∧ 1 + onesN (i &&& (bad / 2)) < k + 1) = inM (bad / 2) s k i := fun i => by
            unfold inM
            refine decide_eq_decide.2 ?_
            omega
          rw [cntTo_same _ (fun i _ => e1 i), IH s k hb2 (by omega)]
          cases k with
          | zero => rw [sumB_bad0]; rfl
          | succ k => exact (sumB_bad b c s k (by omega)).symm
theorem count_all (n bad s : Nat) (h : bad < 2 ^ n) : cntTo (fun i => decide (onesN i = s)) (2 ^ n) = bin n s := by
  have h1 := count_in n bad s (s + 1) h (Nat.le_refl _)
  rw [sumB_all, show onesN bad + (n - onesN bad) = n by have := onesN_le_bits n bad h; omega] at h1
  rw [← h1]
  refine cntTo_same _ (fun i _ => ?_)
  unfold inM
  refine decide_eq_decide.2 ?_
  have := onesN_and_le i bad
  omega
theorem last_in (P : Nat → Bool) : ∀ m, (∃ j, j ≤ m ∧ P j = true ∧ ∀ i, i ≤ m → P i = true → i ≤ j) ∨ ∀ i, i ≤ m → P i = false
  | 0 => by
    cases h : P 0
    · exact .inr (fun i hi => by obtain rfl : i = 0 := by omega
                                 exact h)
    · exact .inl ⟨0, Nat.le_refl _, h, fun i hi _ => hi⟩
  | m + 1 => by
    cases h : P (m + 1)
    · rcases last_in P m with ⟨j, h1, h2, h3⟩ | h1
      · refine .inl ⟨j, by omega, h2, fun i hi hp => ?_⟩
        rcases (by omega : i ≤ m ∨ i = m + 1) with h4 | rfl
        · exact h3 i h4 hp
        · rw [h] at hp; cases hp
      · refine .inr (fun i hi => ?_)
        rcases (by omega : i ≤ m ∨ i = m + 1) with h4 | rfl
        · exact h1 i h4
        · exact h
    · exact .inl ⟨m + 1, Nat.le_refl _, h, fun i hi _ => hi⟩
/-- A sample of s bits that the bound excludes. -/
def outF (n s v u bad i : Nat) : Bool := decide (onesN i = s) && !possB n s (onesN (i &&& bad)) v u (onesN bad)
theorem covers_law (n s v u bad : Nat) (h : bad < 2 ^ n) : cntTo (outF n s v u bad) (2 ^ n) * u ≤ v * bin n s := by
  rcases last_in (fun j => !possB n s j v u (onesN bad)) s with ⟨j, h1, h2, h3⟩ | h1
  · have h4 : cntTo (outF n s v u bad) (2 ^ n) ≤ cntTo (inM bad s (j + 1)) (2 ^ n) := cntTo_le _ (fun i _ hi => by
      unfold outF at hi
      rw [Bool.and_eq_true, decide_eq_true_eq] at hi
      have h5 := onesN_and_le i bad
      have h6 := h3 (onesN (i &&& bad)) (by omega) hi.2
      unfold inM
      rw [decide_eq_true_eq]
      omega)
    rw [count_in n bad s (j + 1) h (by omega)] at h4
    have h5 : possB n s j v u (onesN bad) = false := by simpa using h2
    unfold possB at h5
    rw [decide_eq_false_iff_not, waysS_sum] at h5
    have h6 := Nat.mul_le_mul_right u h4
    omega
  · rw [cntTo_none _ (fun i _ => ?_)]
    · simp
    · unfold outF
      by_cases e : onesN i = s
      · have := onesN_and_le i bad
        have h2 : (!possB n s (onesN (i &&& bad)) v u (onesN bad)) = false := h1 (onesN (i &&& bad)) (by omega)
        rw [h2, Bool.and_false]
      · simp [e]
/-- Beyond what the bound allows a number of bad things is excluded. -/
theorem poss_down (n s se v u L : Nat) (hse : se ≤ s) (h : possB n s se v u L = false) : ∀ d, L + d ≤ n → possB n s se v u (L + d) = false
  | 0, _ => h
  | d + 1, hd => by
    have ih := poss_down n s se v u L hse h d (by omega)
    unfold possB at ih ⊢
    rw [decide_eq_false_iff_not] at ih ⊢
    have h2 := ways_down n (L + d) s se (by omega) hse
    have h3 := Nat.mul_le_mul_right u h2
    rw [show L + (d + 1) = L + d + 1 by omega]
    omega
#print axioms covers_law
#print axioms count_all
#print axioms poss_down
end Go.Proofs.Ytncjmndiafgaaaa
