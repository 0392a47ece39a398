/- The contract of Bound. Conditions: as each statement says. -/
import Derived.Test.YtncjmndiafgaaaaNat20
import Derived.Deep.DeepCutAuto
namespace Go.Proofs.Ytncjmndiafgaaaa
open Go.RowKit
set_option linter.unusedVariables false
theorem num_set {w : World} {B n c v h i : Nat} {A A' : Option Addr} {n' c' : Nat} {u : Value} (hn : NumR w B A n c v) (hc : w.cell? ⟨h, i, none⟩ = some (.slice A' n' c')) : NumR (w.setCell ⟨h, i, none⟩ u) B A n c v := by
  obtain ⟨l, h1, h2, h3⟩ := hn.ex
  refine ⟨⟨l, h1, h2, h3.1, fun h0 => ?_⟩, hn.n2, hn.nc⟩
  obtain ⟨b, off, rfl, hb, hcell⟩ := h3.2 h0
  refine ⟨b, off, rfl, hb, fun j x hx => ?_⟩
  have h4 := hcell j x hx
  rw [World.cell?_setCell_other w _ _ u ?_]
  · exact h4
  · intro e
    have e2 : (⟨b, off + j, none⟩ : Addr) = ⟨h, i, none⟩ := by first | exact e | exact e.symm
    rw [e2, hc] at h4
    obtain ⟨y, _, rfl⟩ := List.mem_map.1 (List.mem_of_getElem? hx)
    cases h4
/-- A box that holds a slice. -/
structure BoxN (w : World) (h : Nat) (v : Value) : Prop where
  lt : h < w.heap.size
  cell : w.cell? ⟨h, 0, none⟩ = some v
  froz : w.frozen? ⟨h, 0, none⟩ = false
theorem BoxN.new (w : World) (v : Value) (t : TypeId) : BoxN (w.alloc (.cells #[v] t)) w.heap.size v := by
  have k1 := heap_alloc_new w (.cells #[v] t)
  exact ⟨by simp, by rw [cell_of_row _ _ _ _ _ _ k1]; rfl, by rw [World.frozen?, k1]; rfl⟩
theorem BoxN.past {w w' : World} {h : Nat} {v : Value} (hx : BoxN w h v) (hb : Below w.heap.size w w') : BoxN w' h v :=
  ⟨Nat.lt_of_lt_of_le hx.lt hb.size, (hb.cell (p := ⟨h, 0, none⟩) hx.lt).trans hx.cell, (hb.frozen (p := ⟨h, 0, none⟩) hx.lt).trans hx.froz⟩
theorem BoxN.put {w : World} {h : Nat} {v : Value} (hx : BoxN w h v) (u : Value) : BoxN (w.setCell ⟨h, 0, none⟩ u) h u :=
  ⟨by rw [size_setCell]; exact hx.lt, cell_set hx.cell, by rw [World.frozen?_setCell]; exact hx.froz⟩
/-- The limit of Bound, in its box. -/
def LimP (w1 : World) (v : Nat) (s : Value) (wx : World) : Prop := ∃ h A n c, s = .pointer (some ⟨h, 0, none⟩) ∧ w1.heap.size ≤ h ∧ BoxN wx h (.slice A n c) ∧ NumR wx wx.heap.size A n c v ∧ Below w1.heap.size w1 wx
theorem bx4 (w : World) (TI sI seI : Int) (f : FV) (t t2 : TypeId) : BxC ((((w.alloc (.cells #[.int .i64 TI] t)).alloc (.cells #[.int .i64 sI] t)).alloc (.cells #[.int .i64 seI] t)).alloc (.cells #[.slice f.A f.n f.c, .slice f.B f.m f.d] t2)) w.heap.size TI sI seI f := by
  have e1 : (w.alloc (.cells #[.int .i64 TI] t)).heap.size = w.heap.size + 1 := by simp
  have e2 : ((w.alloc (.cells #[.int .i64 TI] t)).alloc (.cells #[.int .i64 sI] t)).heap.size = w.heap.size + 1 + 1 := by simp
  have e3 : (((w.alloc (.cells #[.int .i64 TI] t)).alloc (.cells #[.int .i64 sI] t)).alloc (.cells #[.int .i64 seI] t)).heap.size = w.heap.size + 1 + 1 + 1 := by simp
  have k1 := heap_alloc_new w (.cells #[.int .i64 TI] t)
  have k2 := heap_alloc_new (w.alloc (.cells #[.int .i64 TI] t)) (.cells #[.int .i64 sI] t)
  have k3 := heap_alloc_new ((w.alloc (.cells #[.int .i64 TI] t)).alloc (.cells #[.int .i64 sI] t)) (.cells #[.int .i64 seI] t)
  have k4 := heap_alloc_new (((w.alloc (.cells #[.int .i64 TI] t)).alloc (.cells #[.int .i64 sI] t)).alloc (.cells #[.int .i64 seI] t)) (.cells #[.slice f.A f.n f.c, .slice f.B f.m f.d] t2)
  rw [e1] at k2; rw [e2] at k3; rw [e3] at k4
  refine ⟨?_, ?_, ?_, ?_, ?_⟩
  · rw [World.cell?_alloc_lt _ _ _ (by show w.heap.size < _; omega), World.cell?_alloc_lt _ _ _ (by show w.heap.size < _; omega), World.cell?_alloc_lt _ _ _ (by show w.heap.size < _; omega), cell_of_row _ _ _ _ _ _ k1]; rfl
  · rw [World.cell?_alloc_lt _ _ _ (by show w.heap.size + 1 < _; omega), World.cell?_alloc_lt _ _ _ (by show w.heap.size + 1 < _; omega), cell_of_row _ _ _ _ _ _ k2]; rfl
  · rw [World.cell?_alloc_lt _ _ _ (by show w.heap.size + 1 + 1 < _; omega), cell_of_row _ _ _ _ _ _ k3]; rfl
  · rw [cell_of_row _ _ _ _ _ _ k4]; rfl
  · rw [cell_of_row _ _ _ _ _ _ k4]; rfl
def BoundP (T s se v u : Nat) (w : World) (e : Ending) (w' : World) : Prop := ∃ (L : Nat) (LI : Int), LI = L ∧ e = .returned (.tuple #[.int .i64 LI, .int .i64 0]) ∧ se ≤ L ∧ L ≤ T ∧ (L = se ∨ possB T s se v u L = true) ∧ (L = T ∨ possB T s se v u (L + 1) = false) ∧ Below w.heap.size w w'
set_option maxRecDepth 100000 in
set_option maxHeartbeats 4000000 in
theorem bound_num (f : FV) (w : World) (T s se : Nat) (TI sI seI : Int) (hTI : TI = T) (hsI : sI = s) (hseI : seI = se) (hT : T ≤ 10) (hs : s ≤ T) (hse : se ≤ s) (hf : f.ok w w.heap.size) (hvu : f.v < f.u) (hu : f.u ≤ 1000000) :
    Calls Try.prog 15 #[.int .i64 TI, .int .i64 sI, .int .i64 seI, .agg #[.slice f.A f.n f.c, .slice f.B f.m f.d]] w (BoundP T s se f.v f.u w) := by
  have hbn := bin_le T hT s
  have hprod : f.v * bin T s ≤ 1000000 * 252 := Nat.mul_le_mul (by omega) hbn
  have hpr : f.v * bin T s ≤ 4000000000 := by omega
  have i1 : ¬ seI < 0 := by omega
  have i2 : ¬ sI < seI := by omega
  have j1 : 0 ≤ sI := by omega
  have j2 : sI ≤ TI := by omega
  have j3 : TI ≤ 10 := by omega
  have HTI := Lib.hid hTI; have HSI := Lib.hid hsI; have HSE := Lib.hid hseI; have HF := Lib.hid hf
  clear hTI hsI hseI hf hprod hbn
  go_enter Try.func15, Try.ntmps15
  go_wp2_with fail
  have BX0 := Lib.hid (bx4 w TI sI seI f 3 29)
  have HB0 : Hid (Below w.heap.size w ((((w.alloc (.cells #[.int .i64 TI] 3)).alloc (.cells #[.int .i64 sI] 3)).alloc (.cells #[.int .i64 seI] 3)).alloc (.cells #[.slice f.A f.n f.c, .slice f.B f.m f.d] 29))) := Lib.hid (((((Below.refl _ _).alloc (Nat.le_refl _) _).alloc (by simp) _).alloc (by simp; omega) _).alloc (by simp; omega) _)
  have HS : Hid (((((w.alloc (.cells #[.int .i64 TI] 3)).alloc (.cells #[.int .i64 sI] 3)).alloc (.cells #[.int .i64 seI] 3)).alloc (.cells #[.slice f.A f.n f.c, .slice f.B f.m f.d] 29)).heap.size = w.heap.size + 1 + 1 + 1 + 1) := Lib.hid (by simp)
  generalize (((w.alloc (.cells #[.int .i64 TI] 3)).alloc (.cells #[.int .i64 sI] 3)).alloc (.cells #[.int .i64 seI] 3)).alloc (.cells #[.slice f.A f.n f.c, .slice f.B f.m f.d] 29) = W at BX0 HB0 HS ⊢
  have HV := Lib.hid (fs_one W f 29 (HF.out.past HB0.out HB0.out.size))
  rw [HS.out] at HV
  refine (valid_ok (w.heap.size + 1 + 1 + 1 + 1) 1 _ _ (by omega) HV.out).mono ?_
  rintro e w1 ⟨rfl, hb1⟩
  have hb3 : Below W.heap.size W w1 := ((Below.refl _ _).alloc (Nat.le_refl _) _).trans (hb1.mono (by simp))
  have BXW := Lib.hid (BxC.past BX0.out hb3 (by rw [HS.out]; omega))
  have hg1 : w.heap.size + 1 + 1 + 1 < w1.heap.size := by have h1 := hb3.size; have h2 := HS.out; omega
  have HBW := Lib.hid (bnextN HB0.out hb3)
  clear hb1 hb3 BX0 HB0 HS HV
  have b0 := BXW.out
  go_wp2_with fail
  refine (sane_yes TI sI _ j1 j2 (by omega)).mono ?_
  rintro e w' ⟨rfl, rfl⟩
  go_wp2_with fail
  refine (order_num (HF.out.num.past HBW.out HBW.out.size) (HF.out.den.past HBW.out HBW.out.size)).mono ?_
  rintro e w2 ⟨he, hq⟩
  obtain ⟨z, hz, rfl⟩ : ∃ z, z = ordI f.v f.u ∧ e = .returned (.int .i64 z) := ⟨_, rfl, he⟩
  have hz0 : ¬ 0 ≤ z := by rw [hz]; unfold ordI; rw [if_pos hvu]; omega
  have BXW2 := Lib.hid (BxC.past BXW.out (hq.below w1.heap.size) hg1)
  have hg2 : w.heap.size + 1 + 1 + 1 < w2.heap.size := by rw [hq.heap]; exact hg1
  have HBW2 := Lib.hid (HBW.out.trans (hq.below _))
  clear hz he hq b0 BXW HBW hg1
  obtain ⟨w1, rfl⟩ : ∃ x : World, x = w2 := ⟨_, rfl⟩
  have BXW := BXW2; have HBW := HBW2; have hg1 := hg2
  clear BXW2 HBW2 hg2
  go_wp2_with fail
  go_cut [11] (fun s11 wx => LimP w1 (f.v * bin T s) s11 wx)
  case first =>
    refine wp_region_held_drew (S := fun w' => BxC w' w.heap.size TI sI seI f ∧ Below w1.heap.size w1 w') (by kernel_rfl) ?_ (fun hHeld => ?_)
    · (try dsimp only); first | exact ⟨BXW.out, Below.refl _ _⟩ | exact ⟨BXW.out.past ((Qw.refl w1).drew.below _) hg1, (Qw.refl w1).drew.below _⟩ | exact HS2.out | exact HS3.out | exact ⟨BxC.past hHeld.1 ((Below.refl _ _).alloc (Nat.le_refl _) _) (Nat.lt_of_lt_of_le hg1 hHeld.2.size), hHeld.2.alloc hHeld.2.size _⟩ | exact ⟨BxC.past (w' := World.setCell _ _ _) hHeld.1 ((Below.refl w1.heap.size _).setCell hlow _) hg1, hHeld.2.setCell hlow _⟩ | exact hHeld
    refine wpAnyH_take (i := 0) (oi := ⟨some 41, _, _, _, _, _⟩) (v := ?_) rfl (by kernel_rfl) (by kernel_rfl) (by kernel_rfl) (fun _ _ _ h => h) (Or.inl ⟨by rfl, ?_⟩) (by assumption) ?_
    rotate_left
    · (intro w hSw; (try dsimp only at hSw); go_simp; try with_reducible rfl)
    try simp only [Act.put, List.setIfInBounds_toArray, List.set_cons_zero, List.set_cons_succ]
    refine wpAnyH_take (i := 1) (oi := ⟨some 42, _, _, _, _, _⟩) (v := ?_) rfl (by kernel_rfl) (by kernel_rfl) (by kernel_rfl) (fun _ _ _ h => h) (Or.inl ⟨by rfl, ?_⟩) (by assumption) ?_
    rotate_left
    · (intro w hSw; (try dsimp only at hSw); go_simp; try with_reducible rfl)
    try simp only [Act.put, List.setIfInBounds_toArray, List.set_cons_zero, List.set_cons_succ]
    refine wpAnyH_take (i := 2) (oi := ⟨some 43, _, _, _, _, _⟩) (v := ?_) rfl (by kernel_rfl) (by kernel_rfl) (by kernel_rfl) (fun _ _ _ h => h) (Or.inl ⟨by rfl, ?_⟩) (by assumption) ?_
    rotate_left
    · (intro w hSw; (try dsimp only at hSw); go_simp; try with_reducible rfl)
    try simp only [Act.put, List.setIfInBounds_toArray, List.set_cons_zero, List.set_cons_succ]
    refine wpAnyH_take (i := 3) (oi := ⟨some 44, _, _, _, _, _⟩) (v := ?_) rfl (by kernel_rfl) (by kernel_rfl) (by kernel_rfl) (fun _ _ _ h => h) (Or.inl ⟨by rfl, ?_⟩) (by assumption) ?_
    rotate_left
    · (intro w hSw; (try dsimp only at hSw); go_simp; try with_reducible rfl)
    try simp only [Act.put, List.setIfInBounds_toArray, List.set_cons_zero, List.set_cons_succ]
    refine wpAnyH_ready (rs := [4, 6]) (by kernel_rfl) (by simp) ?_
    refine AllReadyH.cons (o := ⟨some 45, _, _, _, _, _⟩) rfl (fun K hK => ?_) ?_
    · skip
      go_simp
      refine (choose_num T s TI sI HTI.out HSI.out hT hs).mono ?_
      rintro e w2 ⟨A1, n1, k1, rfl, hr1, hb1⟩
      have HS2 := Lib.hid (⟨BxC.past hHeld.1 hb1 (Nat.lt_of_lt_of_le hg1 hHeld.2.size), hHeld.2.trans (hb1.mono hHeld.2.size)⟩ : BxC w2 w.heap.size TI sI seI f ∧ Below w1.heap.size w1 w2)
      have HR1 := Lib.hid hr1
      clear hr1 hb1
      go_wp2_with fail
      refine hK.out _ _ ?_ (fun hHeld => ?_)
      · (try dsimp only); first | exact ⟨BXW.out, Below.refl _ _⟩ | exact ⟨BXW.out.past ((Qw.refl w1).drew.below _) hg1, (Qw.refl w1).drew.below _⟩ | exact HS2.out | exact HS3.out | exact ⟨BxC.past hHeld.1 ((Below.refl _ _).alloc (Nat.le_refl _) _) (Nat.lt_of_lt_of_le hg1 hHeld.2.size), hHeld.2.alloc hHeld.2.size _⟩ | exact ⟨BxC.past (w' := World.setCell _ _ _) hHeld.1 ((Below.refl w1.heap.size _).setCell hlow _) hg1, hHeld.2.setCell hlow _⟩ | exact hHeld
      clear hK K
      try simp only [Act.put, List.setIfInBounds_toArray, List.set_cons_zero, List.set_cons_succ]
      refine wpAnyH_ready (rs := [5, 6]) (by kernel_rfl) (by simp) ?_
      refine AllReadyH.cons (o := ⟨some 46, _, _, _, _, _⟩) rfl (fun K hK => ?_) ?_
      · skip
        go_simp
        refine (times_num (HF.out.num.past (HBW.out.trans (hHeld.2.mono HBW.out.size)) (Nat.le_trans HBW.out.size hHeld.2.size)) HR1.out hpr).mono ?_
        rintro e w3 ⟨A2, n2, k2, rfl, hr2, hb2⟩
        have HS3 := Lib.hid (⟨BxC.past hHeld.1 hb2 (Nat.lt_of_lt_of_le hg1 hHeld.2.size), hHeld.2.trans (hb2.mono hHeld.2.size)⟩ : BxC w3 w.heap.size TI sI seI f ∧ Below w1.heap.size w1 w3)
        have HR2 := Lib.hid hr2
        clear hr2 hb2
        go_wp2_with fail
        refine hK.out _ _ ?_ (fun hHeld => ?_)
        · (try dsimp only); first | exact ⟨BXW.out, Below.refl _ _⟩ | exact ⟨BXW.out.past ((Qw.refl w1).drew.below _) hg1, (Qw.refl w1).drew.below _⟩ | exact HS2.out | exact HS3.out | exact ⟨BxC.past hHeld.1 ((Below.refl _ _).alloc (Nat.le_refl _) _) (Nat.lt_of_lt_of_le hg1 hHeld.2.size), hHeld.2.alloc hHeld.2.size _⟩ | exact ⟨BxC.past (w' := World.setCell _ _ _) hHeld.1 ((Below.refl w1.heap.size _).setCell hlow _) hg1, hHeld.2.setCell hlow _⟩ | exact hHeld
        clear hK K
        try simp only [Act.put, List.setIfInBounds_toArray, List.set_cons_zero, List.set_cons_succ]
        refine wpAnyH_ready (rs := [6]) (by kernel_rfl) (by simp) ?_
        refine AllReadyH.cons (o := ⟨some 11, _, _, _, _, _⟩) rfl (fun K hK => ?_) AllReadyH.nil
        go_simp
        refine hK.out _ _ ?_ (fun hHeld => ?_)
        · (try dsimp only); first | exact ⟨BXW.out, Below.refl _ _⟩ | exact ⟨BXW.out.past ((Qw.refl w1).drew.below _) hg1, (Qw.refl w1).drew.below _⟩ | exact HS2.out | exact HS3.out | exact ⟨BxC.past hHeld.1 ((Below.refl _ _).alloc (Nat.le_refl _) _) (Nat.lt_of_lt_of_le hg1 hHeld.2.size), hHeld.2.alloc hHeld.2.size _⟩ | exact ⟨BxC.past (w' := World.setCell _ _ _) hHeld.1 ((Below.refl w1.heap.size _).setCell hlow _) hg1, hHeld.2.setCell hlow _⟩ | exact hHeld
        clear hK K
        try simp only [Act.put, List.setIfInBounds_toArray, List.set_cons_zero, List.set_cons_succ]
        have hx := BoxN.new w3 (.slice none 0 0) 25
        have hbx : Below w3.heap.size w3 (w3.alloc (.cells #[.slice none 0 0] 25)) := (Below.refl _ _).alloc (Nat.le_refl _) _
        have hlow : w1.heap.size ≤ w3.heap.size := HS3.out.2.size
        have HR2' := Lib.hid (HR2.out.next hbx)
        clear HR2
        have HR2 := HR2'
        clear HR2'
        clear hbx
        generalize w3.alloc (.cells #[.slice none 0 0] 25) = wm at *
        have hx1 := hx.cell; have hx0 := hx.froz
        refine wpAnyH_ready (rs := [7]) (by kernel_rfl) (by simp) ?_
        refine AllReadyH.cons (o := ⟨none, _, _, _, _, _⟩) rfl (fun K hK => ?_) AllReadyH.nil
        have hx1 := hx.cell; have hx0 := hx.froz
        go_simp
        refine hK.out _ _ ?_ (fun hHeld => ?_)
        · (try dsimp only); first | exact ⟨BXW.out, Below.refl _ _⟩ | exact ⟨BXW.out.past ((Qw.refl w1).drew.below _) hg1, (Qw.refl w1).drew.below _⟩ | exact HS2.out | exact HS3.out | exact ⟨BxC.past hHeld.1 ((Below.refl _ _).alloc (Nat.le_refl _) _) (Nat.lt_of_lt_of_le hg1 hHeld.2.size), hHeld.2.alloc hHeld.2.size _⟩ | exact ⟨BxC.past (w' := World.setCell _ _ _) hHeld.1 ((Below.refl w1.heap.size _).setCell hlow _) hg1, hHeld.2.setCell hlow _⟩ | exact hHeld
        clear hK K
        try simp only [Act.put, List.setIfInBounds_toArray, List.set_cons_zero, List.set_cons_succ]
        refine wpAnyH_done (by kernel_rfl) ?_ _
        have hx9 := BoxN.put hx (.slice A2 n2 k2)
        have hr9 := num_set (u := .slice A2 n2 k2) HR2.out hx.cell
        have hb9 := hHeld.2
        have hlow9 := hlow
        clear hx hx1 hx0 hlow
        go_wp2_with fail
        go_meet
        exact ⟨_, _, _, _, rfl, hlow9, hx9, by rw [size_setCell]; exact hr9, hb9⟩
      refine AllReadyH.cons (o := ⟨some 11, _, _, _, _, _⟩) rfl (fun K hK => ?_) AllReadyH.nil
      go_simp
      refine hK.out _ _ ?_ (fun hHeld => ?_)
      · (try dsimp only); first | exact ⟨BXW.out, Below.refl _ _⟩ | exact ⟨BXW.out.past ((Qw.refl w1).drew.below _) hg1, (Qw.refl w1).drew.below _⟩ | exact HS2.out | exact HS3.out | exact ⟨BxC.past hHeld.1 ((Below.refl _ _).alloc (Nat.le_refl _) _) (Nat.lt_of_lt_of_le hg1 hHeld.2.size), hHeld.2.alloc hHeld.2.size _⟩ | exact ⟨BxC.past (w' := World.setCell _ _ _) hHeld.1 ((Below.refl w1.heap.size _).setCell hlow _) hg1, hHeld.2.setCell hlow _⟩ | exact hHeld
      clear hK K
      try simp only [Act.put, List.setIfInBounds_toArray, List.set_cons_zero, List.set_cons_succ]
      have hx := BoxN.new w2 (.slice none 0 0) 25
      have hbx : Below w2.heap.size w2 (w2.alloc (.cells #[.slice none 0 0] 25)) := (Below.refl _ _).alloc (Nat.le_refl _) _
      have hlow : w1.heap.size ≤ w2.heap.size := HS2.out.2.size
      have HR1' := Lib.hid (HR1.out.next hbx)
      clear HR1
      have HR1 := HR1'
      clear HR1'
      clear hbx
      generalize w2.alloc (.cells #[.slice none 0 0] 25) = wm at *
      have hx1 := hx.cell; have hx0 := hx.froz
      refine wpAnyH_ready (rs := [5]) (by kernel_rfl) (by simp) ?_
      refine AllReadyH.cons (o := ⟨some 46, _, _, _, _, _⟩) rfl (fun K hK => ?_) AllReadyH.nil
      go_simp
      refine (times_num (HF.out.num.past (HBW.out.trans (hHeld.2.mono HBW.out.size)) (Nat.le_trans HBW.out.size hHeld.2.size)) HR1.out hpr).mono ?_
      rintro e w3 ⟨A2, n2, k2, rfl, hr2, hb2⟩
      have HS3 := Lib.hid (⟨BxC.past hHeld.1 hb2 (Nat.lt_of_lt_of_le hg1 hHeld.2.size), hHeld.2.trans (hb2.mono hHeld.2.size)⟩ : BxC w3 w.heap.size TI sI seI f ∧ Below w1.heap.size w1 w3)
      have HR2 := Lib.hid hr2
      have hx2 := BoxN.past hx hb2
      clear hx
      have hx := hx2
      clear hx2
      clear hr2 hb2
      go_wp2_with fail
      refine hK.out _ _ ?_ (fun hHeld => ?_)
      · (try dsimp only); first | exact ⟨BXW.out, Below.refl _ _⟩ | exact ⟨BXW.out.past ((Qw.refl w1).drew.below _) hg1, (Qw.refl w1).drew.below _⟩ | exact HS2.out | exact HS3.out | exact ⟨BxC.past hHeld.1 ((Below.refl _ _).alloc (Nat.le_refl _) _) (Nat.lt_of_lt_of_le hg1 hHeld.2.size), hHeld.2.alloc hHeld.2.size _⟩ | exact ⟨BxC.past (w' := World.setCell _ _ _) hHeld.1 ((Below.refl w1.heap.size _).setCell hlow _) hg1, hHeld.2.setCell hlow _⟩ | exact hHeld
      clear hK K
      try simp only [Act.put, List.setIfInBounds_toArray, List.set_cons_zero, List.set_cons_succ]
      refine wpAnyH_ready (rs := [7]) (by kernel_rfl) (by simp) ?_
      refine AllReadyH.cons (o := ⟨none, _, _, _, _, _⟩) rfl (fun K hK => ?_) AllReadyH.nil
      have hx1 := hx.cell; have hx0 := hx.froz
      go_simp
      refine hK.out _ _ ?_ (fun hHeld => ?_)
      · (try dsimp only); first | exact ⟨BXW.out, Below.refl _ _⟩ | exact ⟨BXW.out.past ((Qw.refl w1).drew.below _) hg1, (Qw.refl w1).drew.below _⟩ | exact HS2.out | exact HS3.out | exact ⟨BxC.past hHeld.1 ((Below.refl _ _).alloc (Nat.le_refl _) _) (Nat.lt_of_lt_of_le hg1 hHeld.2.size), hHeld.2.alloc hHeld.2.size _⟩ | exact ⟨BxC.past (w' := World.setCell _ _ _) hHeld.1 ((Below.refl w1.heap.size _).setCell hlow _) hg1, hHeld.2.setCell hlow _⟩ | exact hHeld
      clear hK K
      try simp only [Act.put, List.setIfInBounds_toArray, List.set_cons_zero, List.set_cons_succ]
      refine wpAnyH_done (by kernel_rfl) ?_ _
      have hx9 := BoxN.put hx (.slice A2 n2 k2)
      have hr9 := num_set (u := .slice A2 n2 k2) HR2.out hx.cell
      have hb9 := hHeld.2
      have hlow9 := hlow
      clear hx hx1 hx0 hlow
      go_wp2_with fail
      go_meet
      exact ⟨_, _, _, _, rfl, hlow9, hx9, by rw [size_setCell]; exact hr9, hb9⟩
    refine AllReadyH.cons (o := ⟨some 11, _, _, _, _, _⟩) rfl (fun K hK => ?_) AllReadyH.nil
    go_simp
    refine hK.out _ _ ?_ (fun hHeld => ?_)
    · (try dsimp only); first | exact ⟨BXW.out, Below.refl _ _⟩ | exact ⟨BXW.out.past ((Qw.refl w1).drew.below _) hg1, (Qw.refl w1).drew.below _⟩ | exact HS2.out | exact HS3.out | exact ⟨BxC.past hHeld.1 ((Below.refl _ _).alloc (Nat.le_refl _) _) (Nat.lt_of_lt_of_le hg1 hHeld.2.size), hHeld.2.alloc hHeld.2.size _⟩ | exact ⟨BxC.past (w' := World.setCell _ _ _) hHeld.1 ((Below.refl w1.heap.size _).setCell hlow _) hg1, hHeld.2.setCell hlow _⟩ | exact hHeld
    clear hK K
    try simp only [Act.put, List.setIfInBounds_toArray, List.set_cons_zero, List.set_cons_succ]
    have hx : BoxN (w1.alloc (.cells #[.slice none 0 0] 25)).drew w1.heap.size (.slice none 0 0) := BoxN.new w1.drew (.slice none 0 0) 25
    have hlow : w1.heap.size ≤ w1.heap.size := Nat.le_refl _
    generalize (w1.alloc (.cells #[.slice none 0 0] 25)).drew = wm at *
    have hx1 := hx.cell; have hx0 := hx.froz
    refine wpAnyH_ready (rs := [4]) (by kernel_rfl) (by simp) ?_
    refine AllReadyH.cons (o := ⟨some 45, _, _, _, _, _⟩) rfl (fun K hK => ?_) AllReadyH.nil
    go_simp
    refine (choose_num T s TI sI HTI.out HSI.out hT hs).mono ?_
    rintro e w2 ⟨A1, n1, k1, rfl, hr1, hb1⟩
    have HS2 := Lib.hid (⟨BxC.past hHeld.1 hb1 (Nat.lt_of_lt_of_le hg1 hHeld.2.size), hHeld.2.trans (hb1.mono hHeld.2.size)⟩ : BxC w2 w.heap.size TI sI seI f ∧ Below w1.heap.size w1 w2)
    have HR1 := Lib.hid hr1
    have hx2 := BoxN.past hx hb1
    clear hx
    have hx := hx2
    clear hx2
    clear hr1 hb1
    go_wp2_with fail
    refine hK.out _ _ ?_ (fun hHeld => ?_)
    · (try dsimp only); first | exact ⟨BXW.out, Below.refl _ _⟩ | exact ⟨BXW.out.past ((Qw.refl w1).drew.below _) hg1, (Qw.refl w1).drew.below _⟩ | exact HS2.out | exact HS3.out | exact ⟨BxC.past hHeld.1 ((Below.refl _ _).alloc (Nat.le_refl _) _) (Nat.lt_of_lt_of_le hg1 hHeld.2.size), hHeld.2.alloc hHeld.2.size _⟩ | exact ⟨BxC.past (w' := World.setCell _ _ _) hHeld.1 ((Below.refl w1.heap.size _).setCell hlow _) hg1, hHeld.2.setCell hlow _⟩ | exact hHeld
    clear hK K
    try simp only [Act.put, List.setIfInBounds_toArray, List.set_cons_zero, List.set_cons_succ]
    refine wpAnyH_ready (rs := [5]) (by kernel_rfl) (by simp) ?_
    refine AllReadyH.cons (o := ⟨some 46, _, _, _, _, _⟩) rfl (fun K hK => ?_) AllReadyH.nil
    go_simp
    refine (times_num (HF.out.num.past (HBW.out.trans (hHeld.2.mono HBW.out.size)) (Nat.le_trans HBW.out.size hHeld.2.size)) HR1.out hpr).mono ?_
    rintro e w3 ⟨A2, n2, k2, rfl, hr2, hb2⟩
    have HS3 := Lib.hid (⟨BxC.past hHeld.1 hb2 (Nat.lt_of_lt_of_le hg1 hHeld.2.size), hHeld.2.trans (hb2.mono hHeld.2.size)⟩ : BxC w3 w.heap.size TI sI seI f ∧ Below w1.heap.size w1 w3)
    have HR2 := Lib.hid hr2
    have hx2 := BoxN.past hx hb2
    clear hx
    have hx := hx2
    clear hx2
    clear hr2 hb2
    go_wp2_with fail
    refine hK.out _ _ ?_ (fun hHeld => ?_)
    · (try dsimp only); first | exact ⟨BXW.out, Below.refl _ _⟩ | exact ⟨BXW.out.past ((Qw.refl w1).drew.below _) hg1, (Qw.refl w1).drew.below _⟩ | exact HS2.out | exact HS3.out | exact ⟨BxC.past hHeld.1 ((Below.refl _ _).alloc (Nat.le_refl _) _) (Nat.lt_of_lt_of_le hg1 hHeld.2.size), hHeld.2.alloc hHeld.2.size _⟩ | exact ⟨BxC.past (w' := World.setCell _ _ _) hHeld.1 ((Below.refl w1.heap.size _).setCell hlow _) hg1, hHeld.2.setCell hlow _⟩ | exact hHeld
    clear hK K
    try simp only [Act.put, List.setIfInBounds_toArray, List.set_cons_zero, List.set_cons_succ]
    refine wpAnyH_ready (rs := [7]) (by kernel_rfl) (by simp) ?_
    refine AllReadyH.cons (o := ⟨none, _, _, _, _, _⟩) rfl (fun K hK => ?_) AllReadyH.nil
    have hx1 := hx.cell; have hx0 := hx.froz
    go_simp
    refine hK.out _ _ ?_ (fun hHeld => ?_)
    · (try dsimp only); first | exact ⟨BXW.out, Below.refl _ _⟩ | exact ⟨BXW.out.past ((Qw.refl w1).drew.below _) hg1, (Qw.refl w1).drew.below _⟩ | exact HS2.out | exact HS3.out | exact ⟨BxC.past hHeld.1 ((Below.refl _ _).alloc (Nat.le_refl _) _) (Nat.lt_of_lt_of_le hg1 hHeld.2.size), hHeld.2.alloc hHeld.2.size _⟩ | exact ⟨BxC.past (w' := World.setCell _ _ _) hHeld.1 ((Below.refl w1.heap.size _).setCell hlow _) hg1, hHeld.2.setCell hlow _⟩ | exact hHeld
    clear hK K
    try simp only [Act.put, List.setIfInBounds_toArray, List.set_cons_zero, List.set_cons_succ]
    refine wpAnyH_done (by kernel_rfl) ?_ _
    have hx9 := BoxN.put hx (.slice A2 n2 k2)
    have hr9 := num_set (u := .slice A2 n2 k2) HR2.out hx.cell
    have hb9 := hHeld.2
    have hlow9 := hlow
    clear hx hx1 hx0 hlow
    go_wp2_with fail
    go_meet
    exact ⟨_, _, _, _, rfl, hlow9, hx9, by rw [size_setCell]; exact hr9, hb9⟩
  case rest =>
    obtain ⟨w2, hw2⟩ : ∃ x, x = wc := ⟨_, rfl⟩
    subst hw2
    obtain ⟨h, A, n, c, rfl, hh, hx, hl, hb2⟩ := hcut
    have BXW2 := Lib.hid (BxC.past BXW.out hb2 hg1)
    have HBW2 := Lib.hid (HBW.out.trans (hb2.mono HBW.out.size))
    have hgh : w.heap.size + 1 + 1 + 1 < h := by omega
    have HX := Lib.hid hx; have HL := Lib.hid hl
    clear BXW hx hl hb2 HBW
    have b0 := BXW2.out
    go_wp2_with fail
    go_quiet (fail)
    have HC3 : Hid (BxL (w2.drewN nq) w.heap.size h TI sI seI f A n c) := Lib.hid ⟨BXW2.out, HX.out.cell⟩
    have HL3 : Hid (NumR (w2.drewN nq) (w2.drewN nq).heap.size A n c (f.v * bin T s)) := Lib.hid (HL.out.q ⟨nq, rfl⟩)
    have HF3 : Hid (f.ok (w2.drewN nq) (w2.drewN nq).heap.size) := Lib.hid ((HF.out.past HBW2.out HBW2.out.size).q ⟨nq, rfl⟩)
    have HB3 : Hid (Below w.heap.size w (w2.drewN nq)) := Lib.hid (HBW2.out.trans (Qw.below ⟨nq, rfl⟩ _))
    have hlt : h < (w2.drewN nq).heap.size := HX.out.lt
    generalize w2.drewN nq = w3 at HC3 HL3 HF3 HB3 hlt ⊢
    clear BXW2 HBW2 HX HL HF b0
    go_wp2_with fail
    go_loopw [13, 14] (fun lv hv wr => ∃ (lo hi : Nat) (loI hiI : Int), loI ≤ lo ∧ (lo : Int) ≤ loI ∧ hiI ≤ hi ∧ (hi : Int) ≤ hiI ∧ lv = .int .i64 loI ∧ hv = .int .i64 hiI ∧ se ≤ lo ∧ lo ≤ hi ∧ hi ≤ T ∧ (lo = se ∨ possB T s se f.v f.u lo = true) ∧ (hi = T ∨ possB T s se f.v f.u (hi + 1) = false) ∧ Below w3.heap.size w3 wr) (fun lv hv _ => (intOf hv - intOf lv).toNat)
    case atStart =>
      have h1 := HSE.out; have h2 := HTI.out
      exact ⟨se, T, seI, TI, by omega, by omega, by omega, by omega, rfl, rfl, Nat.le_refl _, by omega, Nat.le_refl _, .inl rfl, .inl rfl, Below.refl _ _⟩
    case round =>
      obtain ⟨lo, hi, loI, hiI, k1, k2, k3, k4, rfl, rfl, k5, k6, k7, hlo, hhi, hbw⟩ := hrel
      obtain ⟨wa, rfl⟩ : ∃ z : World, z = wr := ⟨_, rfl⟩
      have HLO := Lib.hid hlo; have HHI := Lib.hid hhi; have HBW := Lib.hid hbw
      clear hlo hhi hbw
      have l0 : 0 ≤ loI := by omega
      have l1 : hiI ≤ 10 := by omega
      by_cases hlh : lo < hi
      · have hlhI : loI < hiI := by omega
        obtain ⟨mid, hmid⟩ : ∃ mid : Nat, mid = (lo + hi + 1) / 2 := ⟨_, rfl⟩
        have m1 : (loI + hiI + 1) / 2 = mid := by omega
        have m2 : lo < mid := by omega
        have m3 : mid ≤ hi := by omega
        have HM1 := Lib.hid m1
        obtain ⟨mI, hmI⟩ : ∃ mI : Int, mI = (loI + hiI + 1) / 2 := ⟨_, rfl⟩
        have n1 : mI ≤ mid := by omega
        have n2 : (mid : Int) ≤ mI := by omega
        have HMI : Hid ((loI + hiI + 1) / 2 = mI) := Lib.hid hmI.symm
        clear m1 hmid hmI
        go_wp2_with fail
        rw [HMI.out]
        refine (possible_num w.heap.size h f A n c _ T s se mid TI sI seI mI HTI.out HSI.out HSE.out (by omega) hT hs hse (by omega) (BxL.past HC3.out HBW.out hgh hlt) hgh (Nat.lt_of_lt_of_le hlt HBW.out.size) (HF3.out.next HBW.out) (HL3.out.next HBW.out) hu (by omega)).mono ?_
        rintro e wb ⟨rfl, hb4⟩
        have HB4 := Lib.hid (bnextN HBW.out hb4)
        clear hb4
        cases hp : possB T s se f.v f.u mid
        · have HP := Lib.hid hp
          clear hp
          have n3 : 0 ≤ mI := by omega
          go_wp2_with fail
          go_roundw
          case rel => exact ⟨lo, mid - 1, _, _, k1, k2, by omega, by omega, rfl, rfl, k5, by omega, by omega, HLO.out, .inr (by rw [show mid - 1 + 1 = mid by omega]; exact HP.out), HB4.out⟩
          case measure => simp [intOf]; omega
        · have HP := Lib.hid hp
          clear hp
          go_wp2_with fail
          go_roundw
          case rel => exact ⟨mid, hi, _, _, n1, n2, k3, k4, rfl, rfl, by omega, m3, k7, .inr HP.out, HHI.out, HB4.out⟩
          case measure => simp [intOf]; omega
      · have hlhI : ¬ loI < hiI := by omega
        obtain rfl : lo = hi := by omega
        go_wp2_with fail
        go_ret2
        exact ⟨lo, loI, by omega, rfl, k5, k7, HLO.out, HHI.out, HB3.out.trans (HBW.out.mono HB3.out.size)⟩
#print axioms bound_num
end Go.Proofs.Ytncjmndiafgaaaa
