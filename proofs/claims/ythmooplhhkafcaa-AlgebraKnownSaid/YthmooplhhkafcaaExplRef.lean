/- The contract of Explain of the reference. Conditions: as each statement says. -/
import Derived.Test.YthmooplhhkafcaaExpl
import Derived.Test.YthmooplhhkafcaaThruRef
import Derived.Deep.DeepCutAuto
import Derived.Test.YthmooplhhkafcaaShareV
namespace Go.Proofs.Ythmooplhhkafcaa
open Go.RowKit
set_option linter.unusedVariables false
set_option maxRecDepth 100000 in
theorem refExpl_4 (A A' : Option Addr) (n c m c' : Nat) (k : Int) (w : World) (h : 256 < m) :
    Calls Try.prog 23 #[.slice A n c, .int .i64 k, .slice A' m c'] w (RetES w 4 []) := by
  have h1 : (256 : Int) < (m : Int) := by omega
  go_enter Try.func23, Try.ntmps23
  go_wp2_with fail
  go_ret2
  exact RetES.nil 4 (Below.refl _ _)
set_option maxRecDepth 100000 in
theorem refExpl_3 (A A' : Option Addr) (n c m c' : Nat) (k : Int) (w : World) (hm : m ≤ 256) (h : k < 1 ∨ 16 < k) :
    Calls Try.prog 23 #[.slice A n c, .int .i64 k, .slice A' m c'] w (RetES w 3 []) := by
  have h0 : (m : Int) ≤ 256 := by omega
  rcases h with h | h
  · go_enter Try.func23, Try.ntmps23
    go_wp2_with fail
    go_ret2
    exact RetES.nil 3 (Below.refl _ _)
  · have h2 : 1 ≤ k := by omega
    go_enter Try.func23, Try.ntmps23
    go_wp2_with fail
    go_ret2
    exact RetES.nil 3 (Below.refl _ _)
set_option maxRecDepth 100000 in
theorem refExpl_5 (A A' : Option Addr) (n c m c' q : Nat) (w : World) (hm : m ≤ 256) (hq : q ≤ 15) (h : q < n) :
    Calls Try.prog 23 #[.slice A n c, .int .i64 ((q : Int) + 1), .slice A' m c'] w (RetES w 5 []) := by
  have h0 : (m : Int) ≤ 256 := by omega
  have h1 : ((q : Int) + 1) ≤ 16 := by omega
  have h2 : ((q : Int) + 1) ≤ (n : Int) := by omega
  go_enter Try.func23, Try.ntmps23
  go_wp2_with fail
  go_ret2
  exact RetES.nil 5 (Below.refl _ _)
set_option maxRecDepth 100000 in
theorem refExpl_chk (A A' : Option Addr) (n c m c' q : Nat) (l : List ShareV) (w : World) (hm : m ≤ 256) (hq : q ≤ 15) (h : n ≤ q) (hl : ShR w w.heap.size A n l) (hE : chkE m [] l ≠ 0) :
    Calls Try.prog 23 #[.slice A n c, .int .i64 ((q : Int) + 1), .slice A' m c'] w (RetES w (chkE m [] l) []) := by
  have h0 : (m : Int) ≤ 256 := by omega
  have h1 : ((q : Int) + 1) ≤ 16 := by omega
  have h2 : (n : Int) < ((q : Int) + 1) := by omega
  have HC := Lib.hid (Faults_any A n c m l w (by omega) (by omega) hl)
  have he : chkE m [] l = (fltE m [] 0 l).1 := chk_flt hm l [] [] 0 (fun _ => Iff.rfl)
  have hp := (flt_codes m l [] 0).1
  rw [he] at hE ⊢
  have hE' : 0 < (fltE m [] 0 l).1 := tail_e hp hE
  generalize (fltE m [] 0 l).2 = I at HC
  generalize (fltE m [] 0 l).1 = E at HC hE' ⊢
  clear hE he hp
  go_enter Try.func23, Try.ntmps23
  go_wp2_with fail
  refine HC.out.mono ?_
  rintro e w1 ⟨rfl, hq1⟩
  go_wp2_with fail
  go_ret2
  exact RetES.nil E (hq1.below _)
theorem apart_new {w w' : World} {base t1 t2 s1 s2 n1 n2 : Nat} {v1 v2 : Value} {x1 x2 : List Value} (h1 : w.ownsRow base t1 s1 v1 n1 x1) (h2 : w'.ownsRow w.heap.size t2 s2 v2 n2 x2) : Apart v1 v2 := fun k e1 e2 => by
  have h8 := (h1.lt k e1).2
  have h9 := (h2.lt k e2).1
  omega
/-- What stands behind the statement with Through. -/
def ThruP (wa : World) (n : Nat) (P : List Nat) (v : Value) (wx : World) : Prop := ∃ A c, v = .slice A (1 + n) c ∧ 1 + n ≤ c ∧ wx.ownsRow wa.heap.size 5 1 (.slice A (1 + n) c) (1 + n) (u8s P) ∧ Below wa.heap.size wa wx
theorem atX_all (l : List ShareV) (b j : Nat) : 0 :: atX l = (ptsX l b j).map (·.1) := by unfold ptsX; rw [List.map_cons, ← atX_take, List.take_of_length_le (by simp [atX])]
theorem atY_all (l : List ShareV) (b j : Nat) : b :: atY l j = (ptsX l b j).map (·.2) := by unfold ptsX; rw [List.map_cons, ← atY_take, List.take_of_length_le (by simp [atY])]
set_option maxRecDepth 100000 in
set_option maxHeartbeats 4000000 in
theorem refExpl_ok (A A' : Option Addr) (n c m c' q : Nat) (l : List ShareV) (sec : List Nat) (w : World) (hm : m ≤ 256) (hq : q ≤ 15) (h : n ≤ q) (hl : ShR w w.heap.size A n l) (hs : Bytes sec) (hrd : Rd w w.heap.size 1 A' m (u8s sec)) (hE : chkE m [] l = 0) :
    Calls Try.prog 23 #[.slice A n c, .int .i64 ((q : Int) + 1), .slice A' m c'] w (RetES w 0 (coinsX l sec q m)) := by
  have h0 : (m : Int) ≤ 256 := by omega
  have h1 : ((q : Int) + 1) ≤ 16 := by omega
  have h2 : (n : Int) < ((q : Int) + 1) := by omega
  have g := (chk_good m l [] hE).1
  have hbs : ShBytes l := fun s hs => ⟨(hl.2.2 s hs).1, (hl.2.2 s hs).2.1⟩
  have hF := Faults_any A n c m l w (by omega) (by omega) hl
  have hf0 : (fltE m [] 0 l).1 = 0 := by rw [← chk_flt hm l [] [] 0 (fun x => Iff.rfl)]; exact hE
  rw [hf0] at hF
  generalize (fltE m [] 0 l).2 = I at hF
  have HF := Lib.hid hF
  have hsl : sec.length = m := by have := hrd.1; simpa [u8s] using this
  have HG := Lib.hid g; have HBS := Lib.hid hbs; have HLL := Lib.hid hl; have HS := Lib.hid hs; have HR := Lib.hid hrd; have HSL := Lib.hid hsl
  clear hE g hbs hl hs hrd hsl hF hf0
  go_enter Try.func23, Try.ntmps23
  go_wp2_with fail
  refine HF.out.mono ?_
  rintro e w1 ⟨rfl, hq1⟩
  have hb1 := hq1.below w.heap.size
  go_wp2_with fail
  go_loopw [10, 11] (fun vo v wr => ∃ j : Nat, j ≤ m ∧ v = .int .i64 j ∧ (∃ J, J = j * q ∧ wr.ownsRow w.heap.size 5 1 vo J (u8s (coinsX l sec q j))) ∧ Below w.heap.size w wr) (fun _ v _ => m - (intOf v).toNat)
  case atStart => exact ⟨0, Nat.zero_le _, rfl, ⟨0, by simp, by simpa [coinsX, u8s] using World.ownsRow_nil _ _ _ _⟩, hb1⟩
  case round =>
    obtain ⟨wp, rfl⟩ : ∃ wp : World, wp = wr := ⟨_, rfl⟩
    obtain ⟨j, hj, rfl, ⟨J, hJ, hown⟩, hbw⟩ := hrel
    have HO := Lib.hid hown; have HJ := Lib.hid hJ
    have hsz := hbw.size
    clear hown hJ
    by_cases hlt : j < m
    · have hlt' : (j : Int) < (m : Int) := by omega
      obtain ⟨sb, so, rfl, hsb, hsc⟩ := HR.out.2 (by omega)
      have hjl : j < sec.length := by rw [HSL.out]; exact hlt
      have cs : wp.cell? ⟨sb, so + j, none⟩ = some (.int .u8 (sec.getD j 0 : Nat)) := (hbw.cell (p := ⟨sb, so + j, none⟩) hsb).trans (hsc j _ (by simp [u8s, List.getD, List.getElem?_eq_getElem hjl]))
      have hbb := getD_byte HS.out j
      have HCX : Hid (coinsX l sec q (j + 1) = coinsX l sec q j ++ coinB l (sec.getD j 0) j q) := Lib.hid rfl
      generalize sec.getD j 0 = bj at cs hbb HCX
      clear hsc hjl
      go_wp2_with fail
      refine (at_any A n c j l _ (by omega) (fun s hs => by rw [HG.out.n s hs]; exact hlt) (by omega) ((HLL.out.below hbw).mono hsz)).mono ?_
      rintro e wa ⟨A1, c1, A2, c2, rfl, hc1, hc2, hrx, hry, hb2⟩
      have s2 := hb2.size
      have bw2 := hbw.trans (hb2.mono hsz)
      have HO2 := Lib.hid (ownsRow_below HO.out hb2 (Nat.le_refl _))
      have RX := Lib.hid hrx; have RY := Lib.hid hry
      have csa := (hb2.cell (p := ⟨sb, so + j, none⟩) (by simp only; omega)).trans cs
      have hsba : sb < wa.heap.size := by omega
      clear hrx hry HO cs
      go_wp2_with fail
      go_cut [14] (fun s14 wx => ThruP wa n (polyX l bj j) s14 wx)
      case first => as_aux_lemma =>
        refine wp_region_held_drew (S := fun w' => Below wa.heap.size wa w') (by kernel_rfl) ?_ (fun hHeld => ?_)
        · (try dsimp only); first | exact Below.refl _ _ | exact (Qw.refl wa).drew.below _ | exact hHeld.alloc hHeld.size _ | exact hHeld.trans (hb1.mono hHeld.size) | exact hHeld.trans (hb2.mono hHeld.size) | exact hHeld.trans (hb3.mono hHeld.size) | exact hHeld.trans (hb4.mono hHeld.size) | exact hHeld.trans (hb5.mono hHeld.size)
        clear hb1 hb2
        obtain ⟨y0, hy0⟩ : ∃ x, x = wa.drew := ⟨_, rfl⟩
        have RX0 : Hid (Rd y0 y0.heap.size 1 A1 n (u8s (atX l))) := Lib.hid (by rw [hy0]; exact RX.out.drew)
        have RY0 : Hid (Rd y0 y0.heap.size 1 A2 n (u8s (atY l j))) := Lib.hid (by rw [hy0]; exact RY.out.drew)
        have hHeld : Below wa.heap.size wa y0 := by rw [hy0]; exact (Qw.refl wa).drew.below _
        have szz := hHeld.size
        rw [← hy0]
        clear hy0
        refine wpAnyH_take (i := 1) (oi := ⟨some 53, _, _, _, _, _⟩) (v := ?_) rfl (by kernel_rfl) (by kernel_rfl) (by kernel_rfl) (fun _ _ _ h => h) (Or.inl ⟨by rfl, ?_⟩) (by assumption) ?_
        rotate_left
        · (intro w hSw; (try dsimp only at hSw); go_simp; try with_reducible rfl)
        try simp only [Act.put, List.setIfInBounds_toArray, List.set_cons_zero, List.set_cons_succ]
        refine wpAnyH_take (i := 3) (oi := ⟨some 55, _, _, _, _, _⟩) (v := ?_) rfl (by kernel_rfl) (by kernel_rfl) (by kernel_rfl) (fun _ _ _ h => h) (Or.inl ⟨by rfl, ?_⟩) (by assumption) ?_
        rotate_left
        · (intro w hSw; (try dsimp only at hSw); go_simp; try with_reducible rfl)
        try simp only [Act.put, List.setIfInBounds_toArray, List.set_cons_zero, List.set_cons_succ]
        refine wpAnyH_take (i := 4) (oi := ⟨some 56, _, _, _, _, _⟩) (v := ?_) rfl (by kernel_rfl) (by kernel_rfl) (by kernel_rfl) (fun _ _ _ h => h) (Or.inl ⟨by rfl, ?_⟩) (by assumption) ?_
        rotate_left
        · (intro w hSw; (try dsimp only at hSw); go_simp; try with_reducible rfl)
        try simp only [Act.put, List.setIfInBounds_toArray, List.set_cons_zero, List.set_cons_succ]
        refine wpAnyH_take (i := 5) (oi := ⟨some 57, _, _, _, _, _⟩) (v := .pointer (some ⟨sb, so + j, none⟩)) rfl (by kernel_rfl) (by kernel_rfl) (by kernel_rfl) (fun _ _ _ h => h) (Or.inl ⟨by rfl, ?_⟩) (by assumption) ?_
        · (intro w hSw; (try dsimp only at hSw); go_simp)
        try simp only [Act.put, List.setIfInBounds_toArray, List.set_cons_zero, List.set_cons_succ]
        refine wpAnyH_take (i := 6) (oi := ⟨some 58, _, _, _, _, _⟩) (v := .int .u8 (bj : Nat)) rfl (by kernel_rfl) (by kernel_rfl) (by kernel_rfl) (fun _ _ _ h => h) (Or.inl ⟨by rfl, ?_⟩) (by assumption) ?_
        · (intro w hSw; (try dsimp only at hSw); have hq := (hSw.cell (p := ⟨sb, so + j, none⟩) hsba).trans csa; go_simp)
        try simp only [Act.put, List.setIfInBounds_toArray, List.set_cons_zero, List.set_cons_succ]
        refine wpAnyH_take (i := 8) (oi := ⟨some 60, _, _, _, _, _⟩) (v := ?_) rfl (by kernel_rfl) (by kernel_rfl) (by kernel_rfl) (fun _ _ _ h => h) (Or.inl ⟨by rfl, ?_⟩) (by assumption) ?_
        rotate_left
        · (intro w hSw; (try dsimp only at hSw); go_simp; try with_reducible rfl)
        try simp only [Act.put, List.setIfInBounds_toArray, List.set_cons_zero, List.set_cons_succ]
        refine wpAnyH_ready (rs := [0, 7]) (by kernel_rfl) (by simp) ?_
        refine AllReadyH.cons (o := ⟨some 52, _, _, _, _, _⟩) rfl (fun K hK => ?_) ?_
        · skip
          go_simp
          refine hK.out _ _ ?_ (fun hHeld => ?_)
          · (try dsimp only); first | exact Below.refl _ _ | exact (Qw.refl wa).drew.below _ | exact hHeld.alloc hHeld.size _ | exact hHeld.trans (hb1.mono hHeld.size) | exact hHeld.trans (hb2.mono hHeld.size) | exact hHeld.trans (hb3.mono hHeld.size) | exact hHeld.trans (hb4.mono hHeld.size) | exact hHeld.trans (hb5.mono hHeld.size)
          clear hK K
          try simp only [Act.put, List.setIfInBounds_toArray, List.set_cons_zero, List.set_cons_succ]
          obtain ⟨y1, hy1⟩ : ∃ x, x = y0.alloc (.cells #[.int .u8 0] 5) := ⟨_, rfl⟩
          have hb1 : Below y0.heap.size y0 y1 := by rw [hy1]; exact (Below.refl _ _).alloc (Nat.le_refl _) _
          have hn1 := Rd.new y0 #[.int .u8 0] 5 1 1 rfl
          rw [← hy1] at hn1 hHeld ⊢
          have F0_1 : Hid (Rd y1 y1.heap.size 1 (some ⟨y0.heap.size, 0, none⟩) 1 (u8s [0])) := Lib.hid (by have e : y1.heap.size = y0.heap.size + 1 := (by rw [hy1]; simp); rw [e]; exact hn1)
          clear hy1 hn1
          have sz1 := hb1.size
          have RX1 := Lib.hid ((RX0.out.below hb1).mono sz1)
          have RY1 := Lib.hid ((RY0.out.below hb1).mono sz1)
          refine wpAnyH_ready (rs := [2, 7]) (by kernel_rfl) (by simp) ?_
          refine AllReadyH.cons (o := ⟨some 54, _, _, _, _, _⟩) rfl (fun K hK => ?_) ?_
          · skip
            refine step_fullB elB_u8 (.tmp 52) (.tmp 53) (by rfl) (by rfl) (by rfl) (F0_1.out) (by decide) (by rfl) (RX1.out) (by omega) (by decide) ?_
            intro B2 e2 y2 hc2_ hr2 hb2
            refine hK.out _ _ ?_ (fun hHeld => ?_)
            · (try dsimp only); first | exact Below.refl _ _ | exact (Qw.refl wa).drew.below _ | exact hHeld.alloc hHeld.size _ | exact hHeld.trans (hb1.mono hHeld.size) | exact hHeld.trans (hb2.mono hHeld.size) | exact hHeld.trans (hb3.mono hHeld.size) | exact hHeld.trans (hb4.mono hHeld.size) | exact hHeld.trans (hb5.mono hHeld.size)
            clear hK K
            try simp only [Act.put, List.setIfInBounds_toArray, List.set_cons_zero, List.set_cons_succ]
            have F2_2 := Lib.hid hr2; clear hr2
            have sz2 := hb2.size
            have RX2 := Lib.hid ((RX1.out.below hb2).mono sz2)
            have RY2 := Lib.hid ((RY1.out.below hb2).mono sz2)
            have F0_2 := Lib.hid ((F0_1.out.below hb2).mono sz2)
            refine wpAnyH_ready (rs := [7]) (by kernel_rfl) (by simp) ?_
            refine AllReadyH.cons (o := ⟨some 59, _, _, _, _, _⟩) rfl (fun K hK => ?_) AllReadyH.nil
            go_simp
            refine hK.out _ _ ?_ (fun hHeld => ?_)
            · (try dsimp only); first | exact Below.refl _ _ | exact (Qw.refl wa).drew.below _ | exact hHeld.alloc hHeld.size _ | exact hHeld.trans (hb1.mono hHeld.size) | exact hHeld.trans (hb2.mono hHeld.size) | exact hHeld.trans (hb3.mono hHeld.size) | exact hHeld.trans (hb4.mono hHeld.size) | exact hHeld.trans (hb5.mono hHeld.size)
            clear hK K
            try simp only [Act.put, List.setIfInBounds_toArray, List.set_cons_zero, List.set_cons_succ]
            obtain ⟨y3, hy3⟩ : ∃ x, x = y2.alloc (.cells #[.int .u8 (bj : Nat)] 5) := ⟨_, rfl⟩
            have hb3 : Below y2.heap.size y2 y3 := by rw [hy3]; exact (Below.refl _ _).alloc (Nat.le_refl _) _
            have hn3 := Rd.new y2 #[.int .u8 (bj : Nat)] 5 1 1 rfl
            rw [← hy3] at hn3 hHeld ⊢
            have F7_3 : Hid (Rd y3 y3.heap.size 1 (some ⟨y2.heap.size, 0, none⟩) 1 (u8s [bj])) := Lib.hid (by have e : y3.heap.size = y2.heap.size + 1 := (by rw [hy3]; simp); rw [e]; exact hn3)
            clear hy3 hn3
            have sz3 := hb3.size
            have RX3 := Lib.hid ((RX2.out.below hb3).mono sz3)
            have RY3 := Lib.hid ((RY2.out.below hb3).mono sz3)
            have F0_3 := Lib.hid ((F0_2.out.below hb3).mono sz3)
            have F2_3 := Lib.hid ((F2_2.out.below hb3).mono sz3)
            refine wpAnyH_ready (rs := [9]) (by kernel_rfl) (by simp) ?_
            refine AllReadyH.cons (o := ⟨some 61, _, _, _, _, _⟩) rfl (fun K hK => ?_) AllReadyH.nil
            refine step_fullB elB_u8 (.tmp 59) (.tmp 60) (by rfl) (by rfl) (by rfl) (F7_3.out) (by decide) (by rfl) (RY3.out) (by omega) (by decide) ?_
            intro B9 e9 y4 hc9_ hr4 hb4
            refine hK.out _ _ ?_ (fun hHeld => ?_)
            · (try dsimp only); first | exact Below.refl _ _ | exact (Qw.refl wa).drew.below _ | exact hHeld.alloc hHeld.size _ | exact hHeld.trans (hb1.mono hHeld.size) | exact hHeld.trans (hb2.mono hHeld.size) | exact hHeld.trans (hb3.mono hHeld.size) | exact hHeld.trans (hb4.mono hHeld.size) | exact hHeld.trans (hb5.mono hHeld.size)
            clear hK K
            try simp only [Act.put, List.setIfInBounds_toArray, List.set_cons_zero, List.set_cons_succ]
            have F9_4 := Lib.hid hr4; clear hr4
            have sz4 := hb4.size
            have RX4 := Lib.hid ((RX3.out.below hb4).mono sz4)
            have RY4 := Lib.hid ((RY3.out.below hb4).mono sz4)
            have F0_4 := Lib.hid ((F0_3.out.below hb4).mono sz4)
            have F2_4 := Lib.hid ((F2_3.out.below hb4).mono sz4)
            have F7_4 := Lib.hid ((F7_3.out.below hb4).mono sz4)
            refine wpAnyH_ready (rs := [10]) (by kernel_rfl) (by simp) ?_
            refine AllReadyH.cons (o := ⟨some 62, _, _, _, _, _⟩) rfl (fun K hK => ?_) AllReadyH.nil
            go_simp
            refine (Through_any _ _ (1 + n) _ _ (ptsX l bj j) y4 (by omega) (ptsX_b HBS.out hbb j) (by rw [ptsX_len, HLL.out.1, Nat.add_comm]) (by rw [← atX_all]; exact F2_4.out) (by rw [← atY_all]; exact F9_4.out)).mono ?_
            rw [through_eq (ptsX_b HBS.out hbb j) (ptsX_d HG.out bj j)]
            rintro e w5 ⟨A5, c5, rfl, hc5, hown5, hb5⟩
            try dsimp only [id]
            go_wp2_with fail
            refine hK.out _ _ ?_ (fun hHeld => ?_)
            · (try dsimp only); first | exact Below.refl _ _ | exact (Qw.refl wa).drew.below _ | exact hHeld.alloc hHeld.size _ | exact hHeld.trans (hb1.mono hHeld.size) | exact hHeld.trans (hb2.mono hHeld.size) | exact hHeld.trans (hb3.mono hHeld.size) | exact hHeld.trans (hb4.mono hHeld.size) | exact hHeld.trans (hb5.mono hHeld.size)
            clear hK K
            try simp only [Act.put, List.setIfInBounds_toArray, List.set_cons_zero, List.set_cons_succ]
            refine wpAnyH_take (i := 11) (oi := ⟨some 14, _, _, _, _, _⟩) (v := ?_) rfl (by kernel_rfl) (by kernel_rfl) (by kernel_rfl) (fun _ _ _ h => h) (Or.inl ⟨by rfl, ?_⟩) (by assumption) ?_
            rotate_left
            · (intro w hSw; (try dsimp only at hSw); go_simp; try with_reducible rfl)
            try simp only [Act.put, List.setIfInBounds_toArray, List.set_cons_zero, List.set_cons_succ]
            refine wpAnyH_done (by kernel_rfl) ?_ _
            go_wp2_with fail; go_meet
            exact ⟨A5, c5, rfl, hc5, ownsRow_mono hown5 (by omega), hHeld⟩
          refine AllReadyH.cons (o := ⟨some 59, _, _, _, _, _⟩) rfl (fun K hK => ?_) AllReadyH.nil
          go_simp
          refine hK.out _ _ ?_ (fun hHeld => ?_)
          · (try dsimp only); first | exact Below.refl _ _ | exact (Qw.refl wa).drew.below _ | exact hHeld.alloc hHeld.size _ | exact hHeld.trans (hb1.mono hHeld.size) | exact hHeld.trans (hb2.mono hHeld.size) | exact hHeld.trans (hb3.mono hHeld.size) | exact hHeld.trans (hb4.mono hHeld.size) | exact hHeld.trans (hb5.mono hHeld.size)
          clear hK K
          try simp only [Act.put, List.setIfInBounds_toArray, List.set_cons_zero, List.set_cons_succ]
          obtain ⟨y2, hy2⟩ : ∃ x, x = y1.alloc (.cells #[.int .u8 (bj : Nat)] 5) := ⟨_, rfl⟩
          have hb2 : Below y1.heap.size y1 y2 := by rw [hy2]; exact (Below.refl _ _).alloc (Nat.le_refl _) _
          have hn2 := Rd.new y1 #[.int .u8 (bj : Nat)] 5 1 1 rfl
          rw [← hy2] at hn2 hHeld ⊢
          have F7_2 : Hid (Rd y2 y2.heap.size 1 (some ⟨y1.heap.size, 0, none⟩) 1 (u8s [bj])) := Lib.hid (by have e : y2.heap.size = y1.heap.size + 1 := (by rw [hy2]; simp); rw [e]; exact hn2)
          clear hy2 hn2
          have sz2 := hb2.size
          have RX2 := Lib.hid ((RX1.out.below hb2).mono sz2)
          have RY2 := Lib.hid ((RY1.out.below hb2).mono sz2)
          have F0_2 := Lib.hid ((F0_1.out.below hb2).mono sz2)
          refine wpAnyH_ready (rs := [2]) (by kernel_rfl) (by simp) ?_
          refine AllReadyH.cons (o := ⟨some 54, _, _, _, _, _⟩) rfl (fun K hK => ?_) AllReadyH.nil
          refine step_fullB elB_u8 (.tmp 52) (.tmp 53) (by rfl) (by rfl) (by rfl) (F0_2.out) (by decide) (by rfl) (RX2.out) (by omega) (by decide) ?_
          intro B2 e2 y3 hc2_ hr3 hb3
          refine hK.out _ _ ?_ (fun hHeld => ?_)
          · (try dsimp only); first | exact Below.refl _ _ | exact (Qw.refl wa).drew.below _ | exact hHeld.alloc hHeld.size _ | exact hHeld.trans (hb1.mono hHeld.size) | exact hHeld.trans (hb2.mono hHeld.size) | exact hHeld.trans (hb3.mono hHeld.size) | exact hHeld.trans (hb4.mono hHeld.size) | exact hHeld.trans (hb5.mono hHeld.size)
          clear hK K
          try simp only [Act.put, List.setIfInBounds_toArray, List.set_cons_zero, List.set_cons_succ]
          have F2_3 := Lib.hid hr3; clear hr3
          have sz3 := hb3.size
          have RX3 := Lib.hid ((RX2.out.below hb3).mono sz3)
          have RY3 := Lib.hid ((RY2.out.below hb3).mono sz3)
          have F0_3 := Lib.hid ((F0_2.out.below hb3).mono sz3)
          have F7_3 := Lib.hid ((F7_2.out.below hb3).mono sz3)
          refine wpAnyH_ready (rs := [9]) (by kernel_rfl) (by simp) ?_
          refine AllReadyH.cons (o := ⟨some 61, _, _, _, _, _⟩) rfl (fun K hK => ?_) AllReadyH.nil
          refine step_fullB elB_u8 (.tmp 59) (.tmp 60) (by rfl) (by rfl) (by rfl) (F7_3.out) (by decide) (by rfl) (RY3.out) (by omega) (by decide) ?_
          intro B9 e9 y4 hc9_ hr4 hb4
          refine hK.out _ _ ?_ (fun hHeld => ?_)
          · (try dsimp only); first | exact Below.refl _ _ | exact (Qw.refl wa).drew.below _ | exact hHeld.alloc hHeld.size _ | exact hHeld.trans (hb1.mono hHeld.size) | exact hHeld.trans (hb2.mono hHeld.size) | exact hHeld.trans (hb3.mono hHeld.size) | exact hHeld.trans (hb4.mono hHeld.size) | exact hHeld.trans (hb5.mono hHeld.size)
          clear hK K
          try simp only [Act.put, List.setIfInBounds_toArray, List.set_cons_zero, List.set_cons_succ]
          have F9_4 := Lib.hid hr4; clear hr4
          have sz4 := hb4.size
          have RX4 := Lib.hid ((RX3.out.below hb4).mono sz4)
          have RY4 := Lib.hid ((RY3.out.below hb4).mono sz4)
          have F0_4 := Lib.hid ((F0_3.out.below hb4).mono sz4)
          have F7_4 := Lib.hid ((F7_3.out.below hb4).mono sz4)
          have F2_4 := Lib.hid ((F2_3.out.below hb4).mono sz4)
          refine wpAnyH_ready (rs := [10]) (by kernel_rfl) (by simp) ?_
          refine AllReadyH.cons (o := ⟨some 62, _, _, _, _, _⟩) rfl (fun K hK => ?_) AllReadyH.nil
          go_simp
          refine (Through_any _ _ (1 + n) _ _ (ptsX l bj j) y4 (by omega) (ptsX_b HBS.out hbb j) (by rw [ptsX_len, HLL.out.1, Nat.add_comm]) (by rw [← atX_all]; exact F2_4.out) (by rw [← atY_all]; exact F9_4.out)).mono ?_
          rw [through_eq (ptsX_b HBS.out hbb j) (ptsX_d HG.out bj j)]
          rintro e w5 ⟨A5, c5, rfl, hc5, hown5, hb5⟩
          try dsimp only [id]
          go_wp2_with fail
          refine hK.out _ _ ?_ (fun hHeld => ?_)
          · (try dsimp only); first | exact Below.refl _ _ | exact (Qw.refl wa).drew.below _ | exact hHeld.alloc hHeld.size _ | exact hHeld.trans (hb1.mono hHeld.size) | exact hHeld.trans (hb2.mono hHeld.size) | exact hHeld.trans (hb3.mono hHeld.size) | exact hHeld.trans (hb4.mono hHeld.size) | exact hHeld.trans (hb5.mono hHeld.size)
          clear hK K
          try simp only [Act.put, List.setIfInBounds_toArray, List.set_cons_zero, List.set_cons_succ]
          refine wpAnyH_take (i := 11) (oi := ⟨some 14, _, _, _, _, _⟩) (v := ?_) rfl (by kernel_rfl) (by kernel_rfl) (by kernel_rfl) (fun _ _ _ h => h) (Or.inl ⟨by rfl, ?_⟩) (by assumption) ?_
          rotate_left
          · (intro w hSw; (try dsimp only at hSw); go_simp; try with_reducible rfl)
          try simp only [Act.put, List.setIfInBounds_toArray, List.set_cons_zero, List.set_cons_succ]
          refine wpAnyH_done (by kernel_rfl) ?_ _
          go_wp2_with fail; go_meet
          exact ⟨A5, c5, rfl, hc5, ownsRow_mono hown5 (by omega), hHeld⟩
        refine AllReadyH.cons (o := ⟨some 59, _, _, _, _, _⟩) rfl (fun K hK => ?_) AllReadyH.nil
        go_simp
        refine hK.out _ _ ?_ (fun hHeld => ?_)
        · (try dsimp only); first | exact Below.refl _ _ | exact (Qw.refl wa).drew.below _ | exact hHeld.alloc hHeld.size _ | exact hHeld.trans (hb1.mono hHeld.size) | exact hHeld.trans (hb2.mono hHeld.size) | exact hHeld.trans (hb3.mono hHeld.size) | exact hHeld.trans (hb4.mono hHeld.size) | exact hHeld.trans (hb5.mono hHeld.size)
        clear hK K
        try simp only [Act.put, List.setIfInBounds_toArray, List.set_cons_zero, List.set_cons_succ]
        obtain ⟨y1, hy1⟩ : ∃ x, x = y0.alloc (.cells #[.int .u8 (bj : Nat)] 5) := ⟨_, rfl⟩
        have hb1 : Below y0.heap.size y0 y1 := by rw [hy1]; exact (Below.refl _ _).alloc (Nat.le_refl _) _
        have hn1 := Rd.new y0 #[.int .u8 (bj : Nat)] 5 1 1 rfl
        rw [← hy1] at hn1 hHeld ⊢
        have F7_1 : Hid (Rd y1 y1.heap.size 1 (some ⟨y0.heap.size, 0, none⟩) 1 (u8s [bj])) := Lib.hid (by have e : y1.heap.size = y0.heap.size + 1 := (by rw [hy1]; simp); rw [e]; exact hn1)
        clear hy1 hn1
        have sz1 := hb1.size
        have RX1 := Lib.hid ((RX0.out.below hb1).mono sz1)
        have RY1 := Lib.hid ((RY0.out.below hb1).mono sz1)
        refine wpAnyH_ready (rs := [0]) (by kernel_rfl) (by simp) ?_
        refine AllReadyH.cons (o := ⟨some 52, _, _, _, _, _⟩) rfl (fun K hK => ?_) AllReadyH.nil
        go_simp
        refine hK.out _ _ ?_ (fun hHeld => ?_)
        · (try dsimp only); first | exact Below.refl _ _ | exact (Qw.refl wa).drew.below _ | exact hHeld.alloc hHeld.size _ | exact hHeld.trans (hb1.mono hHeld.size) | exact hHeld.trans (hb2.mono hHeld.size) | exact hHeld.trans (hb3.mono hHeld.size) | exact hHeld.trans (hb4.mono hHeld.size) | exact hHeld.trans (hb5.mono hHeld.size)
        clear hK K
        try simp only [Act.put, List.setIfInBounds_toArray, List.set_cons_zero, List.set_cons_succ]
        obtain ⟨y2, hy2⟩ : ∃ x, x = y1.alloc (.cells #[.int .u8 0] 5) := ⟨_, rfl⟩
        have hb2 : Below y1.heap.size y1 y2 := by rw [hy2]; exact (Below.refl _ _).alloc (Nat.le_refl _) _
        have hn2 := Rd.new y1 #[.int .u8 0] 5 1 1 rfl
        rw [← hy2] at hn2 hHeld ⊢
        have F0_2 : Hid (Rd y2 y2.heap.size 1 (some ⟨y1.heap.size, 0, none⟩) 1 (u8s [0])) := Lib.hid (by have e : y2.heap.size = y1.heap.size + 1 := (by rw [hy2]; simp); rw [e]; exact hn2)
        clear hy2 hn2
        have sz2 := hb2.size
        have RX2 := Lib.hid ((RX1.out.below hb2).mono sz2)
        have RY2 := Lib.hid ((RY1.out.below hb2).mono sz2)
        have F7_2 := Lib.hid ((F7_1.out.below hb2).mono sz2)
        refine wpAnyH_ready (rs := [2]) (by kernel_rfl) (by simp) ?_
        refine AllReadyH.cons (o := ⟨some 54, _, _, _, _, _⟩) rfl (fun K hK => ?_) AllReadyH.nil
        refine step_fullB elB_u8 (.tmp 52) (.tmp 53) (by rfl) (by rfl) (by rfl) (F0_2.out) (by decide) (by rfl) (RX2.out) (by omega) (by decide) ?_
        intro B2 e2 y3 hc2_ hr3 hb3
        refine hK.out _ _ ?_ (fun hHeld => ?_)
        · (try dsimp only); first | exact Below.refl _ _ | exact (Qw.refl wa).drew.below _ | exact hHeld.alloc hHeld.size _ | exact hHeld.trans (hb1.mono hHeld.size) | exact hHeld.trans (hb2.mono hHeld.size) | exact hHeld.trans (hb3.mono hHeld.size) | exact hHeld.trans (hb4.mono hHeld.size) | exact hHeld.trans (hb5.mono hHeld.size)
        clear hK K
        try simp only [Act.put, List.setIfInBounds_toArray, List.set_cons_zero, List.set_cons_succ]
        have F2_3 := Lib.hid hr3; clear hr3
        have sz3 := hb3.size
        have RX3 := Lib.hid ((RX2.out.below hb3).mono sz3)
        have RY3 := Lib.hid ((RY2.out.below hb3).mono sz3)
        have F7_3 := Lib.hid ((F7_2.out.below hb3).mono sz3)
        have F0_3 := Lib.hid ((F0_2.out.below hb3).mono sz3)
        refine wpAnyH_ready (rs := [9]) (by kernel_rfl) (by simp) ?_
        refine AllReadyH.cons (o := ⟨some 61, _, _, _, _, _⟩) rfl (fun K hK => ?_) AllReadyH.nil
        refine step_fullB elB_u8 (.tmp 59) (.tmp 60) (by rfl) (by rfl) (by rfl) (F7_3.out) (by decide) (by rfl) (RY3.out) (by omega) (by decide) ?_
        intro B9 e9 y4 hc9_ hr4 hb4
        refine hK.out _ _ ?_ (fun hHeld => ?_)
        · (try dsimp only); first | exact Below.refl _ _ | exact (Qw.refl wa).drew.below _ | exact hHeld.alloc hHeld.size _ | exact hHeld.trans (hb1.mono hHeld.size) | exact hHeld.trans (hb2.mono hHeld.size) | exact hHeld.trans (hb3.mono hHeld.size) | exact hHeld.trans (hb4.mono hHeld.size) | exact hHeld.trans (hb5.mono hHeld.size)
        clear hK K
        try simp only [Act.put, List.setIfInBounds_toArray, List.set_cons_zero, List.set_cons_succ]
        have F9_4 := Lib.hid hr4; clear hr4
        have sz4 := hb4.size
        have RX4 := Lib.hid ((RX3.out.below hb4).mono sz4)
        have RY4 := Lib.hid ((RY3.out.below hb4).mono sz4)
        have F7_4 := Lib.hid ((F7_3.out.below hb4).mono sz4)
        have F0_4 := Lib.hid ((F0_3.out.below hb4).mono sz4)
        have F2_4 := Lib.hid ((F2_3.out.below hb4).mono sz4)
        refine wpAnyH_ready (rs := [10]) (by kernel_rfl) (by simp) ?_
        refine AllReadyH.cons (o := ⟨some 62, _, _, _, _, _⟩) rfl (fun K hK => ?_) AllReadyH.nil
        go_simp
        refine (Through_any _ _ (1 + n) _ _ (ptsX l bj j) y4 (by omega) (ptsX_b HBS.out hbb j) (by rw [ptsX_len, HLL.out.1, Nat.add_comm]) (by rw [← atX_all]; exact F2_4.out) (by rw [← atY_all]; exact F9_4.out)).mono ?_
        rw [through_eq (ptsX_b HBS.out hbb j) (ptsX_d HG.out bj j)]
        rintro e w5 ⟨A5, c5, rfl, hc5, hown5, hb5⟩
        try dsimp only [id]
        go_wp2_with fail
        refine hK.out _ _ ?_ (fun hHeld => ?_)
        · (try dsimp only); first | exact Below.refl _ _ | exact (Qw.refl wa).drew.below _ | exact hHeld.alloc hHeld.size _ | exact hHeld.trans (hb1.mono hHeld.size) | exact hHeld.trans (hb2.mono hHeld.size) | exact hHeld.trans (hb3.mono hHeld.size) | exact hHeld.trans (hb4.mono hHeld.size) | exact hHeld.trans (hb5.mono hHeld.size)
        clear hK K
        try simp only [Act.put, List.setIfInBounds_toArray, List.set_cons_zero, List.set_cons_succ]
        refine wpAnyH_take (i := 11) (oi := ⟨some 14, _, _, _, _, _⟩) (v := ?_) rfl (by kernel_rfl) (by kernel_rfl) (by kernel_rfl) (fun _ _ _ h => h) (Or.inl ⟨by rfl, ?_⟩) (by assumption) ?_
        rotate_left
        · (intro w hSw; (try dsimp only at hSw); go_simp; try with_reducible rfl)
        try simp only [Act.put, List.setIfInBounds_toArray, List.set_cons_zero, List.set_cons_succ]
        refine wpAnyH_done (by kernel_rfl) ?_ _
        go_wp2_with fail; go_meet
        exact ⟨A5, c5, rfl, hc5, ownsRow_mono hown5 (by omega), hHeld⟩
      case rest => as_aux_lemma =>
        obtain ⟨w3, hw3⟩ : ∃ x, x = wc := ⟨_, rfl⟩
        subst hw3
        obtain ⟨A5, c5, rfl, hc5, hr5, hb3⟩ := hcut
        have s3 := hb3.size
        have bw3 := bw2.trans (hb3.mono (by omega))
        have HO3 := Lib.hid (ownsRow_below HO2.out hb3 (Nat.le_refl _))
        have P5 := Lib.hid hr5
        have hap := apart_new HO2.out P5.out
        have hPL := Lib.hid (polyX_len HG.out HBS.out hbb j)
        have hPB := Lib.hid (polyX_bytes HG.out HBS.out hbb j)
        have HCL : Hid ((coinB l bj j q).length = q) := Lib.hid (coinB_len HG.out HBS.out hbb j (by rw [HLL.out.1]; exact h))
        have HCBB := Lib.hid (coinB_bytes (q := q) HG.out HBS.out hbb j)
        have HLN : Hid (l.length = n) := Lib.hid HLL.out.1
        have hJ4 : J ≤ 4096 := by have := HJ.out; have h9 : j * q ≤ 256 * 15 := Nat.mul_le_mul (by omega) hq; omega
        clear hr5 HO2 RX RY csa hb2 hb3
        go_wp2_with fail
        go_loopw [10, 15] (fun vo v wr => ∃ t : Nat, t ≤ q ∧ v = .int .i64 ((t : Int) + 1) ∧ wr.ownsRow w.heap.size 5 1 vo (J + t) (u8s (coinsX l sec q j ++ (coinB l bj j q).take t)) ∧ Below w.heap.size w wr ∧ wr.ownsRow wa.heap.size 5 1 (.slice A5 (1 + n) c5) (1 + n) (u8s (polyX l bj j)) ∧ Apart vo (.slice A5 (1 + n) c5)) (fun _ v _ => q + 1 - (intOf v).toNat)
        case atStart => exact ⟨0, Nat.zero_le _, rfl, by simpa using HO3.out, bw3, P5.out, hap⟩
        case round =>
          obtain ⟨t, ht, rfl, hown, hbx, hpx, hapx⟩ := hrel
          have HOX := Lib.hid hown; have HPX := Lib.hid hpx
          have sx := hbx.size
          clear hown hpx
          by_cases hlq : t < q
          · have hlq' : (t : Int) + 1 < (q : Int) + 1 := by omega
            have htl : t < (coinB l bj j q).length := by rw [HCL.out]; exact hlq
            have HTK : Hid (u8s (coinsX l sec q j ++ (coinB l bj j q).take (t + 1)) = u8s (coinsX l sec q j ++ (coinB l bj j q).take t) ++ [.int .u8 ((coinB l bj j q)[t] : Nat)]) := Lib.hid (by rw [take_snoc _ _ htl, ← List.append_assoc, u8s, List.map_append]; rfl)
            by_cases htn : t < n
            · have htn' : (t : Int) + 1 < 1 + (n : Int) := by omega
              have hpl : t + 1 < (polyX l bj j).length := by rw [hPL.out, HLN.out]; omega
              have HV : Hid ((coinB l bj j q)[t] = (polyX l bj j)[t + 1]) := Lib.hid (by
                have e1 : (coinB l bj j q)[t]? = some (polyX l bj j)[t + 1] := by
                  unfold coinB
                  rw [List.getElem?_append_left (by rw [List.length_drop]; omega), List.getElem?_drop, Nat.add_comm 1 t, List.getElem?_eq_getElem hpl]
                rw [List.getElem?_eq_getElem htl] at e1
                exact Option.some.inj e1)
              obtain ⟨pb, po, rfl, hpb, hpc⟩ := (Rd.own HPX.out).2 (by omega)
              have cp : wr.cell? ⟨pb, po + (t + 1), none⟩ = some (.int .u8 ((polyX l bj j)[t + 1] : Nat)) := hpc (t + 1) _ (by rw [u8s, List.getElem?_map, List.getElem?_eq_getElem hpl]; rfl)
              rw [HV.out] at HTK
              generalize (polyX l bj j)[t + 1] = y at cp HTK
              clear hpc hpl htl HV
              go_wp2_with (at_builtin; refine wpList_pushL elB_u8 (.tmp 76) (.tmp 78) rfl rfl w.heap.size (J + t) _ rfl HOX.out rfl rfl (one_cell1 rfl) (by omega) (by decide) (by omega) ?_; intro v8 w8 hown8 hb8 hg8 hL8)
              go_roundw
              case rel => exact ⟨t + 1, hlq, by go_num, by rw [HTK.out]; exact hown8, hbx.trans hb8, ownsRow_grown HPX.out hg8 (fun kk e1 e2 => hapx kk e2.symm e1), hapx.lies hL8 HPX.out (by omega)⟩
              case measure => simp [intOf]; omega
            · have htn' : ¬ (t : Int) + 1 < 1 + (n : Int) := by omega
              have HV : Hid ((coinB l bj j q)[t] = 0) := Lib.hid (by
                have e1 : (coinB l bj j q)[t]? = some 0 := by
                  unfold coinB
                  rw [List.getElem?_append_right (by rw [List.length_drop, hPL.out, HLN.out]; omega), List.getElem?_replicate, if_pos (by rw [List.length_drop, hPL.out, HLN.out]; omega)]
                rw [List.getElem?_eq_getElem htl] at e1
                exact Option.some.inj e1)
              rw [HV.out] at HTK
              clear htl HV
              go_wp2_with (at_builtin; refine wpList_pushL elB_u8 (.tmp 76) (.tmp 78) rfl rfl w.heap.size (J + t) _ rfl HOX.out rfl rfl (one_cell1 rfl) (by omega) (by decide) (by omega) ?_; intro v8 w8 hown8 hb8 hg8 hL8)
              go_roundw
              case rel => exact ⟨t + 1, hlq, by go_num, by rw [HTK.out]; exact hown8, hbx.trans hb8, ownsRow_grown HPX.out hg8 (fun kk e1 e2 => hapx kk e2.symm e1), hapx.lies hL8 HPX.out (by omega)⟩
              case measure => simp [intOf]; omega
          · have hlq' : ¬ (t : Int) + 1 < (q : Int) + 1 := by omega
            obtain rfl : t = q := by omega
            have ho := HOX.out
            rw [List.take_of_length_le (by rw [HCL.out]; exact Nat.le_refl _), ← HCX.out] at ho
            have HO9 := Lib.hid ho
            clear ho
            go_wp2_with fail
            exact ⟨⟨j + 1, hlt, by go_num, ⟨J + t, by rw [HJ.out, Nat.add_mul, Nat.one_mul], HO9.out⟩, hbx⟩, by simp [intOf]; omega⟩
    · have hlt' : ¬ (j : Int) < (m : Int) := by omega
      obtain rfl : j = m := by omega
      go_wp2_with fail
      go_ret2
      exact RetES.own HO.out hbw
end Go.Proofs.Ythmooplhhkafcaa
/- Explain of the program and of the reference in one form; the shares that the coins give. Conditions: as each statement says. -/
namespace Go.Proofs.Ythmooplhhkafcaa
open Go.RowKit
set_option linter.unusedVariables false
theorem ptsX_canon (l : List ShareV) (b j : Nat) : ptsX (l.map canon) b j = ptsX l b j := by unfold ptsX; rw [List.length_map, ptsJ_canon]
theorem coinB_canon (l : List ShareV) (b j q : Nat) : coinB (l.map canon) b j q = coinB l b j q := by unfold coinB polyX; rw [ptsX_canon, List.length_map]
theorem coinsX_canon (l : List ShareV) (sec : List Nat) (q : Nat) : ∀ m, coinsX (l.map canon) sec q m = coinsX l sec q m
  | 0 => rfl
  | m + 1 => by rw [coinsX, coinsX, coinsX_canon l sec q m, coinB_canon]
theorem explE_canon (l : List ShareV) (k : Int) (n : Nat) (h : ShLen l) : explE (l.map canon) k n = explE l k n := by unfold explE; rw [chkE_canon n l [] h, List.length_map]
theorem explS_canon (l : List ShareV) (k : Int) (sec : List Nat) (h : ShLen l) : explS (l.map canon) k sec = explS l k sec := by unfold explS; rw [explE_canon l k _ h, coinsX_canon]
theorem expl_view {l m : List ShareV} (hl : ShLen l) (hm : ShLen m) (h : l.map ShareV.view = m.map ShareV.view) (k : Int) (sec : List Nat) : explE l k sec.length = explE m k sec.length ∧ explS l k sec = explS m k sec := by
  rw [← explE_canon l k _ hl, ← explE_canon m k _ hm, ← explS_canon l k sec hl, ← explS_canon m k sec hm, canon_view h]
  exact ⟨rfl, rfl⟩
theorem expl_main {A A' : Option Addr} {n c m c' : Nat} {k : Int} {l : List ShareV} {sec : List Nat} {w : World} {f : FuncId} (hl : ShR w w.heap.size A n l) (hs : Bytes sec) (hrd : Rd w w.heap.size 1 A' m (u8s sec)) (hn : n ≤ 1000000)
    (h4 : 256 < m → Calls Try.prog f #[.slice A n c, .int .i64 k, .slice A' m c'] w (RetES w 4 []))
    (h3 : m ≤ 256 → (k < 1 ∨ 16 < k) → Calls Try.prog f #[.slice A n c, .int .i64 k, .slice A' m c'] w (RetES w 3 []))
    (h5 : ∀ q : Nat, m ≤ 256 → q ≤ 15 → q < n → Calls Try.prog f #[.slice A n c, .int .i64 ((q : Int) + 1), .slice A' m c'] w (RetES w 5 []))
    (hchk : ∀ q : Nat, m ≤ 256 → q ≤ 15 → n ≤ q → chkE m [] l ≠ 0 → Calls Try.prog f #[.slice A n c, .int .i64 ((q : Int) + 1), .slice A' m c'] w (RetES w (chkE m [] l) []))
    (hok : ∀ q : Nat, m ≤ 256 → q ≤ 15 → n ≤ q → chkE m [] l = 0 → Calls Try.prog f #[.slice A n c, .int .i64 ((q : Int) + 1), .slice A' m c'] w (RetES w 0 (coinsX l sec q m))) :
    Calls Try.prog f #[.slice A n c, .int .i64 k, .slice A' m c'] w (RetES w (explE l k sec.length) (explS l k sec)) := by
  have hsl : sec.length = m := by have := hrd.1; simpa [u8s] using this
  rw [hsl]
  have hS : explS l k sec = if explE l k m = 0 then coinsX l sec (k - 1).toNat m else [] := by unfold explS; rw [hsl]
  by_cases g4 : 256 < m
  · have e : explE l k m = 4 := by unfold explE; rw [if_pos g4]
    rw [hS, e, if_neg (by decide)]; exact h4 g4
  · by_cases g3 : k < 1 ∨ 16 < k
    · have e : explE l k m = 3 := by unfold explE; rw [if_neg g4, if_pos g3]
      rw [hS, e, if_neg (by decide)]; exact h3 (by omega) g3
    · obtain ⟨q, hq⟩ := Int.eq_ofNat_of_zero_le (show 0 ≤ k - 1 by omega)
      obtain rfl : k = (q : Int) + 1 := by omega
      by_cases g5 : q < n
      · have e : explE l ((q : Int) + 1) m = 5 := by unfold explE; rw [if_neg g4, if_neg g3, if_pos (by rw [hl.1]; omega)]
        rw [hS, e, if_neg (by decide)]; exact h5 q (by omega) (by omega) g5
      · have e : explE l ((q : Int) + 1) m = chkE m [] l := by unfold explE; rw [if_neg g4, if_neg g3, if_neg (by rw [hl.1]; omega)]
        rw [hS, e]
        by_cases g6 : chkE m [] l = 0
        · rw [g6, if_pos rfl, show ((q : Int) + 1 - 1).toNat = q by omega]
          exact hok q (by omega) (by omega) (by omega) g6
        · rw [if_neg g6]; exact hchk q (by omega) (by omega) (by omega) g6
theorem Expl_any (A A' : Option Addr) (n c m c' : Nat) (k : Int) (l : List ShareV) (sec : List Nat) (w : World) (hn : n ≤ 1000000) (hl : ShR w w.heap.size A n l) (hs : Bytes sec) (hrd : Rd w w.heap.size 1 A' m (u8s sec)) :
    Calls Try.prog 22 #[.slice A n c, .int .i64 k, .slice A' m c'] w (RetES w (explE l k sec.length) (explS l k sec)) :=
  expl_main hl hs hrd hn (fun h => Expl_4 A A' n c m c' k w h) (fun h1 h2 => Expl_3 A A' n c m c' k w h1 h2) (fun q h1 h2 h3 => Expl_5 A A' n c m c' q w h1 h2 h3) (fun q h1 h2 h3 h4 => Expl_chk A A' n c m c' q l w h1 h2 h3 hl h4) (fun q h1 h2 h3 h4 => Expl_ok A A' n c m c' q l sec w h1 h2 h3 hl hs hrd h4)
theorem refExpl_any (A A' : Option Addr) (n c m c' : Nat) (k : Int) (l : List ShareV) (sec : List Nat) (w : World) (hn : n ≤ 1000000) (hl : ShR w w.heap.size A n l) (hs : Bytes sec) (hrd : Rd w w.heap.size 1 A' m (u8s sec)) :
    Calls Try.prog 23 #[.slice A n c, .int .i64 k, .slice A' m c'] w (RetES w (explE l k sec.length) (explS l k sec)) :=
  expl_main hl hs hrd hn (fun h => refExpl_4 A A' n c m c' k w h) (fun h1 h2 => refExpl_3 A A' n c m c' k w h1 h2) (fun q h1 h2 h3 => refExpl_5 A A' n c m c' q w h1 h2 h3) (fun q h1 h2 h3 h4 => refExpl_chk A A' n c m c' q l w h1 h2 h3 hl h4) (fun q h1 h2 h3 h4 => refExpl_ok A A' n c m c' q l sec w h1 h2 h3 hl hs hrd h4)
/-- The coins of byte j. -/
theorem coinsX_at {len : Nat} {l : List ShareV} (g : ShGood len l) (hb : ShBytes l) {sec : List Nat} (hs : Bytes sec) {q : Nat} (hq : l.length ≤ q) (j : Nat) : ∀ m, j < m → ((coinsX l sec q m).drop (j * q)).take q = coinB l (sec.getD j 0) j q
  | 0, h => absurd h (by omega)
  | m + 1, h => by
    have hl := coinsX_len g hb hs hq m
    rw [coinsX]
    rcases Nat.lt_or_ge j m with h1 | h1
    · have h2 : (j + 1) * q ≤ m * q := Nat.mul_le_mul_right _ h1
      rw [Nat.add_mul, Nat.one_mul] at h2
      rw [List.drop_append_of_le_length (by omega), List.take_append_of_le_length (by rw [List.length_drop]; omega)]
      exact coinsX_at g hb hs hq j m h1
    · obtain rfl : j = m := by omega
      rw [List.drop_append, List.drop_of_length_le (by omega), hl, Nat.sub_self, List.drop_zero, List.nil_append]
      exact List.take_of_length_le (by rw [coinB_len g hb (getD_byte hs j) j hq]; exact Nat.le_refl _)
theorem polyX_split {len : Nat} {l : List ShareV} (g : ShGood len l) (hb : ShBytes l) {b : Nat} (h : b < 256) (j : Nat) : polyX l b j = b :: (polyX l b j).drop 1 := by
  have h1 := polyX_len g hb h j
  have h2 := (throughN_hits (ptsX_b hb h j) (ptsX_d g b j)).2.2 (0, b) (by simp [ptsX])
  have h3 : valF (polyX l b j) 0 = b := h2
  cases hp : polyX l b j with
  | nil => rw [hp] at h1; simp at h1
  | cons a p =>
    rw [hp, valF_at0] at h3
    rw [h3]; rfl
/-- With the coins the secret has the shares. -/
theorem expl_share {len : Nat} {l : List ShareV} (g : ShGood len l) (hb : ShBytes l) (hy : ShLen l) {sec : List Nat} (hs : Bytes sec) (hsl : sec.length = len) {q : Nat} (hq : l.length ≤ q) {s : ShareV} (hm : s ∈ l) : shareY sec (coinsX l sec q len) q s.X len = s.Y := by
  apply List.ext_getElem
  · rw [shareY_len, hy s hm, g.n s hm]
  · intro j h1 h2
    rw [shareY_len] at h1
    have hbj := getD_byte hs j
    simp only [shareY, List.getElem_map, List.getElem_range]
    rw [← polyL_val]
    unfold polyL
    rw [coinsX_at g hb hs hq j len h1]
    unfold coinB
    rw [← List.cons_append, ← polyX_split g hb hbj j, valF_pad]
    have hh := (throughN_hits (ptsX_b hb hbj j) (ptsX_d g (sec.getD j 0) j)).2.2 (s.X, s.Y.getD j 0) (by
      unfold ptsX ptsJ
      rw [List.take_length]
      exact List.mem_cons_of_mem _ (List.mem_map.2 ⟨s, hm, rfl⟩))
    show valF (throughN (ptsX l (sec.getD j 0) j)) s.X = _
    rw [hh]
    simp [List.getD, List.getElem?_eq_getElem h2]
end Go.Proofs.Ythmooplhhkafcaa
