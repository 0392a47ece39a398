/- The walk of AlgebraSplit: it returns true for any case. -/
import Derived.Test.YtahfkhnhmnjbeaaSplitBad
import Derived.Test.YtahfkhnhmnjbeaaOpenCase
import Derived.Test.YtahfkhnhmnjbeaaKnown
import Derived.BigRegion
import Derived.Deep.DeepCutAuto
namespace Go.Proofs.Ytahfkhnhmnjbeaa
open Go.RowKit
set_option linter.unusedVariables false
/-- What the two copies are. -/
def Copies (w0 : World) (n m : Nat) (xs ys : List Value) (v4 v5 : Value) (wx : World) : Prop :=
  ∃ A1 c1 A2 c2, v4 = .slice A1 n c1 ∧ v5 = .slice A2 m c2 ∧ n ≤ c1 ∧ m ≤ c2 ∧ Rd wx wx.heap.size 1 A1 n xs ∧ Rd wx wx.heap.size 1 A2 m ys ∧ Below w0.heap.size w0 wx
theorem Copies.a {w0 w1 w2 : World} {n m c1 c2 : Nat} {A1 A2 : Option Addr} {xs ys : List Value} (h1 : Rd w1 w1.heap.size 1 A1 n xs) (h2 : Rd w2 w2.heap.size 1 A2 m ys) (hb : Below w1.heap.size w1 w2) (hb0 : Below w0.heap.size w0 w2) (k1 : n ≤ c1) (k2 : m ≤ c2) : Copies w0 n m xs ys (.slice A1 n c1) (.slice A2 m c2) w2 :=
  ⟨A1, c1, A2, c2, rfl, rfl, k1, k2, (h1.below hb).mono hb.size, h2, hb0⟩
theorem Copies.b {w0 w1 w2 : World} {n m c1 c2 : Nat} {A1 A2 : Option Addr} {xs ys : List Value} (h2 : Rd w1 w1.heap.size 1 A2 m ys) (h1 : Rd w2 w2.heap.size 1 A1 n xs) (hb : Below w1.heap.size w1 w2) (hb0 : Below w0.heap.size w0 w2) (k1 : n ≤ c1) (k2 : m ≤ c2) : Copies w0 n m xs ys (.slice A1 n c1) (.slice A2 m c2) w2 :=
  ⟨A1, c1, A2, c2, rfl, rfl, k1, k2, h1, (h2.below hb).mono hb.size, hb0⟩
theorem bcells {w w' : World} (h : Below w.heap.size w w') {b o : Nat} {v : Value} (hc : w.cell? ⟨b, o, none⟩ = some v) : w'.cell? ⟨b, o, none⟩ = some v := by
  refine (h.cell (p := ⟨b, o, none⟩) ?_).trans hc
  unfold World.cell? at hc
  split at hc
  · rename_i cc t fz hb; exact (Array.getElem?_eq_some_iff.1 hb).1
  · cases hc

set_option maxRecDepth 100000 in
set_option maxHeartbeats 4000000 in
theorem SplitLaw_yes (A A' : Option Addr) (n c m c' : Nat) (N q : Nat) (sec co : List Nat) (w : World) (hn : n ≤ 256) (hN1 : 1 ≤ N) (hN2 : N ≤ 16) (hqN : q + 1 ≤ N) (hm : m = n * q) (hnc : n ≤ c) (hmc : m ≤ c') (hs : Bytes sec) (hco : Bytes co) (h : Rd w w.heap.size 1 A n (u8s sec)) (h' : Rd w w.heap.size 1 A' m (u8s co)) :
    Calls Try.prog 3 #[.agg #[.slice A n c, .int .i64 N, .int .i64 ((q : Int) + 1), .slice A' m c']] w fun e w' => e = .returned (.bool true) ∧ Below w.heap.size w w' := by
  have hm5 : m ≤ 256 * 15 := by rw [hm]; exact Nat.mul_le_mul hn (by omega)
  have g1 : (n : Int) ≤ 300 := by omega
  have g2 : (m : Int) ≤ 5000 := by omega
  have HS := Lib.hid hs; have HCO := Lib.hid hco
  have HM := Lib.hid hm
  obtain ⟨wa, hwa⟩ : ∃ wa, wa = w.alloc (.cells #[.slice A n c, .int .i64 N, .int .i64 ((q : Int) + 1), .slice A' m c'] 24) := ⟨_, rfl⟩
  have Ba : Below w.heap.size w wa := by rw [hwa]; exact (Below.refl _ _).alloc (Nat.le_refl _) _
  have sa : wa.heap.size = w.heap.size + 1 := by rw [hwa]; simp
  have hblk : wa.heap[w.heap.size]? = some (.cells #[.slice A n c, .int .i64 N, .int .i64 ((q : Int) + 1), .slice A' m c'] 24 (0, 0)) := by rw [hwa]; exact heap_alloc_new w _
  have x0a : wa.cell? ⟨w.heap.size, 0, none⟩ = some (.slice A n c) := by rw [cell_of_row _ _ _ _ _ _ hblk]; rfl
  have x1a : wa.cell? ⟨w.heap.size, 1, none⟩ = some (.int .i64 N) := by rw [cell_of_row _ _ _ _ _ _ hblk]; rfl
  have x2a : wa.cell? ⟨w.heap.size, 2, none⟩ = some (.int .i64 ((q : Int) + 1)) := by rw [cell_of_row _ _ _ _ _ _ hblk]; rfl
  have x3a : wa.cell? ⟨w.heap.size, 3, none⟩ = some (.slice A' m c') := by rw [cell_of_row _ _ _ _ _ _ hblk]; rfl
  have RA := Lib.hid ((h.below Ba).mono (by omega) : Rd wa wa.heap.size 1 A n (u8s sec)); have RB := Lib.hid ((h'.below Ba).mono (by omega) : Rd wa wa.heap.size 1 A' m (u8s co))
  have HWA := Lib.hid hwa
  clear h h' hblk hs hco hwa hm
  go_enter Try.func3, Try.ntmps3
  go_wp2_with fail
  rw [← HWA.out]
  clear HWA
  go_cut [3, 4] (fun s3 s4 wx => Copies wa n m (u8s sec) (u8s co) s3 s4 wx)
  case first => as_aux_lemma =>
    refine wp_region_held_drew (S := fun w' => Below wa.heap.size wa w') (by kernel_rfl) ?_ (fun hHeld => ?_)
    · (try dsimp only); first | exact Below.refl _ _ | exact (Qw.refl wa).drew.below _ | exact hHeld.alloc hHeld.size _ | exact hHeld.trans (hb1.mono hHeld.size) | exact hHeld.trans (hb2.mono hHeld.size)
    refine wpAnyH_take (i := 1) (oi := ⟨some 24, _, _, _, _, _⟩) (v := ?_) rfl (by kernel_rfl) (by kernel_rfl) (by kernel_rfl) (fun _ _ _ h => h) (Or.inl ⟨by rfl, ?_⟩) (by assumption) ?_
    rotate_left
    · (intro w hSw; (try dsimp only at hSw); go_simp; try with_reducible rfl)
    try simp only [Act.put, List.setIfInBounds_toArray, List.set_cons_zero, List.set_cons_succ]
    refine wpAnyH_take (i := 2) (oi := ⟨some 25, _, _, _, _, _⟩) (v := .slice A n c) rfl (by kernel_rfl) (by kernel_rfl) (by kernel_rfl) (fun _ _ _ h => h) (Or.inl ⟨by rfl, ?_⟩) (by assumption) ?_
    · (intro w hSw; (try dsimp only at hSw); have hq := bcells hSw x0a; go_simp)
    try simp only [Act.put, List.setIfInBounds_toArray, List.set_cons_zero, List.set_cons_succ]
    refine wpAnyH_take (i := 5) (oi := ⟨some 28, _, _, _, _, _⟩) (v := ?_) rfl (by kernel_rfl) (by kernel_rfl) (by kernel_rfl) (fun _ _ _ h => h) (Or.inl ⟨by rfl, ?_⟩) (by assumption) ?_
    rotate_left
    · (intro w hSw; (try dsimp only at hSw); go_simp; try with_reducible rfl)
    try simp only [Act.put, List.setIfInBounds_toArray, List.set_cons_zero, List.set_cons_succ]
    refine wpAnyH_take (i := 6) (oi := ⟨some 29, _, _, _, _, _⟩) (v := .slice A' m c') rfl (by kernel_rfl) (by kernel_rfl) (by kernel_rfl) (fun _ _ _ h => h) (Or.inl ⟨by rfl, ?_⟩) (by assumption) ?_
    · (intro w hSw; (try dsimp only at hSw); have hq := bcells hSw x3a; go_simp)
    try simp only [Act.put, List.setIfInBounds_toArray, List.set_cons_zero, List.set_cons_succ]
    refine wpAnyH_ready (rs := [0, 4]) (by kernel_rfl) (by simp) ?_
    refine AllReadyH.cons (o := ⟨some 23, _, _, _, _, _⟩) rfl (fun K hK => ?_) ?_
    · skip
      go_simp
      refine hK.out _ _ ?_ (fun hHeld => ?_)
      · (try dsimp only); first | exact Below.refl _ _ | exact (Qw.refl wa).drew.below _ | exact hHeld.alloc hHeld.size _ | exact hHeld.trans (hb1.mono hHeld.size) | exact hHeld.trans (hb2.mono hHeld.size)
      clear hK K
      try simp only [Act.put, List.setIfInBounds_toArray, List.set_cons_zero, List.set_cons_succ]
      refine wpAnyH_ready (rs := [3, 4]) (by kernel_rfl) (by simp) ?_
      refine AllReadyH.cons (o := ⟨some 26, _, _, _, _, _⟩) rfl (fun K hK => ?_) ?_
      · skip
        refine step_copyB elB_u8 (.tmp 23) (.tmp 25) (by rfl) (by rfl) (by rfl) (by rfl) (RA.out.below hHeld) (by omega) (by decide) ?_
        intro A1 c1 w1 hc1 hr1 hb1
        refine hK.out _ _ ?_ (fun hHeld => ?_)
        · (try dsimp only); first | exact Below.refl _ _ | exact (Qw.refl wa).drew.below _ | exact hHeld.alloc hHeld.size _ | exact hHeld.trans (hb1.mono hHeld.size) | exact hHeld.trans (hb2.mono hHeld.size)
        clear hK K
        try simp only [Act.put, List.setIfInBounds_toArray, List.set_cons_zero, List.set_cons_succ]
        refine wpAnyH_ready (rs := [4]) (by kernel_rfl) (by simp) ?_
        refine AllReadyH.cons (o := ⟨some 27, _, _, _, _, _⟩) rfl (fun K hK => ?_) AllReadyH.nil
        go_simp
        refine hK.out _ _ ?_ (fun hHeld => ?_)
        · (try dsimp only); first | exact Below.refl _ _ | exact (Qw.refl wa).drew.below _ | exact hHeld.alloc hHeld.size _ | exact hHeld.trans (hb1.mono hHeld.size) | exact hHeld.trans (hb2.mono hHeld.size)
        clear hK K
        try simp only [Act.put, List.setIfInBounds_toArray, List.set_cons_zero, List.set_cons_succ]
        refine wpAnyH_ready (rs := [7]) (by kernel_rfl) (by simp) ?_
        refine AllReadyH.cons (o := ⟨some 30, _, _, _, _, _⟩) rfl (fun K hK => ?_) AllReadyH.nil
        refine step_copyB elB_u8 (.tmp 27) (.tmp 29) (by rfl) (by rfl) (by rfl) (by rfl) (RB.out.below hHeld) (by omega) (by decide) ?_
        intro A2 c2 w2 hc2 hr2 hb2
        refine hK.out _ _ ?_ (fun hHeld => ?_)
        · (try dsimp only); first | exact Below.refl _ _ | exact (Qw.refl wa).drew.below _ | exact hHeld.alloc hHeld.size _ | exact hHeld.trans (hb1.mono hHeld.size) | exact hHeld.trans (hb2.mono hHeld.size)
        clear hK K
        try simp only [Act.put, List.setIfInBounds_toArray, List.set_cons_zero, List.set_cons_succ]
        refine wpAnyH_take (i := 8) (oi := ⟨some 3, _, _, _, _, _⟩) (v := ?_) rfl (by kernel_rfl) (by kernel_rfl) (by kernel_rfl) (fun _ _ _ h => h) (Or.inl ⟨by rfl, ?_⟩) (by assumption) ?_
        rotate_left
        · (intro w hSw; (try dsimp only at hSw); go_simp; try with_reducible rfl)
        try simp only [Act.put, List.setIfInBounds_toArray, List.set_cons_zero, List.set_cons_succ]
        refine wpAnyH_take (i := 9) (oi := ⟨some 4, _, _, _, _, _⟩) (v := ?_) rfl (by kernel_rfl) (by kernel_rfl) (by kernel_rfl) (fun _ _ _ h => h) (Or.inl ⟨by rfl, ?_⟩) (by assumption) ?_
        rotate_left
        · (intro w hSw; (try dsimp only at hSw); go_simp; try with_reducible rfl)
        try simp only [Act.put, List.setIfInBounds_toArray, List.set_cons_zero, List.set_cons_succ]
        refine wpAnyH_done (by kernel_rfl) ?_ _
        go_wp2_with fail; go_meet
        exact Copies.a hr1 hr2 (by first | exact hb2 | exact ((Below.refl w1.heap.size w1).alloc (Nat.le_refl _) _).trans (hb2.mono (by simp))) hHeld hc1 hc2
      refine AllReadyH.cons (o := ⟨some 27, _, _, _, _, _⟩) rfl (fun K hK => ?_) AllReadyH.nil
      go_simp
      refine hK.out _ _ ?_ (fun hHeld => ?_)
      · (try dsimp only); first | exact Below.refl _ _ | exact (Qw.refl wa).drew.below _ | exact hHeld.alloc hHeld.size _ | exact hHeld.trans (hb1.mono hHeld.size) | exact hHeld.trans (hb2.mono hHeld.size)
      clear hK K
      try simp only [Act.put, List.setIfInBounds_toArray, List.set_cons_zero, List.set_cons_succ]
      refine wpAnyH_ready (rs := [3]) (by kernel_rfl) (by simp) ?_
      refine AllReadyH.cons (o := ⟨some 26, _, _, _, _, _⟩) rfl (fun K hK => ?_) AllReadyH.nil
      refine step_copyB elB_u8 (.tmp 23) (.tmp 25) (by rfl) (by rfl) (by rfl) (by rfl) (RA.out.below hHeld) (by omega) (by decide) ?_
      intro A1 c1 w1 hc1 hr1 hb1
      refine hK.out _ _ ?_ (fun hHeld => ?_)
      · (try dsimp only); first | exact Below.refl _ _ | exact (Qw.refl wa).drew.below _ | exact hHeld.alloc hHeld.size _ | exact hHeld.trans (hb1.mono hHeld.size) | exact hHeld.trans (hb2.mono hHeld.size)
      clear hK K
      try simp only [Act.put, List.setIfInBounds_toArray, List.set_cons_zero, List.set_cons_succ]
      refine wpAnyH_ready (rs := [7]) (by kernel_rfl) (by simp) ?_
      refine AllReadyH.cons (o := ⟨some 30, _, _, _, _, _⟩) rfl (fun K hK => ?_) AllReadyH.nil
      refine step_copyB elB_u8 (.tmp 27) (.tmp 29) (by rfl) (by rfl) (by rfl) (by rfl) (RB.out.below hHeld) (by omega) (by decide) ?_
      intro A2 c2 w2 hc2 hr2 hb2
      refine hK.out _ _ ?_ (fun hHeld => ?_)
      · (try dsimp only); first | exact Below.refl _ _ | exact (Qw.refl wa).drew.below _ | exact hHeld.alloc hHeld.size _ | exact hHeld.trans (hb1.mono hHeld.size) | exact hHeld.trans (hb2.mono hHeld.size)
      clear hK K
      try simp only [Act.put, List.setIfInBounds_toArray, List.set_cons_zero, List.set_cons_succ]
      refine wpAnyH_take (i := 8) (oi := ⟨some 3, _, _, _, _, _⟩) (v := ?_) rfl (by kernel_rfl) (by kernel_rfl) (by kernel_rfl) (fun _ _ _ h => h) (Or.inl ⟨by rfl, ?_⟩) (by assumption) ?_
      rotate_left
      · (intro w hSw; (try dsimp only at hSw); go_simp; try with_reducible rfl)
      try simp only [Act.put, List.setIfInBounds_toArray, List.set_cons_zero, List.set_cons_succ]
      refine wpAnyH_take (i := 9) (oi := ⟨some 4, _, _, _, _, _⟩) (v := ?_) rfl (by kernel_rfl) (by kernel_rfl) (by kernel_rfl) (fun _ _ _ h => h) (Or.inl ⟨by rfl, ?_⟩) (by assumption) ?_
      rotate_left
      · (intro w hSw; (try dsimp only at hSw); go_simp; try with_reducible rfl)
      try simp only [Act.put, List.setIfInBounds_toArray, List.set_cons_zero, List.set_cons_succ]
      refine wpAnyH_done (by kernel_rfl) ?_ _
      go_wp2_with fail; go_meet
      exact Copies.a hr1 hr2 (by first | exact hb2 | exact ((Below.refl w1.heap.size w1).alloc (Nat.le_refl _) _).trans (hb2.mono (by simp))) hHeld hc1 hc2
    refine AllReadyH.cons (o := ⟨some 27, _, _, _, _, _⟩) rfl (fun K hK => ?_) AllReadyH.nil
    go_simp
    refine hK.out _ _ ?_ (fun hHeld => ?_)
    · (try dsimp only); first | exact Below.refl _ _ | exact (Qw.refl wa).drew.below _ | exact hHeld.alloc hHeld.size _ | exact hHeld.trans (hb1.mono hHeld.size) | exact hHeld.trans (hb2.mono hHeld.size)
    clear hK K
    try simp only [Act.put, List.setIfInBounds_toArray, List.set_cons_zero, List.set_cons_succ]
    refine wpAnyH_ready (rs := [0]) (by kernel_rfl) (by simp) ?_
    refine AllReadyH.cons (o := ⟨some 23, _, _, _, _, _⟩) rfl (fun K hK => ?_) AllReadyH.nil
    go_simp
    refine hK.out _ _ ?_ (fun hHeld => ?_)
    · (try dsimp only); first | exact Below.refl _ _ | exact (Qw.refl wa).drew.below _ | exact hHeld.alloc hHeld.size _ | exact hHeld.trans (hb1.mono hHeld.size) | exact hHeld.trans (hb2.mono hHeld.size)
    clear hK K
    try simp only [Act.put, List.setIfInBounds_toArray, List.set_cons_zero, List.set_cons_succ]
    refine wpAnyH_ready (rs := [3]) (by kernel_rfl) (by simp) ?_
    refine AllReadyH.cons (o := ⟨some 26, _, _, _, _, _⟩) rfl (fun K hK => ?_) AllReadyH.nil
    refine step_copyB elB_u8 (.tmp 23) (.tmp 25) (by rfl) (by rfl) (by rfl) (by rfl) (RA.out.below hHeld) (by omega) (by decide) ?_
    intro A1 c1 w1 hc1 hr1 hb1
    refine hK.out _ _ ?_ (fun hHeld => ?_)
    · (try dsimp only); first | exact Below.refl _ _ | exact (Qw.refl wa).drew.below _ | exact hHeld.alloc hHeld.size _ | exact hHeld.trans (hb1.mono hHeld.size) | exact hHeld.trans (hb2.mono hHeld.size)
    clear hK K
    try simp only [Act.put, List.setIfInBounds_toArray, List.set_cons_zero, List.set_cons_succ]
    refine wpAnyH_ready (rs := [7]) (by kernel_rfl) (by simp) ?_
    refine AllReadyH.cons (o := ⟨some 30, _, _, _, _, _⟩) rfl (fun K hK => ?_) AllReadyH.nil
    refine step_copyB elB_u8 (.tmp 27) (.tmp 29) (by rfl) (by rfl) (by rfl) (by rfl) (RB.out.below hHeld) (by omega) (by decide) ?_
    intro A2 c2 w2 hc2 hr2 hb2
    refine hK.out _ _ ?_ (fun hHeld => ?_)
    · (try dsimp only); first | exact Below.refl _ _ | exact (Qw.refl wa).drew.below _ | exact hHeld.alloc hHeld.size _ | exact hHeld.trans (hb1.mono hHeld.size) | exact hHeld.trans (hb2.mono hHeld.size)
    clear hK K
    try simp only [Act.put, List.setIfInBounds_toArray, List.set_cons_zero, List.set_cons_succ]
    refine wpAnyH_take (i := 8) (oi := ⟨some 3, _, _, _, _, _⟩) (v := ?_) rfl (by kernel_rfl) (by kernel_rfl) (by kernel_rfl) (fun _ _ _ h => h) (Or.inl ⟨by rfl, ?_⟩) (by assumption) ?_
    rotate_left
    · (intro w hSw; (try dsimp only at hSw); go_simp; try with_reducible rfl)
    try simp only [Act.put, List.setIfInBounds_toArray, List.set_cons_zero, List.set_cons_succ]
    refine wpAnyH_take (i := 9) (oi := ⟨some 4, _, _, _, _, _⟩) (v := ?_) rfl (by kernel_rfl) (by kernel_rfl) (by kernel_rfl) (fun _ _ _ h => h) (Or.inl ⟨by rfl, ?_⟩) (by assumption) ?_
    rotate_left
    · (intro w hSw; (try dsimp only at hSw); go_simp; try with_reducible rfl)
    try simp only [Act.put, List.setIfInBounds_toArray, List.set_cons_zero, List.set_cons_succ]
    refine wpAnyH_done (by kernel_rfl) ?_ _
    go_wp2_with fail; go_meet
    exact Copies.a hr1 hr2 (by first | exact hb2 | exact ((Below.refl w1.heap.size w1).alloc (Nat.le_refl _) _).trans (hb2.mono (by simp))) hHeld hc1 hc2
  case rest => as_aux_lemma =>
    obtain ⟨w1, hw1⟩ : ∃ x, x = wc := ⟨_, rfl⟩
    subst hw1
    obtain ⟨A1, c1, A2, c2, rfl, rfl, hc1, hc2, hr1, hr2, hb1⟩ := hcut
    have s1 := hb1.size
    have B1 : Below w.heap.size w w1 := Ba.trans (hb1.mono (by omega))
    have x01 := bcells hb1 x0a; clear x0a
    have x11 := bcells hb1 x1a; clear x1a
    have x21 := bcells hb1 x2a; clear x2a
    have x31 := bcells hb1 x3a; clear x3a
    have SEC1 := Lib.hid ((RA.out.below hb1).mono s1); have COI1 := Lib.hid ((RB.out.below hb1).mono s1); have P1 := Lib.hid hr1; have Q1 := Lib.hid hr2; clear hr1 hr2 RA RB hb1
    have PP := Lib.hid P1.out; have SS := Lib.hid SEC1.out; have X0 := Lib.hid x01
    go_wp2_with fail
    refine (Split_ok _ _ _ _ _ _ N q sec co _ hn hN1 hN2 hqN HM.out hc2 HS.out HCO.out (P1.out) (Q1.out)).mono ?_
    rintro e w2 ⟨rfl, hsw, hb2⟩
    have s2 := hb2.size
    have B2 : Below w.heap.size w w2 := B1.trans (hb2.mono (by omega))
    have SEC2 := Lib.hid ((SEC1.out.below hb2).mono s2); clear SEC1
    have COI2 := Lib.hid ((COI1.out.below hb2).mono s2); clear COI1
    have P2 := Lib.hid ((P1.out.below hb2).mono s2); clear P1
    have Q2 := Lib.hid ((Q1.out.below hb2).mono s2); clear Q1
    have x02 := (hb2.cell (p := ⟨w.heap.size, 0, none⟩) (by simp only; omega)).trans x01; clear x01
    have x12 := (hb2.cell (p := ⟨w.heap.size, 1, none⟩) (by simp only; omega)).trans x11; clear x11
    have x22 := (hb2.cell (p := ⟨w.heap.size, 2, none⟩) (by simp only; omega)).trans x21; clear x21
    have x32 := (hb2.cell (p := ⟨w.heap.size, 3, none⟩) (by simp only; omega)).trans x31; clear x31
    have C2 := hb2
    have SW := Lib.hid hsw
    have SH2 : Hid (ShR w2 w2.heap.size (some ⟨w1.heap.size, 0, none⟩) N (progV w1.heap.size n N q sec co)) := Lib.hid ((hsw.shr hn hN2 HS.out HCO.out).mono (by rw [hsw.1]; exact Nat.le_refl _)); clear hsw
    go_wp2_with fail
    refine (same_yes _ _ _ _ _ _ sec _ _ HS.out (P2.out) (SEC2.out)).mono ?_
    rintro e w' ⟨rfl, rfl⟩
    go_wp2_with fail
    refine (same_yes _ _ _ _ _ _ co _ _ HCO.out (Q2.out) (COI2.out)).mono ?_
    rintro e w' ⟨rfl, rfl⟩
    have hne : ((m : Int) != wrap64 ((n : Int) * (q : Int))) = false := by rw [show (n : Int) * (q : Int) = (m : Int) by rw [HM.out]; simp, bne_eq_false_iff_eq]; unfold wrap64; omega
    have g3 : (n : Int) ≤ 256 := by omega
    go_wp2_with fail
    refine (refSplit_any _ _ _ _ _ _ q N sec co _ (by omega) hN2 hqN HM.out hmc HS.out HCO.out (SEC2.out) (COI2.out)).mono ?_
    rintro e w3 ⟨A3, c3, l3, rfl, hc3, hso, hlv, hb3⟩
    have s3 := hb3.size
    have B3 : Below w.heap.size w w3 := B2.trans (hb3.mono (by omega))
    have SEC3 := Lib.hid ((SEC2.out.below hb3).mono s3); clear SEC2
    have COI3 := Lib.hid ((COI2.out.below hb3).mono s3); clear COI2
    have P3 := Lib.hid ((P2.out.below hb3).mono s3); clear P2
    have Q3 := Lib.hid ((Q2.out.below hb3).mono s3); clear Q2
    have SH3 := Lib.hid ((SH2.out.below hb3).mono s3); clear SH2
    have x03 := (hb3.cell (p := ⟨w.heap.size, 0, none⟩) (by simp only; omega)).trans x02; clear x02
    have x13 := (hb3.cell (p := ⟨w.heap.size, 1, none⟩) (by simp only; omega)).trans x12; clear x12
    have x23 := (hb3.cell (p := ⟨w.heap.size, 2, none⟩) (by simp only; omega)).trans x22; clear x22
    have x33 := (hb3.cell (p := ⟨w.heap.size, 3, none⟩) (by simp only; omega)).trans x32; clear x32
    have C3 := C2.trans (hb3.mono C2.size)
    have SO3 := Lib.hid hso; have LV := Lib.hid hlv; clear hso hlv
    try dsimp only [id]
    clear hne
    go_wp2_with fail
    refine (sameShares_yes _ _ _ _ _ _ _ _ _ (by omega) (SH3.out) (SO3.out.rd) (by rw [progV_view, LV.out])).mono ?_
    rintro e w4 ⟨rfl, hq4⟩
    have hb4 := hq4.below w3.heap.size
    have s4 := hb4.size
    have B4 : Below w.heap.size w w4 := B3.trans (hb4.mono (by omega))
    have SEC4 := Lib.hid ((SEC3.out.below hb4).mono s4); clear SEC3
    have COI4 := Lib.hid ((COI3.out.below hb4).mono s4); clear COI3
    have P4 := Lib.hid ((P3.out.below hb4).mono s4); clear P3
    have Q4 := Lib.hid ((Q3.out.below hb4).mono s4); clear Q3
    have SH4 := Lib.hid ((SH3.out.below hb4).mono s4); clear SH3
    have x04 := (hb4.cell (p := ⟨w.heap.size, 0, none⟩) (by simp only; omega)).trans x03; clear x03
    have x14 := (hb4.cell (p := ⟨w.heap.size, 1, none⟩) (by simp only; omega)).trans x13; clear x13
    have x24 := (hb4.cell (p := ⟨w.heap.size, 2, none⟩) (by simp only; omega)).trans x23; clear x23
    have x34 := (hb4.cell (p := ⟨w.heap.size, 3, none⟩) (by simp only; omega)).trans x33; clear x33
    have SO4 := Lib.hid (SO3.out.past hb4); clear SO3
    have D4 : Below w1.heap.size w1 w4 := C3.trans (hb4.mono (by omega))
    have E4 : Below w2.heap.size w2 w4 := hb3.trans (hb4.mono s3)
    obtain ⟨hsz, cs, hB, hcs, hat⟩ := SW.out
    have hN0 : w1.heap.size + 1 + N = w2.heap.size := by rw [hsz]
    have HB4 : Hid (w4.heap[w1.heap.size]? = some (.cells cs 34 (0, 0))) := Lib.hid ((E4.block _ (by omega)).trans hB)
    have HCS : Hid (∀ t, t < N → cs[t * 2 + 1]? = some (.slice (some ⟨w1.heap.size + 1 + t, 0, none⟩) n n)) := Lib.hid (fun t ht => (hat t ht).2.1)
    have HY4 : Hid (∀ t, t < N → w4.heap[w1.heap.size + 1 + t]? = some (.cells (u8s (shareY sec co q (t + 1) n)).toArray 5 (0, 0))) := Lib.hid (fun t ht => (E4.block _ (by omega)).trans (hat t ht).2.2)
    have PW := Lib.hid (PP.out.below D4); have SW2 := Lib.hid (SS.out.below D4)
    have XW : Hid (w4.cell? ⟨w.heap.size, 0, none⟩ = some (.slice A n c)) := Lib.hid ((D4.cell (p := ⟨w.heap.size, 0, none⟩) (by simp only; omega)).trans X0.out)
    have hBB : w1.heap.size + 1 + N ≤ w4.heap.size := by omega
    have hwB : w.heap.size < w1.heap.size := by omega
    clear hat hcs hB hsz SW E4 D4 PP SS X0 P4 SEC4 COI4 Q4 SH4 x04 x14 x24 x34 hb3 hb2 hq4 hb4 C2 C3
    generalize hBe : w1.heap.size = B at *
    have HBE := Lib.hid hBe; clear hBe
    go_wp2_with fail
    go_loopw [9] (fun v wr => ∃ i : Nat, i ≤ N ∧ v = .int .i64 i ∧ Chg B i w4 wr) (fun v _ => N - (intOf v).toNat)
    case atStart => exact ⟨0, Nat.zero_le _, rfl, Chg.refl _ _ _⟩
    case round =>
      obtain ⟨wp, rfl⟩ : ∃ wp : World, wp = wr := ⟨_, rfl⟩
      obtain ⟨i, hi, rfl, hch⟩ := hrel
      by_cases hlt : i < N
      · have hli : (i : Int) < (N : Int) := by omega
        go_wp2_with fail
        go_loopw [10] (fun v wi => ∃ (j : Nat) (ys : List Nat), j ≤ n ∧ v = .int .i64 j ∧ Chg B (i + 1) w4 wi ∧ Bytes ys ∧ ys.length = n ∧ wi.heap[B + 1 + i]? = some (.cells (u8s ys).toArray 5 (0, 0))) (fun v _ => n - (intOf v).toNat)
        case atStart => exact ⟨0, _, Nat.zero_le _, rfl, hch.mono, shareY_bytes (q := q) (x := i + 1) (n := n) HS.out HCO.out, shareY_len _ _ _ _ _, (hch.far _ (by omega)).trans (HY4.out i hlt)⟩
        case round =>
          obtain ⟨j, ys, hj, rfl, hc1, hyb, hyl, hyc⟩ := hrel
          have cy : wr.cell? ⟨B, i * 2 + 1, none⟩ = some (.slice (some ⟨B + 1 + i, 0, none⟩) n n) := by rw [cell_of_row _ _ _ _ _ _ ((hc1.bel.block _ (by omega)).trans HB4.out)]; exact HCS.out i hlt
          by_cases hlj : j < n
          · have hli2 : (j : Int) < (n : Int) := by omega
            have hjy : j < ys.length := by omega
            have cj : wr.cell? ⟨B + 1 + i, j, none⟩ = some (.int .u8 (ys[j] : Nat)) := by rw [cell_of_row _ _ _ _ _ _ hyc]; simp [u8s, hjy]
            have fj : wr.frozen? ⟨B + 1 + i, j, none⟩ = false := by simp [World.frozen?, hyc]
            have hy := hyb _ (List.getElem_mem hjy)
            have HY := Lib.hid hyc; have HYB := Lib.hid hyb; have HYL := Lib.hid hyl
            generalize ys[j] = y at cj hy
            clear hyc hyb hyl hjy
            go_wp2_with fail
            refine wp_region_quiet_tail 16 (by kernel_rfl) (by kernel_rfl) ?_
            simp only [List.take_succ_cons, List.take_zero, List.drop_succ_cons, List.drop_zero]
            repeat (quiet_step (fail))
            refine wpQuiet_nil ?_
            intro _ hw'
            obtain ⟨nq, hw''⟩ := hw'
            subst hw''
            go_wp2_with fail
            go_roundw
            case rel => exact ⟨j + 1, ys.set j ((y + 1) % 256), by omega, by go_num, (hc1.q ⟨nq, rfl⟩).set _ _, bytes_set HYB.out _ (Nat.mod_lt _ (by decide)), by rw [List.length_set]; exact HYL.out, row_set (w := wr.drewN nq) HY.out j _ _ rfl⟩
            case measure => simp [intOf]; omega
          · have hli2 : ¬ (j : Int) < (n : Int) := by omega
            clear hyc hyb hyl
            obtain ⟨wk, rfl⟩ : ∃ wk : World, wk = wr := ⟨_, rfl⟩
            go_wp2_with fail
            go_loopw [11] (fun v wi => ∃ k : Nat, i + 1 ≤ k ∧ k ≤ N ∧ v = .int .i64 k ∧ Qw wk wi) (fun v _ => N - (intOf v).toNat)
            case atStart => exact ⟨i + 1, by omega, by omega, by go_num, Qw.refl _⟩
            case round =>
              obtain ⟨k, hk1, hk2, rfl, hq⟩ := hrel
              have hck := hc1.q hq
              by_cases hlk : k < N
              · have hlk2 : (k : Int) < (N : Int) := by omega
                have ck : wr.cell? ⟨B, k * 2 + 1, none⟩ = some (.slice (some ⟨B + 1 + k, 0, none⟩) n n) := by rw [cell_of_row _ _ _ _ _ _ ((hck.bel.block _ (by omega)).trans HB4.out)]; exact HCS.out k hlk
                have yk : Rd wr wr.heap.size 1 (some ⟨B + 1 + k, 0, none⟩) n (u8s (shareY sec co q (k + 1) n)) := by
                  have h1 := (hck.far (B + 1 + k) (by omega)).trans (HY4.out k hlk)
                  refine ⟨by simp [u8s, shareY_len], fun _ => ⟨_, 0, rfl, (Array.getElem?_eq_some_iff.1 h1).1, fun jj u hu => ?_⟩⟩
                  rw [Nat.zero_add, cell_of_row _ _ _ _ _ _ h1]; simpa using hu
                have so := SO4.out.keepFrom (w' := wr) (fun b hb => hck.far b (by omega))
                have hkl : k < l3.length := by rw [so.1]; exact hlk
                obtain ⟨bb, off, rfl, hbb, hcc⟩ := (Rd.own so.2.1).2 (by omega)
                have sk : wr.cell? ⟨bb, off + k * 2 + 1, none⟩ = some (.slice (l3[k]).A (l3[k]).n (l3[k]).c) := hcc _ _ (shCells_1 l3 k hkl)
                have rk := (so.2.2 _ (List.getElem_mem hkl)).ok.2.2.2.2.2
                have vk : (l3[k]).Y = shareY sec co q (k + 1) n := by
                  have h1 := congrArg (fun z => z[k]?) LV.out
                  simp only [List.getElem?_map, List.getElem?_eq_getElem hkl, Option.map_some, sharesV, List.getElem?_range hlk, Option.some.injEq, ShareV.view, Prod.mk.injEq] at h1
                  exact h1.2
                rw [vk] at rk
                have RK := Lib.hid rk; have YK := Lib.hid yk
                have SB := Lib.hid (shareY_bytes (q := q) (x := k + 1) (n := n) HS.out HCO.out)
                generalize l3[k] = s3 at sk RK
                obtain ⟨X3, A5, n5, c5, Y5⟩ := s3
                dsimp only at sk RK
                clear hkl hcc so rk yk vk
                go_wp2_with fail
                go_quiet ((go_at_call 17; exact quiet_e (same_yes _ _ _ _ _ _ _ _ _ SB.out (YK.out.drewN _) (RK.out.drewN _))))
                go_wp2_with fail
                go_roundw
                case rel => exact ⟨k + 1, by omega, by omega, by go_num, hq.drewN _⟩
                case measure => simp [intOf]; omega
              · have hlk2 : ¬ (k : Int) < (N : Int) := by omega
                clear cy
                go_wp2_with fail
                exact ⟨⟨i + 1, by omega, by go_num, hck⟩, by simp [intOf]; omega⟩
      · have hli : ¬ (i : Int) < (N : Int) := by omega
        obtain rfl : i = N := by omega
        have hbl := hch.bel
        have xw := (hbl.cell (p := ⟨w.heap.size, 0, none⟩) (by simp only; omega)).trans XW.out
        have PWW := Lib.hid ((PW.out.mono (show B ≤ B + 1 by omega)).below hbl)
        have SWW := Lib.hid ((SW2.out.mono (show B ≤ B + 1 by omega)).below hbl)
        have Bz : Below w.heap.size w wp := B4.trans (hbl.mono (by omega))
        have sz := Bz.size
        clear hbl hch
        go_wp2_with fail
        refine (same_yes _ _ _ _ _ _ sec _ _ HS.out PWW.out SWW.out).mono ?_
        rintro e w' ⟨rfl, rfl⟩
        go_wp2_with fail
        refine (known_any _).mono ?_
        rintro e w9 ⟨rfl, hb9⟩
        go_wp2_with fail
        go_ret
        exact ⟨rfl, Bz.trans (hb9.mono sz)⟩
set_option maxRecDepth 100000 in
set_option maxHeartbeats 4000000 in
theorem SplitLaw_no (A A' : Option Addr) (n c m c' : Nat) (N K E : Int) (sec co : List Nat) (w : World) (hn : n ≤ 300) (hm5 : m ≤ 5000) (hE : SplitNo n m N K E) (hnc : n ≤ c) (hmc : m ≤ c') (hs : Bytes sec) (hco : Bytes co) (h : Rd w w.heap.size 1 A n (u8s sec)) (h' : Rd w w.heap.size 1 A' m (u8s co)) :
    Calls Try.prog 3 #[.agg #[.slice A n c, .int .i64 N, .int .i64 K, .slice A' m c']] w fun e w' => e = .returned (.bool true) ∧ Below w.heap.size w w' := by
  have g1 : (n : Int) ≤ 300 := by omega
  have g2 : (m : Int) ≤ 5000 := by omega
  have HS := Lib.hid hs; have HCO := Lib.hid hco
  have HE := Lib.hid hE
  obtain ⟨wa, hwa⟩ : ∃ wa, wa = w.alloc (.cells #[.slice A n c, .int .i64 N, .int .i64 K, .slice A' m c'] 24) := ⟨_, rfl⟩
  have Ba : Below w.heap.size w wa := by rw [hwa]; exact (Below.refl _ _).alloc (Nat.le_refl _) _
  have sa : wa.heap.size = w.heap.size + 1 := by rw [hwa]; simp
  have hblk : wa.heap[w.heap.size]? = some (.cells #[.slice A n c, .int .i64 N, .int .i64 K, .slice A' m c'] 24 (0, 0)) := by rw [hwa]; exact heap_alloc_new w _
  have x0a : wa.cell? ⟨w.heap.size, 0, none⟩ = some (.slice A n c) := by rw [cell_of_row _ _ _ _ _ _ hblk]; rfl
  have x1a : wa.cell? ⟨w.heap.size, 1, none⟩ = some (.int .i64 N) := by rw [cell_of_row _ _ _ _ _ _ hblk]; rfl
  have x2a : wa.cell? ⟨w.heap.size, 2, none⟩ = some (.int .i64 K) := by rw [cell_of_row _ _ _ _ _ _ hblk]; rfl
  have x3a : wa.cell? ⟨w.heap.size, 3, none⟩ = some (.slice A' m c') := by rw [cell_of_row _ _ _ _ _ _ hblk]; rfl
  have RA := Lib.hid ((h.below Ba).mono (by omega) : Rd wa wa.heap.size 1 A n (u8s sec)); have RB := Lib.hid ((h'.below Ba).mono (by omega) : Rd wa wa.heap.size 1 A' m (u8s co))
  have HWA := Lib.hid hwa
  clear h h' hblk hs hco hwa hE
  go_enter Try.func3, Try.ntmps3
  go_wp2_with fail
  rw [← HWA.out]
  clear HWA
  go_cut [3, 4] (fun s3 s4 wx => Copies wa n m (u8s sec) (u8s co) s3 s4 wx)
  case first => as_aux_lemma =>
    refine wp_region_held_drew (S := fun w' => Below wa.heap.size wa w') (by kernel_rfl) ?_ (fun hHeld => ?_)
    · (try dsimp only); first | exact Below.refl _ _ | exact (Qw.refl wa).drew.below _ | exact hHeld.alloc hHeld.size _ | exact hHeld.trans (hb1.mono hHeld.size) | exact hHeld.trans (hb2.mono hHeld.size)
    refine wpAnyH_take (i := 1) (oi := ⟨some 24, _, _, _, _, _⟩) (v := ?_) rfl (by kernel_rfl) (by kernel_rfl) (by kernel_rfl) (fun _ _ _ h => h) (Or.inl ⟨by rfl, ?_⟩) (by assumption) ?_
    rotate_left
    · (intro w hSw; (try dsimp only at hSw); go_simp; try with_reducible rfl)
    try simp only [Act.put, List.setIfInBounds_toArray, List.set_cons_zero, List.set_cons_succ]
    refine wpAnyH_take (i := 2) (oi := ⟨some 25, _, _, _, _, _⟩) (v := .slice A n c) rfl (by kernel_rfl) (by kernel_rfl) (by kernel_rfl) (fun _ _ _ h => h) (Or.inl ⟨by rfl, ?_⟩) (by assumption) ?_
    · (intro w hSw; (try dsimp only at hSw); have hq := bcells hSw x0a; go_simp)
    try simp only [Act.put, List.setIfInBounds_toArray, List.set_cons_zero, List.set_cons_succ]
    refine wpAnyH_take (i := 5) (oi := ⟨some 28, _, _, _, _, _⟩) (v := ?_) rfl (by kernel_rfl) (by kernel_rfl) (by kernel_rfl) (fun _ _ _ h => h) (Or.inl ⟨by rfl, ?_⟩) (by assumption) ?_
    rotate_left
    · (intro w hSw; (try dsimp only at hSw); go_simp; try with_reducible rfl)
    try simp only [Act.put, List.setIfInBounds_toArray, List.set_cons_zero, List.set_cons_succ]
    refine wpAnyH_take (i := 6) (oi := ⟨some 29, _, _, _, _, _⟩) (v := .slice A' m c') rfl (by kernel_rfl) (by kernel_rfl) (by kernel_rfl) (fun _ _ _ h => h) (Or.inl ⟨by rfl, ?_⟩) (by assumption) ?_
    · (intro w hSw; (try dsimp only at hSw); have hq := bcells hSw x3a; go_simp)
    try simp only [Act.put, List.setIfInBounds_toArray, List.set_cons_zero, List.set_cons_succ]
    refine wpAnyH_ready (rs := [0, 4]) (by kernel_rfl) (by simp) ?_
    refine AllReadyH.cons (o := ⟨some 23, _, _, _, _, _⟩) rfl (fun K hK => ?_) ?_
    · skip
      go_simp
      refine hK.out _ _ ?_ (fun hHeld => ?_)
      · (try dsimp only); first | exact Below.refl _ _ | exact (Qw.refl wa).drew.below _ | exact hHeld.alloc hHeld.size _ | exact hHeld.trans (hb1.mono hHeld.size) | exact hHeld.trans (hb2.mono hHeld.size)
      clear hK K
      try simp only [Act.put, List.setIfInBounds_toArray, List.set_cons_zero, List.set_cons_succ]
      refine wpAnyH_ready (rs := [3, 4]) (by kernel_rfl) (by simp) ?_
      refine AllReadyH.cons (o := ⟨some 26, _, _, _, _, _⟩) rfl (fun K hK => ?_) ?_
      · skip
        refine step_copyB elB_u8 (.tmp 23) (.tmp 25) (by rfl) (by rfl) (by rfl) (by rfl) (RA.out.below hHeld) (by omega) (by decide) ?_
        intro A1 c1 w1 hc1 hr1 hb1
        refine hK.out _ _ ?_ (fun hHeld => ?_)
        · (try dsimp only); first | exact Below.refl _ _ | exact (Qw.refl wa).drew.below _ | exact hHeld.alloc hHeld.size _ | exact hHeld.trans (hb1.mono hHeld.size) | exact hHeld.trans (hb2.mono hHeld.size)
        clear hK K
        try simp only [Act.put, List.setIfInBounds_toArray, List.set_cons_zero, List.set_cons_succ]
        refine wpAnyH_ready (rs := [4]) (by kernel_rfl) (by simp) ?_
        refine AllReadyH.cons (o := ⟨some 27, _, _, _, _, _⟩) rfl (fun K hK => ?_) AllReadyH.nil
        go_simp
        refine hK.out _ _ ?_ (fun hHeld => ?_)
        · (try dsimp only); first | exact Below.refl _ _ | exact (Qw.refl wa).drew.below _ | exact hHeld.alloc hHeld.size _ | exact hHeld.trans (hb1.mono hHeld.size) | exact hHeld.trans (hb2.mono hHeld.size)
        clear hK K
        try simp only [Act.put, List.setIfInBounds_toArray, List.set_cons_zero, List.set_cons_succ]
        refine wpAnyH_ready (rs := [7]) (by kernel_rfl) (by simp) ?_
        refine AllReadyH.cons (o := ⟨some 30, _, _, _, _, _⟩) rfl (fun K hK => ?_) AllReadyH.nil
        refine step_copyB elB_u8 (.tmp 27) (.tmp 29) (by rfl) (by rfl) (by rfl) (by rfl) (RB.out.below hHeld) (by omega) (by decide) ?_
        intro A2 c2 w2 hc2 hr2 hb2
        refine hK.out _ _ ?_ (fun hHeld => ?_)
        · (try dsimp only); first | exact Below.refl _ _ | exact (Qw.refl wa).drew.below _ | exact hHeld.alloc hHeld.size _ | exact hHeld.trans (hb1.mono hHeld.size) | exact hHeld.trans (hb2.mono hHeld.size)
        clear hK K
        try simp only [Act.put, List.setIfInBounds_toArray, List.set_cons_zero, List.set_cons_succ]
        refine wpAnyH_take (i := 8) (oi := ⟨some 3, _, _, _, _, _⟩) (v := ?_) rfl (by kernel_rfl) (by kernel_rfl) (by kernel_rfl) (fun _ _ _ h => h) (Or.inl ⟨by rfl, ?_⟩) (by assumption) ?_
        rotate_left
        · (intro w hSw; (try dsimp only at hSw); go_simp; try with_reducible rfl)
        try simp only [Act.put, List.setIfInBounds_toArray, List.set_cons_zero, List.set_cons_succ]
        refine wpAnyH_take (i := 9) (oi := ⟨some 4, _, _, _, _, _⟩) (v := ?_) rfl (by kernel_rfl) (by kernel_rfl) (by kernel_rfl) (fun _ _ _ h => h) (Or.inl ⟨by rfl, ?_⟩) (by assumption) ?_
        rotate_left
        · (intro w hSw; (try dsimp only at hSw); go_simp; try with_reducible rfl)
        try simp only [Act.put, List.setIfInBounds_toArray, List.set_cons_zero, List.set_cons_succ]
        refine wpAnyH_done (by kernel_rfl) ?_ _
        go_wp2_with fail; go_meet
        exact Copies.a hr1 hr2 (by first | exact hb2 | exact ((Below.refl w1.heap.size w1).alloc (Nat.le_refl _) _).trans (hb2.mono (by simp))) hHeld hc1 hc2
      refine AllReadyH.cons (o := ⟨some 27, _, _, _, _, _⟩) rfl (fun K hK => ?_) AllReadyH.nil
      go_simp
      refine hK.out _ _ ?_ (fun hHeld => ?_)
      · (try dsimp only); first | exact Below.refl _ _ | exact (Qw.refl wa).drew.below _ | exact hHeld.alloc hHeld.size _ | exact hHeld.trans (hb1.mono hHeld.size) | exact hHeld.trans (hb2.mono hHeld.size)
      clear hK K
      try simp only [Act.put, List.setIfInBounds_toArray, List.set_cons_zero, List.set_cons_succ]
      refine wpAnyH_ready (rs := [3]) (by kernel_rfl) (by simp) ?_
      refine AllReadyH.cons (o := ⟨some 26, _, _, _, _, _⟩) rfl (fun K hK => ?_) AllReadyH.nil
      refine step_copyB elB_u8 (.tmp 23) (.tmp 25) (by rfl) (by rfl) (by rfl) (by rfl) (RA.out.below hHeld) (by omega) (by decide) ?_
      intro A1 c1 w1 hc1 hr1 hb1
      refine hK.out _ _ ?_ (fun hHeld => ?_)
      · (try dsimp only); first | exact Below.refl _ _ | exact (Qw.refl wa).drew.below _ | exact hHeld.alloc hHeld.size _ | exact hHeld.trans (hb1.mono hHeld.size) | exact hHeld.trans (hb2.mono hHeld.size)
      clear hK K
      try simp only [Act.put, List.setIfInBounds_toArray, List.set_cons_zero, List.set_cons_succ]
      refine wpAnyH_ready (rs := [7]) (by kernel_rfl) (by simp) ?_
      refine AllReadyH.cons (o := ⟨some 30, _, _, _, _, _⟩) rfl (fun K hK => ?_) AllReadyH.nil
      refine step_copyB elB_u8 (.tmp 27) (.tmp 29) (by rfl) (by rfl) (by rfl) (by rfl) (RB.out.below hHeld) (by omega) (by decide) ?_
      intro A2 c2 w2 hc2 hr2 hb2
      refine hK.out _ _ ?_ (fun hHeld => ?_)
      · (try dsimp only); first | exact Below.refl _ _ | exact (Qw.refl wa).drew.below _ | exact hHeld.alloc hHeld.size _ | exact hHeld.trans (hb1.mono hHeld.size) | exact hHeld.trans (hb2.mono hHeld.size)
      clear hK K
      try simp only [Act.put, List.setIfInBounds_toArray, List.set_cons_zero, List.set_cons_succ]
      refine wpAnyH_take (i := 8) (oi := ⟨some 3, _, _, _, _, _⟩) (v := ?_) rfl (by kernel_rfl) (by kernel_rfl) (by kernel_rfl) (fun _ _ _ h => h) (Or.inl ⟨by rfl, ?_⟩) (by assumption) ?_
      rotate_left
      · (intro w hSw; (try dsimp only at hSw); go_simp; try with_reducible rfl)
      try simp only [Act.put, List.setIfInBounds_toArray, List.set_cons_zero, List.set_cons_succ]
      refine wpAnyH_take (i := 9) (oi := ⟨some 4, _, _, _, _, _⟩) (v := ?_) rfl (by kernel_rfl) (by kernel_rfl) (by kernel_rfl) (fun _ _ _ h => h) (Or.inl ⟨by rfl, ?_⟩) (by assumption) ?_
      rotate_left
      · (intro w hSw; (try dsimp only at hSw); go_simp; try with_reducible rfl)
      try simp only [Act.put, List.setIfInBounds_toArray, List.set_cons_zero, List.set_cons_succ]
      refine wpAnyH_done (by kernel_rfl) ?_ _
      go_wp2_with fail; go_meet
      exact Copies.a hr1 hr2 (by first | exact hb2 | exact ((Below.refl w1.heap.size w1).alloc (Nat.le_refl _) _).trans (hb2.mono (by simp))) hHeld hc1 hc2
    refine AllReadyH.cons (o := ⟨some 27, _, _, _, _, _⟩) rfl (fun K hK => ?_) AllReadyH.nil
    go_simp
    refine hK.out _ _ ?_ (fun hHeld => ?_)
    · (try dsimp only); first | exact Below.refl _ _ | exact (Qw.refl wa).drew.below _ | exact hHeld.alloc hHeld.size _ | exact hHeld.trans (hb1.mono hHeld.size) | exact hHeld.trans (hb2.mono hHeld.size)
    clear hK K
    try simp only [Act.put, List.setIfInBounds_toArray, List.set_cons_zero, List.set_cons_succ]
    refine wpAnyH_ready (rs := [0]) (by kernel_rfl) (by simp) ?_
    refine AllReadyH.cons (o := ⟨some 23, _, _, _, _, _⟩) rfl (fun K hK => ?_) AllReadyH.nil
    go_simp
    refine hK.out _ _ ?_ (fun hHeld => ?_)
    · (try dsimp only); first | exact Below.refl _ _ | exact (Qw.refl wa).drew.below _ | exact hHeld.alloc hHeld.size _ | exact hHeld.trans (hb1.mono hHeld.size) | exact hHeld.trans (hb2.mono hHeld.size)
    clear hK K
    try simp only [Act.put, List.setIfInBounds_toArray, List.set_cons_zero, List.set_cons_succ]
    refine wpAnyH_ready (rs := [3]) (by kernel_rfl) (by simp) ?_
    refine AllReadyH.cons (o := ⟨some 26, _, _, _, _, _⟩) rfl (fun K hK => ?_) AllReadyH.nil
    refine step_copyB elB_u8 (.tmp 23) (.tmp 25) (by rfl) (by rfl) (by rfl) (by rfl) (RA.out.below hHeld) (by omega) (by decide) ?_
    intro A1 c1 w1 hc1 hr1 hb1
    refine hK.out _ _ ?_ (fun hHeld => ?_)
    · (try dsimp only); first | exact Below.refl _ _ | exact (Qw.refl wa).drew.below _ | exact hHeld.alloc hHeld.size _ | exact hHeld.trans (hb1.mono hHeld.size) | exact hHeld.trans (hb2.mono hHeld.size)
    clear hK K
    try simp only [Act.put, List.setIfInBounds_toArray, List.set_cons_zero, List.set_cons_succ]
    refine wpAnyH_ready (rs := [7]) (by kernel_rfl) (by simp) ?_
    refine AllReadyH.cons (o := ⟨some 30, _, _, _, _, _⟩) rfl (fun K hK => ?_) AllReadyH.nil
    refine step_copyB elB_u8 (.tmp 27) (.tmp 29) (by rfl) (by rfl) (by rfl) (by rfl) (RB.out.below hHeld) (by omega) (by decide) ?_
    intro A2 c2 w2 hc2 hr2 hb2
    refine hK.out _ _ ?_ (fun hHeld => ?_)
    · (try dsimp only); first | exact Below.refl _ _ | exact (Qw.refl wa).drew.below _ | exact hHeld.alloc hHeld.size _ | exact hHeld.trans (hb1.mono hHeld.size) | exact hHeld.trans (hb2.mono hHeld.size)
    clear hK K
    try simp only [Act.put, List.setIfInBounds_toArray, List.set_cons_zero, List.set_cons_succ]
    refine wpAnyH_take (i := 8) (oi := ⟨some 3, _, _, _, _, _⟩) (v := ?_) rfl (by kernel_rfl) (by kernel_rfl) (by kernel_rfl) (fun _ _ _ h => h) (Or.inl ⟨by rfl, ?_⟩) (by assumption) ?_
    rotate_left
    · (intro w hSw; (try dsimp only at hSw); go_simp; try with_reducible rfl)
    try simp only [Act.put, List.setIfInBounds_toArray, List.set_cons_zero, List.set_cons_succ]
    refine wpAnyH_take (i := 9) (oi := ⟨some 4, _, _, _, _, _⟩) (v := ?_) rfl (by kernel_rfl) (by kernel_rfl) (by kernel_rfl) (fun _ _ _ h => h) (Or.inl ⟨by rfl, ?_⟩) (by assumption) ?_
    rotate_left
    · (intro w hSw; (try dsimp only at hSw); go_simp; try with_reducible rfl)
    try simp only [Act.put, List.setIfInBounds_toArray, List.set_cons_zero, List.set_cons_succ]
    refine wpAnyH_done (by kernel_rfl) ?_ _
    go_wp2_with fail; go_meet
    exact Copies.a hr1 hr2 (by first | exact hb2 | exact ((Below.refl w1.heap.size w1).alloc (Nat.le_refl _) _).trans (hb2.mono (by simp))) hHeld hc1 hc2
  case rest => as_aux_lemma =>
    obtain ⟨w1, hw1⟩ : ∃ x, x = wc := ⟨_, rfl⟩
    subst hw1
    obtain ⟨A1, c1, A2, c2, rfl, rfl, hc1, hc2, hr1, hr2, hb1⟩ := hcut
    have s1 := hb1.size
    have B1 : Below w.heap.size w w1 := Ba.trans (hb1.mono (by omega))
    have x01 := bcells hb1 x0a; clear x0a
    have x11 := bcells hb1 x1a; clear x1a
    have x21 := bcells hb1 x2a; clear x2a
    have x31 := bcells hb1 x3a; clear x3a
    have SEC1 := Lib.hid ((RA.out.below hb1).mono s1); have COI1 := Lib.hid ((RB.out.below hb1).mono s1); have P1 := Lib.hid hr1; have Q1 := Lib.hid hr2; clear hr1 hr2 RA RB hb1
    have NO : Hid (∀ w : World, Calls Try.prog 16 #[.slice A1 n c1, .int .i64 N, .int .i64 K, .slice A2 m c2] w fun e w' => e = .returned (.tuple #[.slice none 0 0, .int .i64 E]) ∧ w = w') := Lib.hid (fun w => Split_no A1 A2 n c1 m c2 N K E w HE.out)
    go_wp2_with fail
    refine (NO.out _).mono ?_
    rintro e w' ⟨rfl, rfl⟩
    go_wp2_with fail
    refine (same_yes _ _ _ _ _ _ sec _ _ HS.out (P1.out) (SEC1.out)).mono ?_
    rintro e w' ⟨rfl, rfl⟩
    go_wp2_with fail
    refine (same_yes _ _ _ _ _ _ co _ _ HCO.out (Q1.out) (COI1.out)).mono ?_
    rintro e w' ⟨rfl, rfl⟩
    rcases HE.out with ⟨h1, rfl⟩ | ⟨h1, h2, rfl⟩ | ⟨h1, h2, h3, rfl⟩ | ⟨h1, h2, h3, h4, rfl⟩ | ⟨h1, h2, h3, h4, h5, rfl⟩ | ⟨h1, h2, h3, h4, h5, h6, rfl⟩
    · have i1 : (256 : Int) < (n : Int) := by omega
      clear NO HE
      go_wp2_with (go_at_call 15; refine (known_any _).mono ?_; rintro e w9 ⟨rfl, hb9⟩)
      go_ret
      exact ⟨rfl, B1.trans (hb9.mono (by omega))⟩
    · have i1 : (n : Int) ≤ 256 := by omega
      clear NO HE
      go_wp2_with (go_at_call 15; refine (known_any _).mono ?_; rintro e w9 ⟨rfl, hb9⟩)
      go_ret
      exact ⟨rfl, B1.trans (hb9.mono (by omega))⟩
    · have i1 : (n : Int) ≤ 256 := by omega
      clear NO HE
      go_wp2_with (go_at_call 15; refine (known_any _).mono ?_; rintro e w9 ⟨rfl, hb9⟩)
      go_ret
      exact ⟨rfl, B1.trans (hb9.mono (by omega))⟩
    · have i1 : (n : Int) ≤ 256 := by omega
      clear NO HE
      go_wp2_with (go_at_call 15; refine (known_any _).mono ?_; rintro e w9 ⟨rfl, hb9⟩)
      go_ret
      exact ⟨rfl, B1.trans (hb9.mono (by omega))⟩
    · have i1 : (n : Int) ≤ 256 := by omega
      clear NO HE
      go_wp2_with (go_at_call 15; refine (known_any _).mono ?_; rintro e w9 ⟨rfl, hb9⟩)
      go_ret
      exact ⟨rfl, B1.trans (hb9.mono (by omega))⟩
    · have i1 : (n : Int) ≤ 256 := by omega
      obtain ⟨e1, e2⟩ := mul_small h1 h4 h5 h3
      rw [← e2] at h6
      clear e1 e2
      clear NO HE
      go_wp2_with (go_at_call 15; refine (known_any _).mono ?_; rintro e w9 ⟨rfl, hb9⟩)
      go_ret
      exact ⟨rfl, B1.trans (hb9.mono (by omega))⟩
set_option maxRecDepth 100000 in
theorem Split_big (A A' : Option Addr) (n c m c' : Nat) (N K : Int) (w : World) (hn : n ≤ 9223372036854775807) (hm : m ≤ 9223372036854775807) (h : 300 < n ∨ 5000 < m) :
    Calls Try.prog 3 #[.agg #[.slice A n c, .int .i64 N, .int .i64 K, .slice A' m c']] w fun e w' => e = .returned (.bool true) ∧ Below w.heap.size w w' := by
  by_cases g : 300 < n
  · have g1 : (300 : Int) < (n : Int) := by omega
    clear h g
    go_enter Try.func3, Try.ntmps3
    go_wp2_with (go_at_call 15; refine (known_any _).mono ?_; rintro e w9 ⟨rfl, hb9⟩)
    go_ret
    exact ⟨rfl, ((Below.refl _ _).alloc (Nat.le_refl _) _).trans (hb9.mono (by simp))⟩
  · have g1 : (n : Int) ≤ 300 := by omega
    have g2 : (5000 : Int) < (m : Int) := by omega
    clear h g
    go_enter Try.func3, Try.ntmps3
    go_wp2_with (go_at_call 15; refine (known_any _).mono ?_; rintro e w9 ⟨rfl, hb9⟩)
    go_ret
    exact ⟨rfl, ((Below.refl _ _).alloc (Nat.le_refl _) _).trans (hb9.mono (by simp))⟩
theorem AlgebraSplit_walk (v0 : Value) (i0 : CaseArg) (w : World) (hx0 : IsCase w v0 i0) :
    Calls Try.prog 3 #[v0] w fun e w' => e = .returned (.bool true) ∧ Below w.heap.size w w' := by
  obtain ⟨u0, u3, rfl, ⟨rfl, a1, a2, a3, a4, a5⟩, hN, hK, ⟨rfl, b1, b2, b3, b4, b5⟩⟩ := hx0
  by_cases h : 300 < i0.f0.n ∨ 5000 < i0.f3.n
  · exact Split_big _ _ _ _ _ _ _ _ w (by omega) (by omega) h
  · by_cases hok : i0.f0.n ≤ 256 ∧ 1 ≤ i0.f1 ∧ i0.f1 ≤ 16 ∧ 1 ≤ i0.f2 ∧ i0.f2 ≤ i0.f1 ∧ (i0.f3.n : Int) = (i0.f0.n : Int) * (i0.f2 - 1)
    · obtain ⟨h1, h2, h3, h4, h5, h6⟩ := hok
      obtain ⟨N, hNe⟩ := Int.eq_ofNat_of_zero_le (show 0 ≤ i0.f1 by omega)
      obtain ⟨q, hq⟩ := Int.eq_ofNat_of_zero_le (show 0 ≤ i0.f2 - 1 by omega)
      have hq2 : i0.f2 = (q : Int) + 1 := by omega
      rw [hq] at h6
      rw [hNe, hq2]
      exact SplitLaw_yes _ _ _ _ _ _ N q i0.f0.l i0.f3.l w h1 (by omega) (by omega) (by omega) (by exact_mod_cast h6) a1 b1 a4 b4 a5 b5
    · refine SplitLaw_no _ _ _ _ _ _ _ _ (if 256 < i0.f0.n then 4 else if i0.f1 < 1 ∨ 16 < i0.f1 ∨ i0.f2 < 1 ∨ i0.f1 < i0.f2 then 3 else 22) i0.f0.l i0.f3.l w (by omega) (by omega) ?_ a1 b1 a4 b4 a5 b5
      unfold SplitNo
      rw [bne_iff_ne]
      generalize (i0.f0.n : Int) * (i0.f2 - 1) = M at hok ⊢
      split
      · omega
      · split
        · omega
        · omega
end Go.Proofs.Ytahfkhnhmnjbeaa
