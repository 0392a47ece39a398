/- The walk of AlgebraForms: it returns true for any forms. -/
import Derived.Test.YtahfkhnhmnjbeaaForms3
import Derived.Test.YtahfkhnhmnjbeaaKnown
import Derived.Test.YtahfkhnhmnjbeaaToepWalk
import Derived.Test.YtahfkhnhmnjbeaaFieldWalk
import Derived.Deep.RegionHeld3
import Derived.Deep.RegionWith
import Derived.Deep.DrawnRows
import Derived.Deep.DeepCutAuto
import Derived.Deep.CutBlock
namespace Go.Proofs.Ytahfkhnhmnjbeaa
open Go.RowKit
set_option linter.unusedVariables false
attribute [local go_sem ↓] Go.wp_at_zero Go.wp_at_succ
theorem undrew {w w' : World} {d : Nat} (h : Below (w.drewN d).heap.size (w.drewN d) w') : Below w.heap.size w w' := ⟨h.os, h.tape, h.output, h.size, h.block⟩
theorem undrew1 {w w' : World} (h : Below w.drew.heap.size w.drew w') : Below w.heap.size w w' := undrew (d := 1) h
theorem Parse_two (s : ByteArray) (hs : s.size ≤ 1073741824) : ∃ (E : Int) (I : Bool), ((E = 0 ∧ I = true) ∨ (E = 6 ∧ I = false)) ∧
    (∀ w, Calls Try.prog 52 #[.string s] w fun e w' => ∃ A n c, e = .returned (.tuple #[.slice A n c, .int .i64 E]) ∧ n ≤ s.size ∧ Rd w' w'.heap.size 1 A n ((parL s).map Value.bool) ∧ Below w.heap.size w w') ∧
    (∀ w, Calls Try.prog 53 #[.string s] w fun e w' => ∃ A n c, e = .returned (.tuple #[.slice A n c, .bool I]) ∧ n ≤ s.size ∧ Rd w' w'.heap.size 1 A n ((parL s).map Value.bool) ∧ Below w.heap.size w w') := by
  refine ⟨parE s, isAB s, ?_, fun w => Parse_all s w hs, fun w => refParse_all s w hs⟩
  unfold parE; cases isAB s <;> simp
theorem Word_two (b : BitsArg) (hb : b.n ≤ 800) : ∃ (V : Nat) (E : Int), ((64 < b.n ∧ V = 0 ∧ E = 4) ∨ (b.n ≤ 64 ∧ V = wordV b.bs ∧ E = 0)) ∧
    (∀ w, Rd w w.heap.size 1 b.A b.n (b.bs.map Value.bool) → Calls Try.prog 58 #[.slice b.A b.n b.c] w fun e w' => e = .returned (.tuple #[.int .u64 V, .int .i64 E]) ∧ w = w') := by
  by_cases h : 64 < b.n
  · exact ⟨0, 4, .inl ⟨h, rfl, rfl⟩, fun w _ => Word_long _ _ _ w h (by omega)⟩
  · exact ⟨wordV b.bs, 0, .inr ⟨by omega, rfl, rfl⟩, fun w hr => Word_any _ _ _ _ w _ (by omega) hr⟩
theorem Fits_yes (a width : Nat) (w : World) (ha : a < 18446744073709551616) (hw : width ≤ 64) (h : a < 2 ^ width) :
    Calls Try.prog 35 #[.int .u64 a, .int .i64 width] w fun e w' => e = .returned (.bool true) ∧ w = w' := by
  have := Fits_wide a width w ha hw; rwa [decide_eq_true h] at this
theorem Fits_no (a width : Nat) (w : World) (ha : a < 18446744073709551616) (hw : width ≤ 64) (h : ¬ a < 2 ^ width) :
    Calls Try.prog 35 #[.int .u64 a, .int .i64 width] w fun e w' => e = .returned (.bool false) ∧ w = w' := by
  have := Fits_wide a width w ha hw; rwa [decide_eq_false h] at this
def NumIs (N : Nat) (W : Int) (w' : World) (A : Option Addr) (n : Nat) (E : Int) : Prop :=
  (W < 0 ∧ E = 3 ∧ n = 0) ∨ (0 ≤ W ∧ 64 < W ∧ E = 3 ∧ n = 0) ∨ (∃ q : Nat, W = q ∧ q ≤ 64 ∧ ¬ N < 2 ^ q ∧ E = 8 ∧ n = 0) ∨
  (∃ q : Nat, W = q ∧ q ≤ 64 ∧ N < 2 ^ q ∧ E = 0 ∧ n = q ∧ Rd w' w'.heap.size 1 A q ((numL N q).map Value.bool))
theorem Number_three (N : Nat) (W : Int) (hN : N < 18446744073709551616) (w : World) :
    Calls Try.prog 59 #[.int .u64 N, .int .i64 W] w fun e w' => ∃ A n c E, e = .returned (.tuple #[.slice A n c, .int .i64 E]) ∧ NumIs N W w' A n E ∧ Below w.heap.size w w' := by
  by_cases h0 : W < 0
  · exact (Number_range N W w (.inl h0)).mono fun e w' ⟨he, hw⟩ => ⟨none, 0, 0, 3, he, .inl ⟨h0, rfl, rfl⟩, hw ▸ Below.refl _ _⟩
  by_cases h1 : 64 < W
  · exact (Number_range N W w (.inr h1)).mono fun e w' ⟨he, hw⟩ => ⟨none, 0, 0, 3, he, .inr (.inl ⟨by omega, h1, rfl, rfl⟩), hw ▸ Below.refl _ _⟩
  obtain ⟨q, rfl⟩ := Int.eq_ofNat_of_zero_le (show 0 ≤ W by omega)
  by_cases h2 : N < 2 ^ q
  · exact (Number_any N q w hN (by omega) h2).mono fun e w' ⟨A, c, he, _, hown, hb⟩ => ⟨A, q, c, 0, he, .inr (.inr (.inr ⟨q, rfl, by omega, h2, rfl, rfl, Rd.own hown⟩)), hb⟩
  · exact (Number_over N q w hN (by omega) h2).mono fun e w' ⟨he, hw⟩ => ⟨none, 0, 0, 8, he, .inr (.inr (.inl ⟨q, rfl, by omega, h2, rfl, rfl⟩)), hw ▸ Below.refl _ _⟩
set_option maxRecDepth 100000 in
set_option maxHeartbeats 4000000 in
theorem Forms_try (b : BitsArg) (s : ByteArray) (N : Nat) (W : Int) (p : BytesArg) (K : Int) (w : World)
    (hb8 : b.n ≤ 800) (hs8 : s.size ≤ 800) (hp1 : p.n ≤ 100)
    (hb : Rd w w.heap.size 1 b.A b.n (b.bs.map Value.bool)) (hp : Rd w w.heap.size 1 p.A p.n (p.l.map fun x : Nat => Value.int .u8 x)) (hpl : ∀ x ∈ p.l, x < 256) (hN : N < 18446744073709551616) (hK : K ≤ 9223372036854775807) :
    Calls Try.prog 14 #[.agg #[.slice b.A b.n b.c, .string s, .int .u64 N, .int .i64 W, .slice p.A p.n p.c, .int .i64 K]] w fun e w' => e = .returned (.bool true) ∧ Below w.heap.size w w' := by
  have HB := Lib.hid hb; have HP := Lib.hid hp; have HPL := Lib.hid hpl
  obtain ⟨E, I, hEI, hP1, hP2⟩ := Parse_two s (by omega)
  have HEI := Lib.hid hEI; have HP1 := Lib.hid hP1; have HP2 := Lib.hid hP2
  clear hb hp hpl hEI hP1 hP2
  have g1 : (b.n : Int) ≤ 800 := by omega
  have g2 : (s.size : Int) ≤ 800 := by omega
  have g3 : (p.n : Int) ≤ 100 := by omega
  go_enter Try.func14, Try.ntmps14
  go_wp2_with fail
  refine (HP1.out _).mono ?_
  rintro e w1 ⟨A1, n1, c1, rfl, hn1, hr1, hb1⟩
  have z0 : w.heap.size < w1.heap.size := by have := hb1.size; simp at this; omega
  have B1 : Below w.heap.size w w1 := ((Below.refl _ _).alloc (Nat.le_refl _) _).trans (hb1.mono (by simp))
  have xa1 : w1.cell? ⟨w.heap.size, 0, none⟩ = some (.slice b.A b.n b.c) := (hb1.cell (p := ⟨w.heap.size, 0, none⟩) (by simp)).trans (by simp [World.cell?_alloc_new])
  have xb1 : w1.cell? ⟨w.heap.size, 1, none⟩ = some (.string s) := (hb1.cell (p := ⟨w.heap.size, 1, none⟩) (by simp)).trans (by simp [World.cell?_alloc_new])
  have xc1 : w1.cell? ⟨w.heap.size, 2, none⟩ = some (.int .u64 N) := (hb1.cell (p := ⟨w.heap.size, 2, none⟩) (by simp)).trans (by simp [World.cell?_alloc_new])
  have xd1 : w1.cell? ⟨w.heap.size, 3, none⟩ = some (.int .i64 W) := (hb1.cell (p := ⟨w.heap.size, 3, none⟩) (by simp)).trans (by simp [World.cell?_alloc_new])
  have xe1 : w1.cell? ⟨w.heap.size, 4, none⟩ = some (.slice p.A p.n p.c) := (hb1.cell (p := ⟨w.heap.size, 4, none⟩) (by simp)).trans (by simp [World.cell?_alloc_new])
  have xf1 : w1.cell? ⟨w.heap.size, 5, none⟩ = some (.int .i64 K) := (hb1.cell (p := ⟨w.heap.size, 5, none⟩) (by simp)).trans (by simp [World.cell?_alloc_new])
  have L1 := Lib.hid hr1; clear hr1 hb1
  have HB1 := Lib.hid ((HB.out.below B1).mono (by omega) : Rd w1 w1.heap.size 1 b.A b.n (b.bs.map Value.bool)); clear HB
  have HPb1 := Lib.hid ((HP.out.below B1).mono (by omega) : Rd w1 w1.heap.size 1 p.A p.n (p.l.map fun x : Nat => Value.int .u8 x)); clear HP
  go_wp2_with fail
  refine (HP2.out _).mono ?_
  rintro e w2 ⟨A2, n2, c2, rfl, hn2, hr2, hb2⟩
  have s2 := hb2.size
  have B2 : Below w.heap.size w w2 := B1.trans (hb2.mono (by omega))
  have L2 := Lib.hid ((L1.out.below hb2).mono s2); clear L1
  have HB2 := Lib.hid ((HB1.out.below hb2).mono s2); clear HB1
  have HPb2 := Lib.hid ((HPb1.out.below hb2).mono s2); clear HPb1
  have xa2 := (hb2.cell (p := ⟨w.heap.size, 0, none⟩) (by simp only; omega)).trans xa1; clear xa1
  have xb2 := (hb2.cell (p := ⟨w.heap.size, 1, none⟩) (by simp only; omega)).trans xb1; clear xb1
  have xc2 := (hb2.cell (p := ⟨w.heap.size, 2, none⟩) (by simp only; omega)).trans xc1; clear xc1
  have xd2 := (hb2.cell (p := ⟨w.heap.size, 3, none⟩) (by simp only; omega)).trans xd1; clear xd1
  have xe2 := (hb2.cell (p := ⟨w.heap.size, 4, none⟩) (by simp only; omega)).trans xe1; clear xe1
  have xf2 := (hb2.cell (p := ⟨w.heap.size, 5, none⟩) (by simp only; omega)).trans xf1; clear xf1
  have M2 := Lib.hid hr2; clear hr2
  go_wp2_with fail
  go_cut [80] (fun s80 wx => s80 = .bool false ∧ Below w2.heap.size w2 wx)
  case first => as_aux_lemma =>
    rcases HEI.out with ⟨rfl, rfl⟩ | ⟨rfl, rfl⟩
    · as_aux_lemma =>
      clear HEI HP1 HP2
      refine wp_region_noPanic ?_
      refine wp_region_held_drew (S := fun w' => w'.cell? ⟨w.heap.size, 0, none⟩ = some (.slice b.A b.n b.c)) (by kernel_rfl) ?_ (fun hHeld => ?_)
      · (try dsimp only); assumption
      refine wpAnyH_take (i := 0) (oi := ⟨some 44, _, _, _, _, _⟩) (v := ?_) rfl (by kernel_rfl) (by kernel_rfl) (by kernel_rfl) (fun _ _ _ h => h) (Or.inl ⟨by rfl, ?_⟩) (by assumption) ?_
      rotate_left
      · (intro w hSw; (try dsimp only at hSw); go_simp; try with_reducible rfl)
      try simp only [Act.put, List.setIfInBounds_toArray, List.set_cons_zero, List.set_cons_succ]
      refine wpAnyH_take (i := 1) (oi := ⟨some 45, _, _, _, _, _⟩) (v := ?_) rfl (by kernel_rfl) (by kernel_rfl) (by kernel_rfl) (fun _ _ _ h => h) (Or.inl ⟨by rfl, ?_⟩) (by assumption) ?_
      rotate_left
      · (intro w hSw; (try dsimp only at hSw); go_simp; try with_reducible rfl)
      try simp only [Act.put, List.setIfInBounds_toArray, List.set_cons_zero, List.set_cons_succ]
      refine wpAnyH_take (i := 3) (oi := ⟨some 47, _, _, _, _, _⟩) (v := ?_) rfl (by kernel_rfl) (by kernel_rfl) (by kernel_rfl) (fun _ _ _ h => h) (Or.inl ⟨by rfl, ?_⟩) (by assumption) ?_
      rotate_left
      · (intro w hSw; (try dsimp only at hSw); go_simp; try with_reducible rfl)
      try simp only [Act.put, List.setIfInBounds_toArray, List.set_cons_zero, List.set_cons_succ]
      refine wpAnyH_take (i := 4) (oi := ⟨some 48, _, _, _, _, _⟩) (v := ?_) rfl (by kernel_rfl) (by kernel_rfl) (by kernel_rfl) (fun _ _ _ h => h) (Or.inl ⟨by rfl, ?_⟩) (by assumption) ?_
      rotate_left
      · (intro w hSw; (try dsimp only at hSw); go_simp; try with_reducible rfl)
      try simp only [Act.put, List.setIfInBounds_toArray, List.set_cons_zero, List.set_cons_succ]
      refine wpAnyH_ready (rs := [2]) (by kernel_rfl) (by simp) ?_
      refine AllReadyH.cons (o := ⟨some 46, _, _, _, _, _⟩) rfl (fun K hK => ?_) AllReadyH.nil
      go_simp
      (go_at_call 54; refine (Text_any _ _ _ b.bs _ (by omega) (HB2.out.drew)).mono ?_; rintro e w3 ⟨rfl, hb3⟩; replace hb3 := undrew1 hb3; have s3 := hb3.size; have B3 : Below w.heap.size w w3 := B2.trans (hb3.mono (by omega)); have L3 := Lib.hid ((L2.out.below hb3).mono s3); clear L2; have HB3 := Lib.hid ((HB2.out.below hb3).mono s3); clear HB2; have HPb3 := Lib.hid ((HPb2.out.below hb3).mono s3); clear HPb2; have M3 := Lib.hid ((M2.out.below hb3).mono s3); clear M2; have xa3 := (hb3.cell (p := ⟨w.heap.size, 0, none⟩) (by simp only; omega)).trans xa2; clear xa2; have xb3 := (hb3.cell (p := ⟨w.heap.size, 1, none⟩) (by simp only; omega)).trans xb2; clear xb2; have xc3 := (hb3.cell (p := ⟨w.heap.size, 2, none⟩) (by simp only; omega)).trans xc2; clear xc2; have xd3 := (hb3.cell (p := ⟨w.heap.size, 3, none⟩) (by simp only; omega)).trans xd2; clear xd2; have xe3 := (hb3.cell (p := ⟨w.heap.size, 4, none⟩) (by simp only; omega)).trans xe2; clear xe2; have xf3 := (hb3.cell (p := ⟨w.heap.size, 5, none⟩) (by simp only; omega)).trans xf2; clear xf2)
      go_wp2_with fail
      refine hK.out _ _ ?_ (fun hHeld => ?_)
      · (try dsimp only); assumption
      clear hK K
      try simp only [Act.put, List.setIfInBounds_toArray, List.set_cons_zero, List.set_cons_succ]
      refine wpAnyH_ready (rs := [5]) (by kernel_rfl) (by simp) ?_
      refine AllReadyH.cons (o := ⟨some 49, _, _, _, _, _⟩) rfl (fun K hK => ?_) AllReadyH.nil
      go_simp
      (go_at_call 55; refine (refText_any _ _ _ b.bs _ (by omega) (HB3.out)).mono ?_; rintro e w4 ⟨rfl, hb4⟩; have s4 := hb4.size; have B4 : Below w.heap.size w w4 := B3.trans (hb4.mono (by omega)); have L4 := Lib.hid ((L3.out.below hb4).mono s4); clear L3; have HB4 := Lib.hid ((HB3.out.below hb4).mono s4); clear HB3; have HPb4 := Lib.hid ((HPb3.out.below hb4).mono s4); clear HPb3; have M4 := Lib.hid ((M3.out.below hb4).mono s4); clear M3; have xa4 := (hb4.cell (p := ⟨w.heap.size, 0, none⟩) (by simp only; omega)).trans xa3; clear xa3; have xb4 := (hb4.cell (p := ⟨w.heap.size, 1, none⟩) (by simp only; omega)).trans xb3; clear xb3; have xc4 := (hb4.cell (p := ⟨w.heap.size, 2, none⟩) (by simp only; omega)).trans xc3; clear xc3; have xd4 := (hb4.cell (p := ⟨w.heap.size, 3, none⟩) (by simp only; omega)).trans xd3; clear xd3; have xe4 := (hb4.cell (p := ⟨w.heap.size, 4, none⟩) (by simp only; omega)).trans xe3; clear xe3; have xf4 := (hb4.cell (p := ⟨w.heap.size, 5, none⟩) (by simp only; omega)).trans xf3; clear xf3)
      go_wp2_with fail
      refine hK.out _ _ ?_ (fun hHeld => ?_)
      · (try dsimp only); assumption
      clear hK K
      try simp only [Act.put, List.setIfInBounds_toArray, List.set_cons_zero, List.set_cons_succ]
      refine wpAnyH_take (i := 6) (oi := ⟨some 50, _, _, _, _, _⟩) (v := ?_) rfl (by kernel_rfl) (by kernel_rfl) (by kernel_rfl) (fun _ _ _ h => h) (Or.inl ⟨by rfl, ?_⟩) (by assumption) ?_
      rotate_left
      · (intro w hSw; (try dsimp only at hSw); go_simp; try with_reducible rfl)
      try simp only [Act.put, List.setIfInBounds_toArray, List.set_cons_zero, List.set_cons_succ]
      refine wpAnyH_take (i := 7) (oi := ⟨some 51, _, _, _, _, _⟩) (v := ?_) rfl (by kernel_rfl) (by kernel_rfl) (by kernel_rfl) (fun _ _ _ h => h) (Or.inl ⟨by rfl, ?_⟩) (by assumption) ?_
      rotate_left
      · (intro w hSw; (try dsimp only at hSw); go_simp; try with_reducible rfl)
      try simp only [Act.put, List.setIfInBounds_toArray, List.set_cons_zero, List.set_cons_succ]
      refine wpAnyH_take (i := 8) (oi := ⟨some 52, _, _, _, _, _⟩) (v := ?_) rfl (by kernel_rfl) (by kernel_rfl) (by kernel_rfl) (fun _ _ _ h => h) (Or.inl ⟨by rfl, ?_⟩) (by assumption) ?_
      rotate_left
      · (intro w hSw; (try dsimp only at hSw); go_simp; try with_reducible rfl)
      try simp only [Act.put, List.setIfInBounds_toArray, List.set_cons_zero, List.set_cons_succ]
      refine wpAnyH_take (i := 9) (oi := ⟨some 53, _, _, _, _, _⟩) (v := ?_) rfl (by kernel_rfl) (by kernel_rfl) (by kernel_rfl) (fun _ _ _ h => h) (Or.inl ⟨by rfl, ?_⟩) (by assumption) ?_
      rotate_left
      · (intro w hSw; (try dsimp only at hSw); go_simp; try with_reducible rfl)
      try simp only [Act.put, List.setIfInBounds_toArray, List.set_cons_zero, List.set_cons_succ]
      refine wpAnyH_take (i := 11) (oi := ⟨some 55, _, _, _, _, _⟩) (v := ?_) rfl (by kernel_rfl) (by kernel_rfl) (by kernel_rfl) (fun _ _ _ h => h) (Or.inl ⟨by rfl, ?_⟩) (by assumption) ?_
      rotate_left
      · (intro w hSw; (try dsimp only at hSw); go_simp; try with_reducible rfl)
      try simp only [Act.put, List.setIfInBounds_toArray, List.set_cons_zero, List.set_cons_succ]
      refine wpAnyH_take (i := 12) (oi := ⟨some 56, _, _, _, _, _⟩) (v := ?_) rfl (by kernel_rfl) (by kernel_rfl) (by kernel_rfl) (fun _ _ _ h => h) (Or.inl ⟨by rfl, ?_⟩) (by assumption) ?_
      rotate_left
      · (intro w hSw; (try dsimp only at hSw); go_simp; try with_reducible rfl)
      try simp only [Act.put, List.setIfInBounds_toArray, List.set_cons_zero, List.set_cons_succ]
      refine wpAnyH_ready (rs := [10]) (by kernel_rfl) (by simp) ?_
      refine AllReadyH.cons (o := ⟨some 54, _, _, _, _, _⟩) rfl (fun K hK => ?_) AllReadyH.nil
      go_simp
      (go_at_call 56; refine (Pack_any _ _ _ b.bs _ (by omega) (HB4.out)).mono ?_; rintro e w5 ⟨A5, c5, rfl, hc5, hown5, hb5⟩; have s5 := hb5.size; have B5 : Below w.heap.size w w5 := B4.trans (hb5.mono (by omega)); have L5 := Lib.hid ((L4.out.below hb5).mono s5); clear L4; have HB5 := Lib.hid ((HB4.out.below hb5).mono s5); clear HB4; have HPb5 := Lib.hid ((HPb4.out.below hb5).mono s5); clear HPb4; have M5 := Lib.hid ((M4.out.below hb5).mono s5); clear M4; have xa5 := (hb5.cell (p := ⟨w.heap.size, 0, none⟩) (by simp only; omega)).trans xa4; clear xa4; have xb5 := (hb5.cell (p := ⟨w.heap.size, 1, none⟩) (by simp only; omega)).trans xb4; clear xb4; have xc5 := (hb5.cell (p := ⟨w.heap.size, 2, none⟩) (by simp only; omega)).trans xc4; clear xc4; have xd5 := (hb5.cell (p := ⟨w.heap.size, 3, none⟩) (by simp only; omega)).trans xd4; clear xd4; have xe5 := (hb5.cell (p := ⟨w.heap.size, 4, none⟩) (by simp only; omega)).trans xe4; clear xe4; have xf5 := (hb5.cell (p := ⟨w.heap.size, 5, none⟩) (by simp only; omega)).trans xf4; clear xf4; have P5 := Lib.hid (Rd.own hown5); clear hown5; try dsimp only [id])
      go_wp2_with fail
      refine hK.out _ _ ?_ (fun hHeld => ?_)
      · (try dsimp only); assumption
      clear hK K
      try simp only [Act.put, List.setIfInBounds_toArray, List.set_cons_zero, List.set_cons_succ]
      refine wpAnyH_ready (rs := [13]) (by kernel_rfl) (by simp) ?_
      refine AllReadyH.cons (o := ⟨some 57, _, _, _, _, _⟩) rfl (fun K hK => ?_) AllReadyH.nil
      go_simp
      (go_at_call 57; refine (refPack_any _ _ _ b.bs _ (by omega) (HB5.out)).mono ?_; rintro e w6 ⟨A6, c6, rfl, hc6, hown6, hb6⟩; have s6 := hb6.size; have B6 : Below w.heap.size w w6 := B5.trans (hb6.mono (by omega)); have L6 := Lib.hid ((L5.out.below hb6).mono s6); clear L5; have HB6 := Lib.hid ((HB5.out.below hb6).mono s6); clear HB5; have HPb6 := Lib.hid ((HPb5.out.below hb6).mono s6); clear HPb5; have M6 := Lib.hid ((M5.out.below hb6).mono s6); clear M5; have P6 := Lib.hid ((P5.out.below hb6).mono s6); clear P5; have xa6 := (hb6.cell (p := ⟨w.heap.size, 0, none⟩) (by simp only; omega)).trans xa5; clear xa5; have xb6 := (hb6.cell (p := ⟨w.heap.size, 1, none⟩) (by simp only; omega)).trans xb5; clear xb5; have xc6 := (hb6.cell (p := ⟨w.heap.size, 2, none⟩) (by simp only; omega)).trans xc5; clear xc5; have xd6 := (hb6.cell (p := ⟨w.heap.size, 3, none⟩) (by simp only; omega)).trans xd5; clear xd5; have xe6 := (hb6.cell (p := ⟨w.heap.size, 4, none⟩) (by simp only; omega)).trans xe5; clear xe5; have xf6 := (hb6.cell (p := ⟨w.heap.size, 5, none⟩) (by simp only; omega)).trans xf5; clear xf5; have Q6 := Lib.hid (Rd.own hown6); clear hown6; try dsimp only [id])
      go_wp2_with fail
      refine hK.out _ _ ?_ (fun hHeld => ?_)
      · (try dsimp only); assumption
      clear hK K
      try simp only [Act.put, List.setIfInBounds_toArray, List.set_cons_zero, List.set_cons_succ]
      refine wpAnyH_ready (rs := [14]) (by kernel_rfl) (by simp) ?_
      refine AllReadyH.cons (o := ⟨some 58, _, _, _, _, _⟩) rfl (fun K hK => ?_) AllReadyH.nil
      go_simp
      (go_at_call 17; refine (same_any _ _ _ _ _ _ _ _ _ _ (P6.out) (Q6.out)).mono ?_; rintro e w' ⟨rfl, rfl⟩)
      go_wp2_with fail
      refine hK.out _ _ ?_ (fun hHeld => ?_)
      · (try dsimp only); assumption
      clear hK K
      try simp only [Act.put, List.setIfInBounds_toArray, List.set_cons_zero, List.set_cons_succ]
      refine wpAnyH_take (i := 15) (oi := ⟨some 59, _, _, _, _, _⟩) (v := ?_) rfl (by kernel_rfl) (by kernel_rfl) (by kernel_rfl) (fun _ _ _ h => h) (Or.inl ⟨by rfl, ?_⟩) (by assumption) ?_
      rotate_left
      · (intro w hSw; (try dsimp only at hSw); go_simp; try with_reducible rfl)
      try simp only [Act.put, List.setIfInBounds_toArray, List.set_cons_zero, List.set_cons_succ]
      refine wpAnyH_take (i := 16) (oi := ⟨some 60, _, _, _, _, _⟩) (v := ?_) rfl (by kernel_rfl) (by kernel_rfl) (by kernel_rfl) (fun _ _ _ h => h) (Or.inl ⟨by rfl, ?_⟩) (by assumption) ?_
      rotate_left
      · (intro w hSw; (try dsimp only at hSw); go_simp; try with_reducible rfl)
      try simp only [Act.put, List.setIfInBounds_toArray, List.set_cons_zero, List.set_cons_succ]
      refine wpAnyH_take (i := 17) (oi := ⟨some 61, _, _, _, _, _⟩) (v := ?_) rfl (by kernel_rfl) (by kernel_rfl) (by kernel_rfl) (fun _ _ _ h => h) (Or.inl ⟨by rfl, ?_⟩) (by assumption) ?_
      rotate_left
      · (intro w hSw; (try dsimp only at hSw); go_simp; try with_reducible rfl)
      try simp only [Act.put, List.setIfInBounds_toArray, List.set_cons_zero, List.set_cons_succ]
      refine wpAnyH_take (i := 18) (oi := ⟨some 62, _, _, _, _, _⟩) (v := ?_) rfl (by kernel_rfl) (by kernel_rfl) (by kernel_rfl) (fun _ _ _ h => h) (Or.inl ⟨by rfl, ?_⟩) (by assumption) ?_
      rotate_left
      · (intro w hSw; (try dsimp only at hSw); go_simp; try with_reducible rfl)
      try simp only [Act.put, List.setIfInBounds_toArray, List.set_cons_zero, List.set_cons_succ]
      refine wpAnyH_take (i := 19) (oi := ⟨some 63, _, _, _, _, _⟩) (v := ?_) rfl (by kernel_rfl) (by kernel_rfl) (by kernel_rfl) (fun _ _ _ h => h) (Or.inl ⟨by rfl, ?_⟩) (by assumption) ?_
      rotate_left
      · (intro w hSw; (try dsimp only at hSw); go_simp; try with_reducible rfl)
      try simp only [Act.put, List.setIfInBounds_toArray, List.set_cons_zero, List.set_cons_succ]
      refine wpAnyH_take (i := 20) (oi := ⟨some 64, _, _, _, _, _⟩) (v := ?_) rfl (by kernel_rfl) (by kernel_rfl) (by kernel_rfl) (fun _ _ _ h => h) (Or.inl ⟨by rfl, ?_⟩) (by assumption) ?_
      rotate_left
      · (intro w hSw; (try dsimp only at hSw); go_simp; try with_reducible rfl)
      try simp only [Act.put, List.setIfInBounds_toArray, List.set_cons_zero, List.set_cons_succ]
      refine wpAnyH_take (i := 21) (oi := ⟨some 65, _, _, _, _, _⟩) (v := ?_) rfl (by kernel_rfl) (by kernel_rfl) (by kernel_rfl) (fun _ _ _ h => h) (Or.inl ⟨by rfl, ?_⟩) (by assumption) ?_
      rotate_left
      · (intro w hSw; (try dsimp only at hSw); go_simp; try with_reducible rfl)
      try simp only [Act.put, List.setIfInBounds_toArray, List.set_cons_zero, List.set_cons_succ]
      refine wpAnyH_take (i := 22) (oi := ⟨some 66, _, _, _, _, _⟩) (v := ?_) rfl (by kernel_rfl) (by kernel_rfl) (by kernel_rfl) (fun _ _ _ h => h) (Or.inl ⟨by rfl, ?_⟩) (by assumption) ?_
      rotate_left
      · (intro w hSw; (try dsimp only at hSw); go_simp; try with_reducible rfl)
      try simp only [Act.put, List.setIfInBounds_toArray, List.set_cons_zero, List.set_cons_succ]
      refine wpAnyH_take (i := 23) (oi := ⟨some 67, _, _, _, _, _⟩) (v := ?_) rfl (by kernel_rfl) (by kernel_rfl) (by kernel_rfl) (fun _ _ _ h => h) (Or.inl ⟨by rfl, ?_⟩) (by assumption) ?_
      rotate_left
      · (intro w hSw; (try dsimp only at hSw); go_simp; try with_reducible rfl)
      try simp only [Act.put, List.setIfInBounds_toArray, List.set_cons_zero, List.set_cons_succ]
      refine wpAnyH_take (i := 24) (oi := ⟨some 68, _, _, _, _, _⟩) (v := ?_) rfl (by kernel_rfl) (by kernel_rfl) (by kernel_rfl) (fun _ _ _ h => h) (Or.inl ⟨by rfl, ?_⟩) (by assumption) ?_
      rotate_left
      · (intro w hSw; (try dsimp only at hSw); go_simp; try with_reducible rfl)
      try simp only [Act.put, List.setIfInBounds_toArray, List.set_cons_zero, List.set_cons_succ]
      refine wpAnyH_take (i := 25) (oi := ⟨some 69, _, _, _, _, _⟩) (v := ?_) rfl (by kernel_rfl) (by kernel_rfl) (by kernel_rfl) (fun _ _ _ h => h) (Or.inl ⟨by rfl, ?_⟩) (by assumption) ?_
      rotate_left
      · (intro w hSw; (try dsimp only at hSw); go_simp; try with_reducible rfl)
      try simp only [Act.put, List.setIfInBounds_toArray, List.set_cons_zero, List.set_cons_succ]
      refine wpAnyH_take (i := 26) (oi := ⟨some 70, _, _, _, _, _⟩) (v := ?_) rfl (by kernel_rfl) (by kernel_rfl) (by kernel_rfl) (fun _ _ _ h => h) (Or.inl ⟨by rfl, ?_⟩) (by assumption) ?_
      rotate_left
      · (intro w hSw; (try dsimp only at hSw); go_simp; try with_reducible rfl)
      try simp only [Act.put, List.setIfInBounds_toArray, List.set_cons_zero, List.set_cons_succ]
      refine wpAnyH_take (i := 27) (oi := ⟨some 71, _, _, _, _, _⟩) (v := undef) rfl (by kernel_rfl) (by kernel_rfl) (by kernel_rfl) (fun _ _ _ h => h) (Or.inr ⟨by rfl, rfl⟩) (by assumption) ?_
      try simp only [Act.put, List.setIfInBounds_toArray, List.set_cons_zero, List.set_cons_succ]
      refine wpAnyH_take (i := 28) (oi := ⟨some 72, _, _, _, _, _⟩) (v := undef) rfl (by kernel_rfl) (by kernel_rfl) (by kernel_rfl) (fun _ _ _ h => h) (Or.inr ⟨by rfl, rfl⟩) (by assumption) ?_
      try simp only [Act.put, List.setIfInBounds_toArray, List.set_cons_zero, List.set_cons_succ]
      refine wpAnyH_take (i := 29) (oi := ⟨some 73, _, _, _, _, _⟩) (v := ?_) rfl (by kernel_rfl) (by kernel_rfl) (by kernel_rfl) (fun _ _ _ h => h) (Or.inl ⟨by rfl, ?_⟩) (by assumption) ?_
      rotate_left
      · (intro w hSw; (try dsimp only at hSw); go_simp; try with_reducible rfl)
      try simp only [Act.put, List.setIfInBounds_toArray, List.set_cons_zero, List.set_cons_succ]
      refine wpAnyH_take (i := 30) (oi := ⟨some 74, _, _, _, _, _⟩) (v := ?_) rfl (by kernel_rfl) (by kernel_rfl) (by kernel_rfl) (fun _ _ _ h => h) (Or.inl ⟨by rfl, ?_⟩) (by assumption) ?_
      rotate_left
      · (intro w hSw; (try dsimp only at hSw); go_simp; try with_reducible rfl)
      try simp only [Act.put, List.setIfInBounds_toArray, List.set_cons_zero, List.set_cons_succ]
      refine wpAnyH_take (i := 31) (oi := ⟨some 75, _, _, _, _, _⟩) (v := ?_) rfl (by kernel_rfl) (by kernel_rfl) (by kernel_rfl) (fun _ _ _ h => h) (Or.inl ⟨by rfl, ?_⟩) (by assumption) ?_
      rotate_left
      · (intro w hSw; (try dsimp only at hSw); go_simp; try with_reducible rfl)
      try simp only [Act.put, List.setIfInBounds_toArray, List.set_cons_zero, List.set_cons_succ]
      refine wpAnyH_take (i := 32) (oi := ⟨some 76, _, _, _, _, _⟩) (v := ?_) rfl (by kernel_rfl) (by kernel_rfl) (by kernel_rfl) (fun _ _ _ h => h) (Or.inl ⟨by rfl, ?_⟩) (by assumption) ?_
      rotate_left
      · (intro w hSw; (try dsimp only at hSw); go_simp; try with_reducible rfl)
      try simp only [Act.put, List.setIfInBounds_toArray, List.set_cons_zero, List.set_cons_succ]
      refine wpAnyH_take (i := 33) (oi := ⟨some 77, _, _, _, _, _⟩) (v := ?_) rfl (by kernel_rfl) (by kernel_rfl) (by kernel_rfl) (fun _ _ _ h => h) (Or.inl ⟨by rfl, ?_⟩) (by assumption) ?_
      rotate_left
      · (intro w hSw; (try dsimp only at hSw); go_simp; try with_reducible rfl)
      try simp only [Act.put, List.setIfInBounds_toArray, List.set_cons_zero, List.set_cons_succ]
      refine wpAnyH_ready (rs := [34]) (by kernel_rfl) (by simp) ?_
      refine AllReadyH.cons (o := ⟨some 78, _, _, _, _, _⟩) rfl (fun K hK => ?_) AllReadyH.nil
      go_simp
      (go_at_call 26; refine (Same_self _ _ _ _ _ _ (parL s) _ (by omega) (by omega) (L6.out) (M6.out)).mono ?_; rintro e w7 ⟨rfl, hb7⟩; have s7 := hb7.size; have B7 : Below w.heap.size w w7 := B6.trans (hb7.mono (by omega)); have L7 := Lib.hid ((L6.out.below hb7).mono s7); clear L6; have HB7 := Lib.hid ((HB6.out.below hb7).mono s7); clear HB6; have HPb7 := Lib.hid ((HPb6.out.below hb7).mono s7); clear HPb6; have M7 := Lib.hid ((M6.out.below hb7).mono s7); clear M6; have P7 := Lib.hid ((P6.out.below hb7).mono s7); clear P6; have Q7 := Lib.hid ((Q6.out.below hb7).mono s7); clear Q6; have xa7 := (hb7.cell (p := ⟨w.heap.size, 0, none⟩) (by simp only; omega)).trans xa6; clear xa6; have xb7 := (hb7.cell (p := ⟨w.heap.size, 1, none⟩) (by simp only; omega)).trans xb6; clear xb6; have xc7 := (hb7.cell (p := ⟨w.heap.size, 2, none⟩) (by simp only; omega)).trans xc6; clear xc6; have xd7 := (hb7.cell (p := ⟨w.heap.size, 3, none⟩) (by simp only; omega)).trans xd6; clear xd6; have xe7 := (hb7.cell (p := ⟨w.heap.size, 4, none⟩) (by simp only; omega)).trans xe6; clear xe6; have xf7 := (hb7.cell (p := ⟨w.heap.size, 5, none⟩) (by simp only; omega)).trans xf6; clear xf6)
      go_wp2_with fail
      refine hK.out _ _ ?_ (fun hHeld => ?_)
      · (try dsimp only); assumption
      clear hK K
      try simp only [Act.put, List.setIfInBounds_toArray, List.set_cons_zero, List.set_cons_succ]
      refine wpAnyH_take (i := 35) (oi := ⟨some 79, _, _, _, _, _⟩) (v := ?_) rfl (by kernel_rfl) (by kernel_rfl) (by kernel_rfl) (fun _ _ _ h => h) (Or.inl ⟨by rfl, ?_⟩) (by assumption) ?_
      rotate_left
      · (intro w hSw; (try dsimp only at hSw); go_simp; try with_reducible rfl)
      try simp only [Act.put, List.setIfInBounds_toArray, List.set_cons_zero, List.set_cons_succ]
      refine wpAnyH_take (i := 36) (oi := ⟨some 80, _, _, _, _, _⟩) (v := ?_) rfl (by kernel_rfl) (by kernel_rfl) (by kernel_rfl) (fun _ _ _ h => h) (Or.inl ⟨by rfl, ?_⟩) (by assumption) ?_
      rotate_left
      · (intro w hSw; (try dsimp only at hSw); go_simp; try with_reducible rfl)
      try simp only [Act.put, List.setIfInBounds_toArray, List.set_cons_zero, List.set_cons_succ]
      refine wpAnyH_done (by kernel_rfl) ?_ _
      refine NoPanic.normal ?_
      go_wp2_with fail; go_meet
      exact ⟨rfl, ((((hb3.trans (hb4.mono (by omega))).trans (hb5.mono (by omega))).trans (hb6.mono (by omega))).trans (hb7.mono (by omega)))⟩
    · as_aux_lemma =>
      clear HEI HP1 HP2
      refine wp_region_noPanic ?_
      refine wp_region_held_drew (S := fun w' => w'.cell? ⟨w.heap.size, 0, none⟩ = some (.slice b.A b.n b.c)) (by kernel_rfl) ?_ (fun hHeld => ?_)
      · (try dsimp only); assumption
      refine wpAnyH_take (i := 0) (oi := ⟨some 44, _, _, _, _, _⟩) (v := ?_) rfl (by kernel_rfl) (by kernel_rfl) (by kernel_rfl) (fun _ _ _ h => h) (Or.inl ⟨by rfl, ?_⟩) (by assumption) ?_
      rotate_left
      · (intro w hSw; (try dsimp only at hSw); go_simp; try with_reducible rfl)
      try simp only [Act.put, List.setIfInBounds_toArray, List.set_cons_zero, List.set_cons_succ]
      refine wpAnyH_take (i := 1) (oi := ⟨some 45, _, _, _, _, _⟩) (v := ?_) rfl (by kernel_rfl) (by kernel_rfl) (by kernel_rfl) (fun _ _ _ h => h) (Or.inl ⟨by rfl, ?_⟩) (by assumption) ?_
      rotate_left
      · (intro w hSw; (try dsimp only at hSw); go_simp; try with_reducible rfl)
      try simp only [Act.put, List.setIfInBounds_toArray, List.set_cons_zero, List.set_cons_succ]
      refine wpAnyH_take (i := 3) (oi := ⟨some 47, _, _, _, _, _⟩) (v := ?_) rfl (by kernel_rfl) (by kernel_rfl) (by kernel_rfl) (fun _ _ _ h => h) (Or.inl ⟨by rfl, ?_⟩) (by assumption) ?_
      rotate_left
      · (intro w hSw; (try dsimp only at hSw); go_simp; try with_reducible rfl)
      try simp only [Act.put, List.setIfInBounds_toArray, List.set_cons_zero, List.set_cons_succ]
      refine wpAnyH_take (i := 4) (oi := ⟨some 48, _, _, _, _, _⟩) (v := ?_) rfl (by kernel_rfl) (by kernel_rfl) (by kernel_rfl) (fun _ _ _ h => h) (Or.inl ⟨by rfl, ?_⟩) (by assumption) ?_
      rotate_left
      · (intro w hSw; (try dsimp only at hSw); go_simp; try with_reducible rfl)
      try simp only [Act.put, List.setIfInBounds_toArray, List.set_cons_zero, List.set_cons_succ]
      refine wpAnyH_ready (rs := [2]) (by kernel_rfl) (by simp) ?_
      refine AllReadyH.cons (o := ⟨some 46, _, _, _, _, _⟩) rfl (fun K hK => ?_) AllReadyH.nil
      go_simp
      (go_at_call 54; refine (Text_any _ _ _ b.bs _ (by omega) (HB2.out.drew)).mono ?_; rintro e w3 ⟨rfl, hb3⟩; replace hb3 := undrew1 hb3; have s3 := hb3.size; have B3 : Below w.heap.size w w3 := B2.trans (hb3.mono (by omega)); have L3 := Lib.hid ((L2.out.below hb3).mono s3); clear L2; have HB3 := Lib.hid ((HB2.out.below hb3).mono s3); clear HB2; have HPb3 := Lib.hid ((HPb2.out.below hb3).mono s3); clear HPb2; have M3 := Lib.hid ((M2.out.below hb3).mono s3); clear M2; have xa3 := (hb3.cell (p := ⟨w.heap.size, 0, none⟩) (by simp only; omega)).trans xa2; clear xa2; have xb3 := (hb3.cell (p := ⟨w.heap.size, 1, none⟩) (by simp only; omega)).trans xb2; clear xb2; have xc3 := (hb3.cell (p := ⟨w.heap.size, 2, none⟩) (by simp only; omega)).trans xc2; clear xc2; have xd3 := (hb3.cell (p := ⟨w.heap.size, 3, none⟩) (by simp only; omega)).trans xd2; clear xd2; have xe3 := (hb3.cell (p := ⟨w.heap.size, 4, none⟩) (by simp only; omega)).trans xe2; clear xe2; have xf3 := (hb3.cell (p := ⟨w.heap.size, 5, none⟩) (by simp only; omega)).trans xf2; clear xf2)
      go_wp2_with fail
      refine hK.out _ _ ?_ (fun hHeld => ?_)
      · (try dsimp only); assumption
      clear hK K
      try simp only [Act.put, List.setIfInBounds_toArray, List.set_cons_zero, List.set_cons_succ]
      refine wpAnyH_ready (rs := [5]) (by kernel_rfl) (by simp) ?_
      refine AllReadyH.cons (o := ⟨some 49, _, _, _, _, _⟩) rfl (fun K hK => ?_) AllReadyH.nil
      go_simp
      (go_at_call 55; refine (refText_any _ _ _ b.bs _ (by omega) (HB3.out)).mono ?_; rintro e w4 ⟨rfl, hb4⟩; have s4 := hb4.size; have B4 : Below w.heap.size w w4 := B3.trans (hb4.mono (by omega)); have L4 := Lib.hid ((L3.out.below hb4).mono s4); clear L3; have HB4 := Lib.hid ((HB3.out.below hb4).mono s4); clear HB3; have HPb4 := Lib.hid ((HPb3.out.below hb4).mono s4); clear HPb3; have M4 := Lib.hid ((M3.out.below hb4).mono s4); clear M3; have xa4 := (hb4.cell (p := ⟨w.heap.size, 0, none⟩) (by simp only; omega)).trans xa3; clear xa3; have xb4 := (hb4.cell (p := ⟨w.heap.size, 1, none⟩) (by simp only; omega)).trans xb3; clear xb3; have xc4 := (hb4.cell (p := ⟨w.heap.size, 2, none⟩) (by simp only; omega)).trans xc3; clear xc3; have xd4 := (hb4.cell (p := ⟨w.heap.size, 3, none⟩) (by simp only; omega)).trans xd3; clear xd3; have xe4 := (hb4.cell (p := ⟨w.heap.size, 4, none⟩) (by simp only; omega)).trans xe3; clear xe3; have xf4 := (hb4.cell (p := ⟨w.heap.size, 5, none⟩) (by simp only; omega)).trans xf3; clear xf3)
      go_wp2_with fail
      refine hK.out _ _ ?_ (fun hHeld => ?_)
      · (try dsimp only); assumption
      clear hK K
      try simp only [Act.put, List.setIfInBounds_toArray, List.set_cons_zero, List.set_cons_succ]
      refine wpAnyH_take (i := 6) (oi := ⟨some 50, _, _, _, _, _⟩) (v := ?_) rfl (by kernel_rfl) (by kernel_rfl) (by kernel_rfl) (fun _ _ _ h => h) (Or.inl ⟨by rfl, ?_⟩) (by assumption) ?_
      rotate_left
      · (intro w hSw; (try dsimp only at hSw); go_simp; try with_reducible rfl)
      try simp only [Act.put, List.setIfInBounds_toArray, List.set_cons_zero, List.set_cons_succ]
      refine wpAnyH_take (i := 7) (oi := ⟨some 51, _, _, _, _, _⟩) (v := ?_) rfl (by kernel_rfl) (by kernel_rfl) (by kernel_rfl) (fun _ _ _ h => h) (Or.inl ⟨by rfl, ?_⟩) (by assumption) ?_
      rotate_left
      · (intro w hSw; (try dsimp only at hSw); go_simp; try with_reducible rfl)
      try simp only [Act.put, List.setIfInBounds_toArray, List.set_cons_zero, List.set_cons_succ]
      refine wpAnyH_take (i := 8) (oi := ⟨some 52, _, _, _, _, _⟩) (v := ?_) rfl (by kernel_rfl) (by kernel_rfl) (by kernel_rfl) (fun _ _ _ h => h) (Or.inl ⟨by rfl, ?_⟩) (by assumption) ?_
      rotate_left
      · (intro w hSw; (try dsimp only at hSw); go_simp; try with_reducible rfl)
      try simp only [Act.put, List.setIfInBounds_toArray, List.set_cons_zero, List.set_cons_succ]
      refine wpAnyH_take (i := 9) (oi := ⟨some 53, _, _, _, _, _⟩) (v := ?_) rfl (by kernel_rfl) (by kernel_rfl) (by kernel_rfl) (fun _ _ _ h => h) (Or.inl ⟨by rfl, ?_⟩) (by assumption) ?_
      rotate_left
      · (intro w hSw; (try dsimp only at hSw); go_simp; try with_reducible rfl)
      try simp only [Act.put, List.setIfInBounds_toArray, List.set_cons_zero, List.set_cons_succ]
      refine wpAnyH_take (i := 11) (oi := ⟨some 55, _, _, _, _, _⟩) (v := ?_) rfl (by kernel_rfl) (by kernel_rfl) (by kernel_rfl) (fun _ _ _ h => h) (Or.inl ⟨by rfl, ?_⟩) (by assumption) ?_
      rotate_left
      · (intro w hSw; (try dsimp only at hSw); go_simp; try with_reducible rfl)
      try simp only [Act.put, List.setIfInBounds_toArray, List.set_cons_zero, List.set_cons_succ]
      refine wpAnyH_take (i := 12) (oi := ⟨some 56, _, _, _, _, _⟩) (v := ?_) rfl (by kernel_rfl) (by kernel_rfl) (by kernel_rfl) (fun _ _ _ h => h) (Or.inl ⟨by rfl, ?_⟩) (by assumption) ?_
      rotate_left
      · (intro w hSw; (try dsimp only at hSw); go_simp; try with_reducible rfl)
      try simp only [Act.put, List.setIfInBounds_toArray, List.set_cons_zero, List.set_cons_succ]
      refine wpAnyH_ready (rs := [10]) (by kernel_rfl) (by simp) ?_
      refine AllReadyH.cons (o := ⟨some 54, _, _, _, _, _⟩) rfl (fun K hK => ?_) AllReadyH.nil
      go_simp
      (go_at_call 56; refine (Pack_any _ _ _ b.bs _ (by omega) (HB4.out)).mono ?_; rintro e w5 ⟨A5, c5, rfl, hc5, hown5, hb5⟩; have s5 := hb5.size; have B5 : Below w.heap.size w w5 := B4.trans (hb5.mono (by omega)); have L5 := Lib.hid ((L4.out.below hb5).mono s5); clear L4; have HB5 := Lib.hid ((HB4.out.below hb5).mono s5); clear HB4; have HPb5 := Lib.hid ((HPb4.out.below hb5).mono s5); clear HPb4; have M5 := Lib.hid ((M4.out.below hb5).mono s5); clear M4; have xa5 := (hb5.cell (p := ⟨w.heap.size, 0, none⟩) (by simp only; omega)).trans xa4; clear xa4; have xb5 := (hb5.cell (p := ⟨w.heap.size, 1, none⟩) (by simp only; omega)).trans xb4; clear xb4; have xc5 := (hb5.cell (p := ⟨w.heap.size, 2, none⟩) (by simp only; omega)).trans xc4; clear xc4; have xd5 := (hb5.cell (p := ⟨w.heap.size, 3, none⟩) (by simp only; omega)).trans xd4; clear xd4; have xe5 := (hb5.cell (p := ⟨w.heap.size, 4, none⟩) (by simp only; omega)).trans xe4; clear xe4; have xf5 := (hb5.cell (p := ⟨w.heap.size, 5, none⟩) (by simp only; omega)).trans xf4; clear xf4; have P5 := Lib.hid (Rd.own hown5); clear hown5; try dsimp only [id])
      go_wp2_with fail
      refine hK.out _ _ ?_ (fun hHeld => ?_)
      · (try dsimp only); assumption
      clear hK K
      try simp only [Act.put, List.setIfInBounds_toArray, List.set_cons_zero, List.set_cons_succ]
      refine wpAnyH_ready (rs := [13]) (by kernel_rfl) (by simp) ?_
      refine AllReadyH.cons (o := ⟨some 57, _, _, _, _, _⟩) rfl (fun K hK => ?_) AllReadyH.nil
      go_simp
      (go_at_call 57; refine (refPack_any _ _ _ b.bs _ (by omega) (HB5.out)).mono ?_; rintro e w6 ⟨A6, c6, rfl, hc6, hown6, hb6⟩; have s6 := hb6.size; have B6 : Below w.heap.size w w6 := B5.trans (hb6.mono (by omega)); have L6 := Lib.hid ((L5.out.below hb6).mono s6); clear L5; have HB6 := Lib.hid ((HB5.out.below hb6).mono s6); clear HB5; have HPb6 := Lib.hid ((HPb5.out.below hb6).mono s6); clear HPb5; have M6 := Lib.hid ((M5.out.below hb6).mono s6); clear M5; have P6 := Lib.hid ((P5.out.below hb6).mono s6); clear P5; have xa6 := (hb6.cell (p := ⟨w.heap.size, 0, none⟩) (by simp only; omega)).trans xa5; clear xa5; have xb6 := (hb6.cell (p := ⟨w.heap.size, 1, none⟩) (by simp only; omega)).trans xb5; clear xb5; have xc6 := (hb6.cell (p := ⟨w.heap.size, 2, none⟩) (by simp only; omega)).trans xc5; clear xc5; have xd6 := (hb6.cell (p := ⟨w.heap.size, 3, none⟩) (by simp only; omega)).trans xd5; clear xd5; have xe6 := (hb6.cell (p := ⟨w.heap.size, 4, none⟩) (by simp only; omega)).trans xe5; clear xe5; have xf6 := (hb6.cell (p := ⟨w.heap.size, 5, none⟩) (by simp only; omega)).trans xf5; clear xf5; have Q6 := Lib.hid (Rd.own hown6); clear hown6; try dsimp only [id])
      go_wp2_with fail
      refine hK.out _ _ ?_ (fun hHeld => ?_)
      · (try dsimp only); assumption
      clear hK K
      try simp only [Act.put, List.setIfInBounds_toArray, List.set_cons_zero, List.set_cons_succ]
      refine wpAnyH_ready (rs := [14]) (by kernel_rfl) (by simp) ?_
      refine AllReadyH.cons (o := ⟨some 58, _, _, _, _, _⟩) rfl (fun K hK => ?_) AllReadyH.nil
      go_simp
      (go_at_call 17; refine (same_any _ _ _ _ _ _ _ _ _ _ (P6.out) (Q6.out)).mono ?_; rintro e w' ⟨rfl, rfl⟩)
      go_wp2_with fail
      refine hK.out _ _ ?_ (fun hHeld => ?_)
      · (try dsimp only); assumption
      clear hK K
      try simp only [Act.put, List.setIfInBounds_toArray, List.set_cons_zero, List.set_cons_succ]
      refine wpAnyH_take (i := 15) (oi := ⟨some 59, _, _, _, _, _⟩) (v := ?_) rfl (by kernel_rfl) (by kernel_rfl) (by kernel_rfl) (fun _ _ _ h => h) (Or.inl ⟨by rfl, ?_⟩) (by assumption) ?_
      rotate_left
      · (intro w hSw; (try dsimp only at hSw); go_simp; try with_reducible rfl)
      try simp only [Act.put, List.setIfInBounds_toArray, List.set_cons_zero, List.set_cons_succ]
      refine wpAnyH_take (i := 16) (oi := ⟨some 60, _, _, _, _, _⟩) (v := ?_) rfl (by kernel_rfl) (by kernel_rfl) (by kernel_rfl) (fun _ _ _ h => h) (Or.inl ⟨by rfl, ?_⟩) (by assumption) ?_
      rotate_left
      · (intro w hSw; (try dsimp only at hSw); go_simp; try with_reducible rfl)
      try simp only [Act.put, List.setIfInBounds_toArray, List.set_cons_zero, List.set_cons_succ]
      refine wpAnyH_take (i := 17) (oi := ⟨some 61, _, _, _, _, _⟩) (v := ?_) rfl (by kernel_rfl) (by kernel_rfl) (by kernel_rfl) (fun _ _ _ h => h) (Or.inl ⟨by rfl, ?_⟩) (by assumption) ?_
      rotate_left
      · (intro w hSw; (try dsimp only at hSw); go_simp; try with_reducible rfl)
      try simp only [Act.put, List.setIfInBounds_toArray, List.set_cons_zero, List.set_cons_succ]
      refine wpAnyH_take (i := 18) (oi := ⟨some 62, _, _, _, _, _⟩) (v := ?_) rfl (by kernel_rfl) (by kernel_rfl) (by kernel_rfl) (fun _ _ _ h => h) (Or.inl ⟨by rfl, ?_⟩) (by assumption) ?_
      rotate_left
      · (intro w hSw; (try dsimp only at hSw); go_simp; try with_reducible rfl)
      try simp only [Act.put, List.setIfInBounds_toArray, List.set_cons_zero, List.set_cons_succ]
      refine wpAnyH_take (i := 19) (oi := ⟨some 63, _, _, _, _, _⟩) (v := ?_) rfl (by kernel_rfl) (by kernel_rfl) (by kernel_rfl) (fun _ _ _ h => h) (Or.inl ⟨by rfl, ?_⟩) (by assumption) ?_
      rotate_left
      · (intro w hSw; (try dsimp only at hSw); go_simp; try with_reducible rfl)
      try simp only [Act.put, List.setIfInBounds_toArray, List.set_cons_zero, List.set_cons_succ]
      refine wpAnyH_take (i := 20) (oi := ⟨some 64, _, _, _, _, _⟩) (v := ?_) rfl (by kernel_rfl) (by kernel_rfl) (by kernel_rfl) (fun _ _ _ h => h) (Or.inl ⟨by rfl, ?_⟩) (by assumption) ?_
      rotate_left
      · (intro w hSw; (try dsimp only at hSw); go_simp; try with_reducible rfl)
      try simp only [Act.put, List.setIfInBounds_toArray, List.set_cons_zero, List.set_cons_succ]
      refine wpAnyH_take (i := 21) (oi := ⟨some 65, _, _, _, _, _⟩) (v := ?_) rfl (by kernel_rfl) (by kernel_rfl) (by kernel_rfl) (fun _ _ _ h => h) (Or.inl ⟨by rfl, ?_⟩) (by assumption) ?_
      rotate_left
      · (intro w hSw; (try dsimp only at hSw); go_simp; try with_reducible rfl)
      try simp only [Act.put, List.setIfInBounds_toArray, List.set_cons_zero, List.set_cons_succ]
      refine wpAnyH_take (i := 22) (oi := ⟨some 66, _, _, _, _, _⟩) (v := ?_) rfl (by kernel_rfl) (by kernel_rfl) (by kernel_rfl) (fun _ _ _ h => h) (Or.inl ⟨by rfl, ?_⟩) (by assumption) ?_
      rotate_left
      · (intro w hSw; (try dsimp only at hSw); go_simp; try with_reducible rfl)
      try simp only [Act.put, List.setIfInBounds_toArray, List.set_cons_zero, List.set_cons_succ]
      refine wpAnyH_take (i := 23) (oi := ⟨some 67, _, _, _, _, _⟩) (v := ?_) rfl (by kernel_rfl) (by kernel_rfl) (by kernel_rfl) (fun _ _ _ h => h) (Or.inl ⟨by rfl, ?_⟩) (by assumption) ?_
      rotate_left
      · (intro w hSw; (try dsimp only at hSw); go_simp; try with_reducible rfl)
      try simp only [Act.put, List.setIfInBounds_toArray, List.set_cons_zero, List.set_cons_succ]
      refine wpAnyH_take (i := 24) (oi := ⟨some 68, _, _, _, _, _⟩) (v := ?_) rfl (by kernel_rfl) (by kernel_rfl) (by kernel_rfl) (fun _ _ _ h => h) (Or.inl ⟨by rfl, ?_⟩) (by assumption) ?_
      rotate_left
      · (intro w hSw; (try dsimp only at hSw); go_simp; try with_reducible rfl)
      try simp only [Act.put, List.setIfInBounds_toArray, List.set_cons_zero, List.set_cons_succ]
      refine wpAnyH_take (i := 25) (oi := ⟨some 69, _, _, _, _, _⟩) (v := ?_) rfl (by kernel_rfl) (by kernel_rfl) (by kernel_rfl) (fun _ _ _ h => h) (Or.inl ⟨by rfl, ?_⟩) (by assumption) ?_
      rotate_left
      · (intro w hSw; (try dsimp only at hSw); go_simp; try with_reducible rfl)
      try simp only [Act.put, List.setIfInBounds_toArray, List.set_cons_zero, List.set_cons_succ]
      refine wpAnyH_take (i := 26) (oi := ⟨some 70, _, _, _, _, _⟩) (v := ?_) rfl (by kernel_rfl) (by kernel_rfl) (by kernel_rfl) (fun _ _ _ h => h) (Or.inl ⟨by rfl, ?_⟩) (by assumption) ?_
      rotate_left
      · (intro w hSw; (try dsimp only at hSw); go_simp; try with_reducible rfl)
      try simp only [Act.put, List.setIfInBounds_toArray, List.set_cons_zero, List.set_cons_succ]
      refine wpAnyH_take (i := 27) (oi := ⟨some 71, _, _, _, _, _⟩) (v := ?_) rfl (by kernel_rfl) (by kernel_rfl) (by kernel_rfl) (fun _ _ _ h => h) (Or.inl ⟨by rfl, ?_⟩) (by assumption) ?_
      rotate_left
      · (intro w hSw; (try dsimp only at hSw); go_simp; try with_reducible rfl)
      try simp only [Act.put, List.setIfInBounds_toArray, List.set_cons_zero, List.set_cons_succ]
      refine wpAnyH_take (i := 28) (oi := ⟨some 72, _, _, _, _, _⟩) (v := ?_) rfl (by kernel_rfl) (by kernel_rfl) (by kernel_rfl) (fun _ _ _ h => h) (Or.inl ⟨by rfl, ?_⟩) (by assumption) ?_
      rotate_left
      · (intro w hSw; (try dsimp only at hSw); go_simp; try with_reducible rfl)
      try simp only [Act.put, List.setIfInBounds_toArray, List.set_cons_zero, List.set_cons_succ]
      refine wpAnyH_take (i := 29) (oi := ⟨some 73, _, _, _, _, _⟩) (v := ?_) rfl (by kernel_rfl) (by kernel_rfl) (by kernel_rfl) (fun _ _ _ h => h) (Or.inl ⟨by rfl, ?_⟩) (by assumption) ?_
      rotate_left
      · (intro w hSw; (try dsimp only at hSw); go_simp; try with_reducible rfl)
      try simp only [Act.put, List.setIfInBounds_toArray, List.set_cons_zero, List.set_cons_succ]
      refine wpAnyH_take (i := 30) (oi := ⟨some 74, _, _, _, _, _⟩) (v := ?_) rfl (by kernel_rfl) (by kernel_rfl) (by kernel_rfl) (fun _ _ _ h => h) (Or.inl ⟨by rfl, ?_⟩) (by assumption) ?_
      rotate_left
      · (intro w hSw; (try dsimp only at hSw); go_simp; try with_reducible rfl)
      try simp only [Act.put, List.setIfInBounds_toArray, List.set_cons_zero, List.set_cons_succ]
      refine wpAnyH_take (i := 31) (oi := ⟨some 75, _, _, _, _, _⟩) (v := ?_) rfl (by kernel_rfl) (by kernel_rfl) (by kernel_rfl) (fun _ _ _ h => h) (Or.inl ⟨by rfl, ?_⟩) (by assumption) ?_
      rotate_left
      · (intro w hSw; (try dsimp only at hSw); go_simp; try with_reducible rfl)
      try simp only [Act.put, List.setIfInBounds_toArray, List.set_cons_zero, List.set_cons_succ]
      refine wpAnyH_take (i := 32) (oi := ⟨some 76, _, _, _, _, _⟩) (v := ?_) rfl (by kernel_rfl) (by kernel_rfl) (by kernel_rfl) (fun _ _ _ h => h) (Or.inl ⟨by rfl, ?_⟩) (by assumption) ?_
      rotate_left
      · (intro w hSw; (try dsimp only at hSw); go_simp; try with_reducible rfl)
      try simp only [Act.put, List.setIfInBounds_toArray, List.set_cons_zero, List.set_cons_succ]
      refine wpAnyH_take (i := 33) (oi := ⟨some 77, _, _, _, _, _⟩) (v := ?_) rfl (by kernel_rfl) (by kernel_rfl) (by kernel_rfl) (fun _ _ _ h => h) (Or.inl ⟨by rfl, ?_⟩) (by assumption) ?_
      rotate_left
      · (intro w hSw; (try dsimp only at hSw); go_simp; try with_reducible rfl)
      try simp only [Act.put, List.setIfInBounds_toArray, List.set_cons_zero, List.set_cons_succ]
      refine wpAnyH_ready (rs := [34]) (by kernel_rfl) (by simp) ?_
      refine AllReadyH.cons (o := ⟨some 78, _, _, _, _, _⟩) rfl (fun K hK => ?_) AllReadyH.nil
      go_simp
      (go_at_call 26; refine (Same_self _ _ _ _ _ _ (parL s) _ (by omega) (by omega) (L6.out) (M6.out)).mono ?_; rintro e w7 ⟨rfl, hb7⟩; have s7 := hb7.size; have B7 : Below w.heap.size w w7 := B6.trans (hb7.mono (by omega)); have L7 := Lib.hid ((L6.out.below hb7).mono s7); clear L6; have HB7 := Lib.hid ((HB6.out.below hb7).mono s7); clear HB6; have HPb7 := Lib.hid ((HPb6.out.below hb7).mono s7); clear HPb6; have M7 := Lib.hid ((M6.out.below hb7).mono s7); clear M6; have P7 := Lib.hid ((P6.out.below hb7).mono s7); clear P6; have Q7 := Lib.hid ((Q6.out.below hb7).mono s7); clear Q6; have xa7 := (hb7.cell (p := ⟨w.heap.size, 0, none⟩) (by simp only; omega)).trans xa6; clear xa6; have xb7 := (hb7.cell (p := ⟨w.heap.size, 1, none⟩) (by simp only; omega)).trans xb6; clear xb6; have xc7 := (hb7.cell (p := ⟨w.heap.size, 2, none⟩) (by simp only; omega)).trans xc6; clear xc6; have xd7 := (hb7.cell (p := ⟨w.heap.size, 3, none⟩) (by simp only; omega)).trans xd6; clear xd6; have xe7 := (hb7.cell (p := ⟨w.heap.size, 4, none⟩) (by simp only; omega)).trans xe6; clear xe6; have xf7 := (hb7.cell (p := ⟨w.heap.size, 5, none⟩) (by simp only; omega)).trans xf6; clear xf6)
      go_wp2_with fail
      refine hK.out _ _ ?_ (fun hHeld => ?_)
      · (try dsimp only); assumption
      clear hK K
      try simp only [Act.put, List.setIfInBounds_toArray, List.set_cons_zero, List.set_cons_succ]
      refine wpAnyH_take (i := 35) (oi := ⟨some 79, _, _, _, _, _⟩) (v := ?_) rfl (by kernel_rfl) (by kernel_rfl) (by kernel_rfl) (fun _ _ _ h => h) (Or.inl ⟨by rfl, ?_⟩) (by assumption) ?_
      rotate_left
      · (intro w hSw; (try dsimp only at hSw); go_simp; try with_reducible rfl)
      try simp only [Act.put, List.setIfInBounds_toArray, List.set_cons_zero, List.set_cons_succ]
      refine wpAnyH_take (i := 36) (oi := ⟨some 80, _, _, _, _, _⟩) (v := ?_) rfl (by kernel_rfl) (by kernel_rfl) (by kernel_rfl) (fun _ _ _ h => h) (Or.inl ⟨by rfl, ?_⟩) (by assumption) ?_
      rotate_left
      · (intro w hSw; (try dsimp only at hSw); go_simp; try with_reducible rfl)
      try simp only [Act.put, List.setIfInBounds_toArray, List.set_cons_zero, List.set_cons_succ]
      refine wpAnyH_done (by kernel_rfl) ?_ _
      refine NoPanic.normal ?_
      go_wp2_with fail; go_meet
      exact ⟨rfl, ((((hb3.trans (hb4.mono (by omega))).trans (hb5.mono (by omega))).trans (hb6.mono (by omega))).trans (hb7.mono (by omega)))⟩
  case rest => as_aux_lemma =>
    obtain ⟨w3, hw3⟩ : ∃ x, x = wc := ⟨_, rfl⟩
    subst hw3
    obtain ⟨rfl, hb3⟩ := hcut
    have s3 := hb3.size
    have B3 : Below w.heap.size w w3 := B2.trans (hb3.mono (by omega))
    have HB3 := Lib.hid ((HB2.out.below hb3).mono s3); clear HB2
    have HPb3 := Lib.hid ((HPb2.out.below hb3).mono s3); clear HPb2
    have xa3 := (hb3.cell (p := ⟨w.heap.size, 0, none⟩) (by simp only; omega)).trans xa2; clear xa2
    have xb3 := (hb3.cell (p := ⟨w.heap.size, 1, none⟩) (by simp only; omega)).trans xb2; clear xb2
    have xc3 := (hb3.cell (p := ⟨w.heap.size, 2, none⟩) (by simp only; omega)).trans xc2; clear xc2
    have xd3 := (hb3.cell (p := ⟨w.heap.size, 3, none⟩) (by simp only; omega)).trans xd2; clear xd2
    have xe3 := (hb3.cell (p := ⟨w.heap.size, 4, none⟩) (by simp only; omega)).trans xe2; clear xe2
    have xf3 := (hb3.cell (p := ⟨w.heap.size, 5, none⟩) (by simp only; omega)).trans xf2; clear xf2
    clear L2 M2 HEI HP1 HP2
    obtain ⟨V, E4, hV, hP1⟩ := Word_two b hb8
    have HV := Lib.hid hV; have HP1 := Lib.hid hP1; clear hV hP1
    go_wp2_with fail
    refine (HP1.out _ (HB3.out)).mono ?_
    rintro e w' ⟨rfl, rfl⟩
    go_upto_if 90 with fail
    go_cut [] (fun wx => w3 = wx)
    case first => as_aux_lemma =>
      rcases HV.out with ⟨h64, rfl, rfl⟩ | ⟨h64, rfl, rfl⟩
      · have h64' : (64 : Int) < (b.n : Int) := by omega
        clear HV HP1
        go_wp2_with fail; go_meet; exact rfl
      · have h64' : (b.n : Int) ≤ 64 := by omega
        clear HV HP1
        go_wp2_with fail
        refine (refWord_any _ _ _ b.bs _ _ h64 (HB3.out)).mono ?_
        rintro e w' ⟨rfl, rfl⟩
        go_wp2_with fail; go_meet; exact rfl
    case rest => as_aux_lemma =>
      subst hcut
      clear HV HP1
      go_wp2_with fail
      refine (Number_three N W hN _).mono ?_
      rintro e w4 ⟨A4, n4, c4, E4, rfl, hn4, hb4⟩
      have s4 := hb4.size
      have B4 : Below w.heap.size w w4 := B3.trans (hb4.mono (by omega))
      have HB4 := Lib.hid ((HB3.out.below hb4).mono s4); clear HB3
      have HPb4 := Lib.hid ((HPb3.out.below hb4).mono s4); clear HPb3
      have xa4 := (hb4.cell (p := ⟨w.heap.size, 0, none⟩) (by simp only; omega)).trans xa3; clear xa3
      have xb4 := (hb4.cell (p := ⟨w.heap.size, 1, none⟩) (by simp only; omega)).trans xb3; clear xb3
      have xc4 := (hb4.cell (p := ⟨w.heap.size, 2, none⟩) (by simp only; omega)).trans xc3; clear xc3
      have xd4 := (hb4.cell (p := ⟨w.heap.size, 3, none⟩) (by simp only; omega)).trans xd3; clear xd3
      have xe4 := (hb4.cell (p := ⟨w.heap.size, 4, none⟩) (by simp only; omega)).trans xe3; clear xe3
      have xf4 := (hb4.cell (p := ⟨w.heap.size, 5, none⟩) (by simp only; omega)).trans xf3; clear xf3
      have NM4 := Lib.hid hn4; clear hn4
      go_upto_block 0 with fail
      go_cut [] (fun wx => Below w4.heap.size w4 wx)
      case first => as_aux_lemma =>
        rcases NM4.out with ⟨h0, rfl, rfl⟩ | ⟨h0, h1, rfl, rfl⟩ | ⟨q, rfl, h0, h1, rfl, rfl⟩ | ⟨q, rfl, h0, h1, rfl, hn, hq⟩
        · clear NM4; go_wp2_with fail; go_meet; exact Below.refl _ _
        · have h0' : ¬ W < 0 := by omega
          clear NM4; go_wp2_with fail; go_meet; exact Below.refl _ _
        · have h2 : ¬ ((q : Int) < 0) := by omega
          have h3 : ¬ ((64 : Int) < (q : Int)) := by omega
          have h4 := Lib.hid h1; clear NM4 h1
          go_wp2_with fail
          refine (Fits_no N q _ hN h0 h4.out).mono ?_
          rintro e w' ⟨rfl, rfl⟩
          go_wp2_with fail; go_meet; exact Below.refl _ _
        · subst hn
          have h2 : ¬ ((n4 : Int) < 0) := by omega
          have h3 : ¬ ((64 : Int) < (n4 : Int)) := by omega
          have h4 := Lib.hid h1; have Q4 := Lib.hid hq; clear NM4 h1 hq
          go_wp2_with fail
          refine (Fits_yes N n4 _ hN h0 h4.out).mono ?_
          rintro e w' ⟨rfl, rfl⟩
          go_wp2_with fail
          refine (refNumber_any N n4 _ hN h0).mono ?_
          rintro e w5 ⟨A5, c5, rfl, hc5, hown5, hb5⟩
          have s5 := hb5.size
          have B5 : Below w.heap.size w w5 := B4.trans (hb5.mono (by omega))
          have HB5 := Lib.hid ((HB4.out.below hb5).mono s5); clear HB4
          have HPb5 := Lib.hid ((HPb4.out.below hb5).mono s5); clear HPb4
          have Q5 := Lib.hid ((Q4.out.below hb5).mono s5); clear Q4
          have xa5 := (hb5.cell (p := ⟨w.heap.size, 0, none⟩) (by simp only; omega)).trans xa4; clear xa4
          have xb5 := (hb5.cell (p := ⟨w.heap.size, 1, none⟩) (by simp only; omega)).trans xb4; clear xb4
          have xc5 := (hb5.cell (p := ⟨w.heap.size, 2, none⟩) (by simp only; omega)).trans xc4; clear xc4
          have xd5 := (hb5.cell (p := ⟨w.heap.size, 3, none⟩) (by simp only; omega)).trans xd4; clear xd4
          have xe5 := (hb5.cell (p := ⟨w.heap.size, 4, none⟩) (by simp only; omega)).trans xe4; clear xe4
          have xf5 := (hb5.cell (p := ⟨w.heap.size, 5, none⟩) (by simp only; omega)).trans xf4; clear xf4
          have NL5 := Lib.hid (Rd.own hown5); clear hown5
          try dsimp only [id]
          go_wp2_with fail
          refine (Same_self _ _ _ _ _ _ (numL N n4) _ (by omega) (by omega) (Q5.out) (NL5.out)).mono ?_
          rintro e w6 ⟨rfl, hb6⟩
          have s6 := hb6.size
          have B6 : Below w.heap.size w w6 := B5.trans (hb6.mono (by omega))
          have HB6 := Lib.hid ((HB5.out.below hb6).mono s6); clear HB5
          have HPb6 := Lib.hid ((HPb5.out.below hb6).mono s6); clear HPb5
          have Q6 := Lib.hid ((Q5.out.below hb6).mono s6); clear Q5
          have NL6 := Lib.hid ((NL5.out.below hb6).mono s6); clear NL5
          have xa6 := (hb6.cell (p := ⟨w.heap.size, 0, none⟩) (by simp only; omega)).trans xa5; clear xa5
          have xb6 := (hb6.cell (p := ⟨w.heap.size, 1, none⟩) (by simp only; omega)).trans xb5; clear xb5
          have xc6 := (hb6.cell (p := ⟨w.heap.size, 2, none⟩) (by simp only; omega)).trans xc5; clear xc5
          have xd6 := (hb6.cell (p := ⟨w.heap.size, 3, none⟩) (by simp only; omega)).trans xd5; clear xd5
          have xe6 := (hb6.cell (p := ⟨w.heap.size, 4, none⟩) (by simp only; omega)).trans xe5; clear xe5
          have xf6 := (hb6.cell (p := ⟨w.heap.size, 5, none⟩) (by simp only; omega)).trans xf5; clear xf5
          go_wp2_with fail; go_meet
          exact hb5.trans (hb6.mono (by omega))
      case rest => as_aux_lemma =>
        clear NM4 HB4
        obtain ⟨w5, hw5⟩ : ∃ x, x = wc := ⟨_, rfl⟩
        subst hw5
        have hb5 := hcut; clear hcut
        have s5 := hb5.size
        have B5 : Below w.heap.size w w5 := B4.trans (hb5.mono (by omega))
        have HPb5 := Lib.hid ((HPb4.out.below hb5).mono s5); clear HPb4
        have xa5 := (hb5.cell (p := ⟨w.heap.size, 0, none⟩) (by simp only; omega)).trans xa4; clear xa4
        have xb5 := (hb5.cell (p := ⟨w.heap.size, 1, none⟩) (by simp only; omega)).trans xb4; clear xb4
        have xc5 := (hb5.cell (p := ⟨w.heap.size, 2, none⟩) (by simp only; omega)).trans xc4; clear xc4
        have xd5 := (hb5.cell (p := ⟨w.heap.size, 3, none⟩) (by simp only; omega)).trans xd4; clear xd4
        have xe5 := (hb5.cell (p := ⟨w.heap.size, 4, none⟩) (by simp only; omega)).trans xe4; clear xe4
        have xf5 := (hb5.cell (p := ⟨w.heap.size, 5, none⟩) (by simp only; omega)).trans xf4; clear xf4
        by_cases hr : K < 0 ∨ 8 * (p.n : Int) < K ∨ (K + 7) / 8 ≠ p.n
        · have h3 : K < 0 ∨ (0 ≤ K ∧ 8 * (p.n : Int) < K) ∨ (0 ≤ K ∧ K ≤ 8 * (p.n : Int) ∧ K ≤ 8 * ((p.n : Int) - 1)) := by omega
          have hr' := Lib.hid hr; clear hr
          go_wp2_with fail
          refine (Unpack_range _ _ _ K _ (by omega) hK hr'.out).mono ?_
          rintro e w' ⟨rfl, rfl⟩
          rcases h3 with h3 | ⟨h3, h4⟩ | ⟨h3, h4, h5⟩
          all_goals
            go_wp2_with (go_at_call 15; refine (known_any _).mono ?_; rintro e w9 ⟨rfl, hb9⟩)
            go_ret
            exact ⟨rfl, B5.trans (hb9.mono (by omega))⟩
        · obtain ⟨k, rfl⟩ := Int.eq_ofNat_of_zero_le (show 0 ≤ K by omega)
          have hk1 : k ≤ 8 * p.n := by omega
          have hk2 : (k + 7) / 8 = p.n := by omega
          have h3 : ¬ ((k : Int) < 0) := by omega
          have h4 : ¬ (8 * (p.n : Int) < (k : Int)) := by omega
          have h5 : ¬ ((k : Int) ≤ 8 * ((p.n : Int) - 1)) := by omega
          have hk2' := Lib.hid hk2; clear hr hk2
          go_wp2_with fail
          refine (Unpack_any _ _ _ k p.l _ (by omega) hk1 hk2'.out HPL.out (HPb5.out)).mono ?_
          intro e w6 hu
          rcases hu with ⟨ho, A6, c6, rfl, hc6, hown6, hb6⟩ | ⟨ho, rfl, hb6⟩
          · skip
            have s6 := hb6.size
            have B6 : Below w.heap.size w w6 := B5.trans (hb6.mono (by omega))
            have HPb6 := Lib.hid ((HPb5.out.below hb6).mono s6); clear HPb5
            have xa6 := (hb6.cell (p := ⟨w.heap.size, 0, none⟩) (by simp only; omega)).trans xa5; clear xa5
            have xb6 := (hb6.cell (p := ⟨w.heap.size, 1, none⟩) (by simp only; omega)).trans xb5; clear xb5
            have xc6 := (hb6.cell (p := ⟨w.heap.size, 2, none⟩) (by simp only; omega)).trans xc5; clear xc5
            have xd6 := (hb6.cell (p := ⟨w.heap.size, 3, none⟩) (by simp only; omega)).trans xd5; clear xd5
            have xe6 := (hb6.cell (p := ⟨w.heap.size, 4, none⟩) (by simp only; omega)).trans xe5; clear xe5
            have xf6 := (hb6.cell (p := ⟨w.heap.size, 5, none⟩) (by simp only; omega)).trans xf5; clear xf5
            have UL6 := Lib.hid (Rd.own hown6); clear hown6
            try dsimp only [id]
            have HO := Lib.hid ho; clear ho
            have rc := fun w' (hr : Rd w' w'.heap.size 1 p.A p.n (p.l.map fun x : Nat => Value.int .u8 x)) => refUnpack_any p.A p.n p.c k p.l w' (by omega) hk1 HPL.out hr
            rw [HO.out] at rc; have RC := Lib.hid rc; clear rc
            go_wp2_with fail
            refine (RC.out _ (HPb6.out)).mono ?_
            rintro e w7 ⟨A7, c7, rfl, hc7, hown7, hb7⟩
            have s7 := hb7.size
            have B7 : Below w.heap.size w w7 := B6.trans (hb7.mono (by omega))
            have HPb7 := Lib.hid ((HPb6.out.below hb7).mono s7); clear HPb6
            have UL7 := Lib.hid ((UL6.out.below hb7).mono s7); clear UL6
            have xa7 := (hb7.cell (p := ⟨w.heap.size, 0, none⟩) (by simp only; omega)).trans xa6; clear xa6
            have xb7 := (hb7.cell (p := ⟨w.heap.size, 1, none⟩) (by simp only; omega)).trans xb6; clear xb6
            have xc7 := (hb7.cell (p := ⟨w.heap.size, 2, none⟩) (by simp only; omega)).trans xc6; clear xc6
            have xd7 := (hb7.cell (p := ⟨w.heap.size, 3, none⟩) (by simp only; omega)).trans xd6; clear xd6
            have xe7 := (hb7.cell (p := ⟨w.heap.size, 4, none⟩) (by simp only; omega)).trans xe6; clear xe6
            have xf7 := (hb7.cell (p := ⟨w.heap.size, 5, none⟩) (by simp only; omega)).trans xf6; clear xf6
            have UV7 := Lib.hid (Rd.own hown7); clear hown7
            try dsimp only [id]
            go_wp2_with fail
            refine (Same_self _ _ _ _ _ _ (unL p.l k) _ (by omega) (by omega) (UL7.out) (UV7.out)).mono ?_
            rintro e w8 ⟨rfl, hb8⟩
            have s8 := hb8.size
            have B8 : Below w.heap.size w w8 := B7.trans (hb8.mono (by omega))
            have HPb8 := Lib.hid ((HPb7.out.below hb8).mono s8); clear HPb7
            have UL8 := Lib.hid ((UL7.out.below hb8).mono s8); clear UL7
            have UV8 := Lib.hid ((UV7.out.below hb8).mono s8); clear UV7
            have xa8 := (hb8.cell (p := ⟨w.heap.size, 0, none⟩) (by simp only; omega)).trans xa7; clear xa7
            have xb8 := (hb8.cell (p := ⟨w.heap.size, 1, none⟩) (by simp only; omega)).trans xb7; clear xb7
            have xc8 := (hb8.cell (p := ⟨w.heap.size, 2, none⟩) (by simp only; omega)).trans xc7; clear xc7
            have xd8 := (hb8.cell (p := ⟨w.heap.size, 3, none⟩) (by simp only; omega)).trans xd7; clear xd7
            have xe8 := (hb8.cell (p := ⟨w.heap.size, 4, none⟩) (by simp only; omega)).trans xe7; clear xe7
            have xf8 := (hb8.cell (p := ⟨w.heap.size, 5, none⟩) (by simp only; omega)).trans xf7; clear xf7
            go_wp2_with fail
            refine (known_any _).mono ?_
            rintro e w9 ⟨rfl, hb9⟩
            have s9 := hb9.size
            have B9 : Below w.heap.size w w9 := B8.trans (hb9.mono (by omega))
            have HPb9 := Lib.hid ((HPb8.out.below hb9).mono s9); clear HPb8
            have UL9 := Lib.hid ((UL8.out.below hb9).mono s9); clear UL8
            have UV9 := Lib.hid ((UV8.out.below hb9).mono s9); clear UV8
            have xa9 := (hb9.cell (p := ⟨w.heap.size, 0, none⟩) (by simp only; omega)).trans xa8; clear xa8
            have xb9 := (hb9.cell (p := ⟨w.heap.size, 1, none⟩) (by simp only; omega)).trans xb8; clear xb8
            have xc9 := (hb9.cell (p := ⟨w.heap.size, 2, none⟩) (by simp only; omega)).trans xc8; clear xc8
            have xd9 := (hb9.cell (p := ⟨w.heap.size, 3, none⟩) (by simp only; omega)).trans xd8; clear xd8
            have xe9 := (hb9.cell (p := ⟨w.heap.size, 4, none⟩) (by simp only; omega)).trans xe8; clear xe8
            have xf9 := (hb9.cell (p := ⟨w.heap.size, 5, none⟩) (by simp only; omega)).trans xf8; clear xf8
            go_wp2_with fail; go_ret; exact ⟨rfl, B9⟩
          · skip
            have s6 := hb6.size
            have B6 : Below w.heap.size w w6 := B5.trans (hb6.mono (by omega))
            have HPb6 := Lib.hid ((HPb5.out.below hb6).mono s6); clear HPb5
            have xa6 := (hb6.cell (p := ⟨w.heap.size, 0, none⟩) (by simp only; omega)).trans xa5; clear xa5
            have xb6 := (hb6.cell (p := ⟨w.heap.size, 1, none⟩) (by simp only; omega)).trans xb5; clear xb5
            have xc6 := (hb6.cell (p := ⟨w.heap.size, 2, none⟩) (by simp only; omega)).trans xc5; clear xc5
            have xd6 := (hb6.cell (p := ⟨w.heap.size, 3, none⟩) (by simp only; omega)).trans xd5; clear xd5
            have xe6 := (hb6.cell (p := ⟨w.heap.size, 4, none⟩) (by simp only; omega)).trans xe5; clear xe5
            have xf6 := (hb6.cell (p := ⟨w.heap.size, 5, none⟩) (by simp only; omega)).trans xf5; clear xf5
            have HO := Lib.hid ho; clear ho
            have rc := fun w' (hr : Rd w' w'.heap.size 1 p.A p.n (p.l.map fun x : Nat => Value.int .u8 x)) => refUnpack_any p.A p.n p.c k p.l w' (by omega) hk1 HPL.out hr
            rw [HO.out] at rc; have RC := Lib.hid rc; clear rc
            go_wp2_with fail
            refine (RC.out _ (HPb6.out)).mono ?_
            rintro e w7 ⟨A7, c7, rfl, hc7, hown7, hb7⟩
            have s7 := hb7.size
            have B7 : Below w.heap.size w w7 := B6.trans (hb7.mono (by omega))
            have HPb7 := Lib.hid ((HPb6.out.below hb7).mono s7); clear HPb6
            have xa7 := (hb7.cell (p := ⟨w.heap.size, 0, none⟩) (by simp only; omega)).trans xa6; clear xa6
            have xb7 := (hb7.cell (p := ⟨w.heap.size, 1, none⟩) (by simp only; omega)).trans xb6; clear xb6
            have xc7 := (hb7.cell (p := ⟨w.heap.size, 2, none⟩) (by simp only; omega)).trans xc6; clear xc6
            have xd7 := (hb7.cell (p := ⟨w.heap.size, 3, none⟩) (by simp only; omega)).trans xd6; clear xd6
            have xe7 := (hb7.cell (p := ⟨w.heap.size, 4, none⟩) (by simp only; omega)).trans xe6; clear xe6
            have xf7 := (hb7.cell (p := ⟨w.heap.size, 5, none⟩) (by simp only; omega)).trans xf6; clear xf6
            have UV7 := Lib.hid (Rd.own hown7); clear hown7
            try dsimp only [id]
            go_wp2_with fail
            refine (known_any _).mono ?_
            rintro e w8 ⟨rfl, hb8⟩
            have s8 := hb8.size
            have B8 : Below w.heap.size w w8 := B7.trans (hb8.mono (by omega))
            have HPb8 := Lib.hid ((HPb7.out.below hb8).mono s8); clear HPb7
            have UV8 := Lib.hid ((UV7.out.below hb8).mono s8); clear UV7
            have xa8 := (hb8.cell (p := ⟨w.heap.size, 0, none⟩) (by simp only; omega)).trans xa7; clear xa7
            have xb8 := (hb8.cell (p := ⟨w.heap.size, 1, none⟩) (by simp only; omega)).trans xb7; clear xb7
            have xc8 := (hb8.cell (p := ⟨w.heap.size, 2, none⟩) (by simp only; omega)).trans xc7; clear xc7
            have xd8 := (hb8.cell (p := ⟨w.heap.size, 3, none⟩) (by simp only; omega)).trans xd7; clear xd7
            have xe8 := (hb8.cell (p := ⟨w.heap.size, 4, none⟩) (by simp only; omega)).trans xe7; clear xe7
            have xf8 := (hb8.cell (p := ⟨w.heap.size, 5, none⟩) (by simp only; omega)).trans xf7; clear xf7
            go_wp2_with fail; go_ret; exact ⟨rfl, B8⟩
end Go.Proofs.Ytahfkhnhmnjbeaa
