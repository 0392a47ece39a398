/- The contracts of Check, check, sane, valid and FracCompare at small numbers. Conditions: as each statement says. -/
import Derived.Test.YtncjmndiafgaaaaNat17
namespace Go.Proofs.Ytncjmndiafgaaaa
open Go.RowKit
set_option linter.unusedVariables false
theorem Check_ok (A : Option Addr) (n c : Nat) (w : World) (hn : n ≤ 64) : Calls Try.prog 46 #[.slice A n c] w fun e w' => e = .returned (.int .i64 0) ∧ w = w' := by
  have h : ¬ (64 : Int) < (n : Int) := by omega
  go_enter Try.func46, Try.ntmps46
  go_wp2_with fail
  go_ret
  exact ⟨rfl, rfl⟩
theorem check_ok (A A' : Option Addr) (n c n' c' : Nat) (w : World) (hn : n ≤ 64) (hn' : n' ≤ 64) : Calls Try.prog 32 #[.slice A n c, .slice A' n' c'] w fun e w' => e = .returned (.int .i64 0) ∧ w = w' := by
  go_enter Try.func32, Try.ntmps32
  go_wp2_with fail
  refine (Check_ok A n c _ hn).mono ?_
  rintro e w' ⟨rfl, rfl⟩
  go_wp2_with fail
  refine (Check_ok A' n' c' _ hn').mono ?_
  rintro e w' ⟨rfl, rfl⟩
  go_wp2_with fail
  go_ret
  exact ⟨rfl, rfl⟩
theorem sane_yes (nI kI : Int) (w : World) (h0 : 0 ≤ kI) (h1 : kI ≤ nI) (h2 : nI ≤ 512) : Calls Try.prog 27 #[.int .i64 nI, .int .i64 kI] w fun e w' => e = .returned (.bool true) ∧ w = w' := by
  have h3 : 0 ≤ nI := by omega
  go_enter Try.func27, Try.ntmps27
  go_wp2_with fail
  go_ret
  exact ⟨rfl, rfl⟩
/-- A fraction's two slices, and their values. -/
structure FV where
  A : Option Addr
  n : Nat
  c : Nat
  v : Nat
  B : Option Addr
  m : Nat
  d : Nat
  u : Nat
def FV.val (f : FV) : Value := .agg #[.slice f.A f.n f.c, .slice f.B f.m f.d]
structure FV.ok (f : FV) (w : World) (B : Nat) : Prop where
  num : NumR w B f.A f.n f.c f.v
  den : NumR w B f.B f.m f.d f.u
  pos : 0 < f.u
theorem FV.ok.past {f : FV} {w w' : World} {B : Nat} (h : f.ok w B) (hb : Below B w w') (hB : B ≤ w'.heap.size) : f.ok w' w'.heap.size := ⟨h.num.past hb hB, h.den.past hb hB, h.pos⟩
theorem FV.ok.next {f : FV} {w w' : World} (h : f.ok w w.heap.size) (hb : Below w.heap.size w w') : f.ok w' w'.heap.size := h.past hb hb.size
theorem FV.ok.q {f : FV} {w w' : World} {B : Nat} (h : f.ok w B) (hq : Qw w w') : f.ok w' B := ⟨h.num.q hq, h.den.q hq, h.pos⟩
/-- A list of fractions. -/
structure FsAt (w : World) (b m : Nat) (F : Nat → FV) : Prop where
  lt : b < w.heap.size
  c0 : ∀ i, i < m → w.cell? ⟨b, i * 2, none⟩ = some (.slice (F i).A (F i).n (F i).c)
  c1 : ∀ i, i < m → w.cell? ⟨b, i * 2 + 1, none⟩ = some (.slice (F i).B (F i).m (F i).d)
  ok : ∀ i, i < m → (F i).ok w w.heap.size
theorem FsAt.next {w w' : World} {b m : Nat} {F : Nat → FV} (h : FsAt w b m F) (hb : Below w.heap.size w w') : FsAt w' b m F :=
  ⟨Nat.lt_of_lt_of_le h.lt hb.size, fun i hi => (hb.cell (p := ⟨b, i * 2, none⟩) h.lt).trans (h.c0 i hi), fun i hi => (hb.cell (p := ⟨b, i * 2 + 1, none⟩) h.lt).trans (h.c1 i hi), fun i hi => (h.ok i hi).next hb⟩
set_option maxHeartbeats 1000000 in
theorem valid_ok (b m : Nat) (F : Nat → FV) (w : World) (hm : m ≤ 1000) (h : FsAt w b m F) :
    Calls Try.prog 16 #[.slice (some ⟨b, 0, none⟩) m m] w fun e w' => e = .returned (.int .i64 0) ∧ Below w.heap.size w w' := by
  have H := Lib.hid h
  clear h
  go_enter Try.func16, Try.ntmps16
  go_wp2_with fail
  go_loopw [10] (fun i wr => ∃ k : Nat, k ≤ m ∧ i = .int .i64 k ∧ FsAt wr b m F ∧ Below w.heap.size w wr) (fun i _ => m - (intOf i).toNat)
  case atStart => exact ⟨0, Nat.zero_le _, rfl, H.out, Below.refl _ _⟩
  case round =>
    obtain ⟨k, hk, rfl, hf, hb⟩ := hrel
    obtain ⟨wa, rfl⟩ : ∃ z : World, z = wr := ⟨_, rfl⟩
    have HF := Lib.hid hf; have HB := Lib.hid hb
    clear hf hb
    by_cases hlt : k < m
    · have hki : (k : Int) < (m : Int) := by omega
      have r0 := HF.out.c0 k hlt; have r1 := HF.out.c1 k hlt
      have ho := HF.out.ok k hlt
      have n1 := ho.num.n2; have n2 := ho.den.n2
      clear ho
      generalize F k = f at r0 r1 n1 n2
      go_wp2_with fail
      refine (check_ok f.A f.B f.n f.c f.m f.d _ (by omega) (by omega)).mono ?_
      rintro e w' ⟨rfl, rfl⟩
      go_wp2_with fail
      go_roundw
      case rel => exact ⟨k + 1, by omega, by go_num, HF.out.next ((Below.refl _ _).alloc (Nat.le_refl _) _), HB.out.alloc HB.out.size _⟩
      case measure => simp [intOf]; omega
    · have hki : ¬ (k : Int) < (m : Int) := by omega
      go_wp2_with fail
      go_loopw [25] (fun i wr => ∃ k : Nat, k ≤ m ∧ i = .int .i64 k ∧ FsAt wr b m F ∧ Below w.heap.size w wr) (fun i _ => m - (intOf i).toNat)
      case atStart => exact ⟨0, Nat.zero_le _, rfl, HF.out, HB.out⟩
      case round =>
        clear hk hlt hki
        obtain ⟨k2, hk, rfl, hf, hb⟩ := hrel
        obtain ⟨wb, rfl⟩ : ∃ z : World, z = wr := ⟨_, rfl⟩
        have HF2 := Lib.hid hf; have HB2 := Lib.hid hb
        clear hf hb HF HB
        by_cases hlt : k2 < m
        · have hki : (k2 : Int) < (m : Int) := by omega
          have r0 := HF2.out.c0 k2 hlt; have r1 := HF2.out.c1 k2 hlt
          have HO := Lib.hid (HF2.out.ok k2 hlt)
          generalize F k2 = f at r0 r1 HO
          go_wp2_with fail
          refine (size_pos (HO.out.den.next ((Below.refl _ _).alloc (Nat.le_refl _) _)) HO.out.pos).mono ?_
          rintro e w' ⟨⟨z, hz, rfl⟩, rfl⟩
          have hz1 : (z == 0) = false := by simp; omega
          have hz2 : ¬ z = 0 := by omega
          go_wp2_with fail
          go_roundw
          case rel => exact ⟨k2 + 1, by omega, by go_num, HF2.out.next ((Below.refl _ _).alloc (Nat.le_refl _) _), HB2.out.alloc HB2.out.size _⟩
          case measure => simp [intOf]; omega
        · have hki : ¬ (k2 : Int) < (m : Int) := by omega
          go_wp2_with fail
          go_ret
          exact ⟨rfl, HB2.out⟩
/-- A fraction in a box. -/
abbrev FBox (w : World) (g : Nat) (f : FV) : Prop := w.cell? ⟨g, 0, none⟩ = some (.slice f.A f.n f.c) ∧ w.cell? ⟨g, 1, none⟩ = some (.slice f.B f.m f.d)
theorem FBox.past {w w' : World} {B g : Nat} {f : FV} (h : FBox w g f) (hb : Below B w w') (hg : g < B) : FBox w' g f :=
  ⟨(hb.cell (p := ⟨g, 0, none⟩) hg).trans h.1, (hb.cell (p := ⟨g, 1, none⟩) hg).trans h.2⟩
theorem fs_one (w : World) (f : FV) (t : TypeId) (h : f.ok w w.heap.size) : FsAt (w.alloc (.cells #[.slice f.A f.n f.c, .slice f.B f.m f.d] t)) w.heap.size 1 (fun _ => f) := by
  have k1 := heap_alloc_new w (.cells #[.slice f.A f.n f.c, .slice f.B f.m f.d] t)
  refine ⟨by simp, fun i hi => ?_, fun i hi => ?_, fun i hi => h.past ((Below.refl _ _).alloc (Nat.le_refl _) _) (by simp)⟩
  all_goals
    obtain rfl : i = 0 := by omega
    rw [cell_of_row _ _ _ _ _ _ k1]; rfl
theorem fs_two (w : World) (f g : FV) (t : TypeId) (h : f.ok w w.heap.size) (h' : g.ok w w.heap.size) : FsAt (w.alloc (.cells #[.slice f.A f.n f.c, .slice f.B f.m f.d, .slice g.A g.n g.c, .slice g.B g.m g.d] t)) w.heap.size 2 (fun i => if i = 0 then f else g) := by
  have k1 := heap_alloc_new w (.cells #[.slice f.A f.n f.c, .slice f.B f.m f.d, .slice g.A g.n g.c, .slice g.B g.m g.d] t)
  refine ⟨by simp, fun i hi => ?_, fun i hi => ?_, fun i hi => ?_⟩
  · rcases (by omega : i = 0 ∨ i = 1) with rfl | rfl <;> (rw [cell_of_row _ _ _ _ _ _ k1]; rfl)
  · rcases (by omega : i = 0 ∨ i = 1) with rfl | rfl <;> (rw [cell_of_row _ _ _ _ _ _ k1]; rfl)
  · rcases (by omega : i = 0 ∨ i = 1) with rfl | rfl
    · exact h.past ((Below.refl _ _).alloc (Nat.le_refl _) _) (by simp)
    · exact h'.past ((Below.refl _ _).alloc (Nat.le_refl _) _) (by simp)
set_option maxHeartbeats 1000000 in
theorem compare_num (f g : FV) (w : World) (h : f.ok w w.heap.size) (h' : g.ok w w.heap.size) (hv : f.v * g.u ≤ 4000000000) (hu : g.v * f.u ≤ 4000000000) :
    Calls Try.prog 8 #[.agg #[.slice f.A f.n f.c, .slice f.B f.m f.d], .agg #[.slice g.A g.n g.c, .slice g.B g.m g.d]] w
      fun e w' => e = .returned (.tuple #[.int .i64 (ordI (f.v * g.u) (g.v * f.u)), .int .i64 0]) ∧ Below w.heap.size w w' := by
  have H := Lib.hid h; have H' := Lib.hid h'
  clear h h'
  go_enter Try.func8, Try.ntmps8
  go_wp2_with fail
  have HF0 := Lib.hid (four_new w (.slice f.A f.n f.c) (.slice f.B f.m f.d) (.slice g.A g.n g.c) (.slice g.B g.m g.d) 29)
  have HB0 : Hid (Below w.heap.size w ((w.alloc (.cells #[.slice f.A f.n f.c, .slice f.B f.m f.d] 29)).alloc (.cells #[.slice g.A g.n g.c, .slice g.B g.m g.d] 29))) := Lib.hid (((Below.refl _ _).alloc (Nat.le_refl _) _).alloc (by simp) _)
  have HS : Hid (((w.alloc (.cells #[.slice f.A f.n f.c, .slice f.B f.m f.d] 29)).alloc (.cells #[.slice g.A g.n g.c, .slice g.B g.m g.d] 29)).heap.size = w.heap.size + 1 + 1) := Lib.hid (by simp)
  generalize (w.alloc (.cells #[.slice f.A f.n f.c, .slice f.B f.m f.d] 29)).alloc (.cells #[.slice g.A g.n g.c, .slice g.B g.m g.d] 29) = W at HF0 HB0 HS ⊢
  have HV := Lib.hid (fs_two W f g 29 (H.out.past HB0.out HB0.out.size) (H'.out.past HB0.out HB0.out.size))
  rw [HS.out] at HV
  refine (valid_ok (w.heap.size + 1 + 1) 2 _ _ (by omega) HV.out).mono ?_
  rintro e w2 ⟨rfl, hb2⟩
  have hb3 : Below W.heap.size W w2 := ((Below.refl _ _).alloc (Nat.le_refl _) _).trans (hb2.mono (by simp))
  have hf2 := FourC.past HF0.out hb3 (by rw [HS.out]; omega)
  have HB2 := Lib.hid (bnextN HB0.out hb3)
  clear hb2 hb3 HF0
  go_wp2_with fail
  refine (cross_num (H.out.num.past HB2.out HB2.out.size) (H.out.den.past HB2.out HB2.out.size) (H'.out.num.past HB2.out HB2.out.size) (H'.out.den.past HB2.out HB2.out.size) hv hu).mono ?_
  rintro e w3 ⟨A1, n1, c1, A2, n2, c2, rfl, hr1, hr2, hb3⟩
  have HR1 := Lib.hid hr1; have HR2 := Lib.hid hr2; have HB3 := Lib.hid (bnextN HB2.out hb3)
  clear hr1 hr2 hb3 hf2
  go_wp2_with fail
  refine (order_num HR1.out HR2.out).mono ?_
  rintro e w4 ⟨rfl, hq⟩
  have HB4 := Lib.hid (HB3.out.trans (hq.below _))
  clear hq
  go_wp2_with fail
  go_ret2
  exact ⟨rfl, HB4.out⟩
#print axioms compare_num
end Go.Proofs.Ytncjmndiafgaaaa
