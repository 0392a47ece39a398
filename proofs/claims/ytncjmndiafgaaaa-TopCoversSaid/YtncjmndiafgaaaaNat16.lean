/- The contracts of next, choose and cross at small numbers. Conditions: as each statement says. -/
import Derived.Test.YtncjmndiafgaaaaNat15
namespace Go.Proofs.Ytncjmndiafgaaaa
open Go.RowKit
set_option linter.unusedVariables false
set_option maxHeartbeats 1000000 in
theorem next_num {A : Option Addr} {n c v : Nat} {w : World} (NI kI : Int) (d k : Nat) (hk : kI = k) (hd : NI - kI = d) (hk1 : k ≤ 1000) (hd1 : d ≤ 1000) (h : NumR w w.heap.size A n c v) (hv : v * d ≤ 4000000000) :
    Calls Try.prog 43 #[.slice A n c, .int .i64 NI, .int .i64 kI] w (RetNum w (v * d / (k + 1))) := by
  obtain ⟨dI, hdI⟩ : ∃ dI : Int, dI = (d : Int) := ⟨_, rfl⟩
  obtain ⟨k1, hk1I⟩ : ∃ k1 : Int, k1 = ((k + 1 : Nat) : Int) := ⟨_, rfl⟩
  have w1 : IntKind.u32.wrap (NI - kI) = dI := by rw [IntKind.wrap_u32]; omega
  have w2 : IntKind.u32.wrap (kI + 1) = k1 := by rw [IntKind.wrap_u32]; omega
  have b1 : 0 ≤ kI := by omega
  have b2 : kI ≤ 1000 := by omega
  have b3 : 0 ≤ NI := by omega
  have b4 : NI ≤ 2000 := by omega
  have HN := Lib.hid h; have HD := Lib.hid hdI; have HK := Lib.hid hk1I
  clear h hdI hk1I hk hd
  go_enter Try.func43, Try.ntmps43
  go_wp2_with fail
  refine (times_num (HN.out.next ((Below.refl _ _).alloc (Nat.le_refl _) (.cells #[.int .u32 dI] 47))) ((num_lit w dI d HD.out (by omega)).mono (by simp)) hv).mono ?_
  rintro e w1' ⟨A1, n1, c1, rfl, hr1, hb1⟩
  have HR1 := Lib.hid hr1; have HB1 := Lib.hid (((Below.refl w.heap.size w).alloc (Nat.le_refl _) (.cells #[.int .u32 dI] 47)).trans (hb1.mono (by simp)))
  clear hr1 hb1
  go_wp2_with fail
  refine (split_num (HR1.out.next ((Below.refl _ _).alloc (Nat.le_refl _) (.cells #[.int .u32 k1] 47))) ((num_lit w1' k1 (k + 1) HK.out (by omega)).mono (by simp)) (by omega) hv (by omega)).mono ?_
  rintro e w2' ⟨A2, n2, c2, A3, n3, c3, rfl, hr2, hr3, hb2⟩
  have HR2 := Lib.hid hr2; have HB2 := Lib.hid (HB1.out.trans (((Below.refl w.heap.size w1').alloc HB1.out.size (.cells #[.int .u32 k1] 47)).trans (hb2.mono (by have := HB1.out.size; simp; omega))))
  clear hr2 hr3 hb2
  go_wp2_with fail
  go_ret
  exact ⟨A2, n2, c2, rfl, HR2.out, HB2.out⟩
/-- Two boxes of two cells each. -/
abbrev FourC (w : World) (g : Nat) (x y z u : Value) : Prop := w.cell? ⟨g, 0, none⟩ = some x ∧ w.cell? ⟨g, 1, none⟩ = some y ∧ w.cell? ⟨g + 1, 0, none⟩ = some z ∧ w.cell? ⟨g + 1, 1, none⟩ = some u
theorem four_new (w : World) (x y z u : Value) (t : TypeId) : FourC ((w.alloc (.cells #[x, y] t)).alloc (.cells #[z, u] t)) w.heap.size x y z u := by
  have k1 : ((w.alloc (.cells #[x, y] t)).alloc (.cells #[z, u] t)).heap[w.heap.size]? = some (.cells #[x, y] t (0, 0)) := by
    simp only [World.alloc]
    rw [Array.getElem?_push_lt (by simp)]
    simp
  have k2 : ((w.alloc (.cells #[x, y] t)).alloc (.cells #[z, u] t)).heap[w.heap.size + 1]? = some (.cells #[z, u] t (0, 0)) := by
    have := heap_alloc_new (w.alloc (.cells #[x, y] t)) (.cells #[z, u] t)
    simpa using this
  refine ⟨?_, ?_, ?_, ?_⟩
  · rw [cell_of_row _ _ _ _ _ _ k1]; rfl
  · rw [cell_of_row _ _ _ _ _ _ k1]; rfl
  · rw [cell_of_row _ _ _ _ _ _ k2]; rfl
  · rw [cell_of_row _ _ _ _ _ _ k2]; rfl
theorem FourC.past {w w' : World} {B g : Nat} {x y z u : Value} (h : FourC w g x y z u) (hb : Below B w w') (hg : g + 1 < B) : FourC w' g x y z u := by
  obtain ⟨a, b, c, d⟩ := h
  exact ⟨(hb.cell (p := ⟨g, 0, none⟩) (by show g < B; omega)).trans a, (hb.cell (p := ⟨g, 1, none⟩) (by show g < B; omega)).trans b, (hb.cell (p := ⟨g + 1, 0, none⟩) (by show g + 1 < B; omega)).trans c, (hb.cell (p := ⟨g + 1, 1, none⟩) (by show g + 1 < B; omega)).trans d⟩
set_option maxHeartbeats 1000000 in
theorem cross_num {A B C D : Option Addr} {na ca nb cb nc cc nd cd a b c d : Nat} {w : World} (h1 : NumR w w.heap.size A na ca a) (h2 : NumR w w.heap.size B nb cb b) (h3 : NumR w w.heap.size C nc cc c) (h4 : NumR w w.heap.size D nd cd d) (hv : a * d ≤ 4000000000) (hu : c * b ≤ 4000000000) :
    Calls Try.prog 17 #[.agg #[.slice A na ca, .slice B nb cb], .agg #[.slice C nc cc, .slice D nd cd]] w (TwoNum w (a * d) (c * b)) := by
  have H1 := Lib.hid h1; have H2 := Lib.hid h2; have H3 := Lib.hid h3; have H4 := Lib.hid h4
  clear h1 h2 h3 h4
  go_enter Try.func17, Try.ntmps17
  go_wp2_with fail
  have HF0 := Lib.hid (four_new w (.slice A na ca) (.slice B nb cb) (.slice C nc cc) (.slice D nd cd) 29)
  have HB0 : Hid (Below w.heap.size w ((w.alloc (.cells #[.slice A na ca, .slice B nb cb] 29)).alloc (.cells #[.slice C nc cc, .slice D nd cd] 29))) := Lib.hid (((Below.refl _ _).alloc (Nat.le_refl _) _).alloc (by simp) _)
  have hsz : w.heap.size + 1 < ((w.alloc (.cells #[.slice A na ca, .slice B nb cb] 29)).alloc (.cells #[.slice C nc cc, .slice D nd cd] 29)).heap.size := by simp
  generalize (w.alloc (.cells #[.slice A na ca, .slice B nb cb] 29)).alloc (.cells #[.slice C nc cc, .slice D nd cd] 29) = W at HF0 HB0 hsz ⊢
  have f0 := HF0.out
  go_region_held3 (fun w' => FourC w' w.heap.size (.slice A na ca) (.slice B nb cb) (.slice C nc cc) (.slice D nd cd)) (first | exact f0 | exact f1 | exact f2)
    ((first
      | (have hsecond := f1
         go_at_call 28
         refine (times_num ((H3.out.past HB1.out HB1.out.size)) ((H2.out.past HB1.out HB1.out.size)) hu).mono ?_
         rintro e w3 ⟨A2, n2, c2, rfl, hr2, hb2⟩
         have HR2 := Lib.hid hr2
         have HR1' := Lib.hid (HR1.out.next hb2)
         have f2 := FourC.past f1 hb2 (by have := HB1.out.size; omega)
         have HB2 := Lib.hid (HB1.out.trans (hb2.mono HB1.out.size))
         clear hr2 hb2)
      | (go_at_call 28
         refine (times_num ((H1.out.past HB0.out HB0.out.size).q (w' := World.drew _) ⟨1, rfl⟩) ((H4.out.past HB0.out HB0.out.size).q (w' := World.drew _) ⟨1, rfl⟩) hv).mono ?_
         rintro e w2 ⟨A1, n1, c1, rfl, hr1, hb1⟩
         have HR1 := Lib.hid hr1
         have f1 := FourC.past (w := World.drew W) f0 hb1 hsz
         have hsz1 : w.heap.size + 1 < w2.heap.size := Nat.lt_of_lt_of_le hsz hb1.size
         have HB1 := Lib.hid ((HB0.out.trans ((Qw.below (w' := World.drew _) ⟨1, rfl⟩ _))).trans (hb1.mono HB0.out.size))
         clear hr1 hb1)))
  go_wp2_with fail
  go_ret2
  exact ⟨_, _, _, _, _, _, rfl, HR1'.out, HR2.out, HB2.out⟩
#print axioms cross_num
end Go.Proofs.Ytncjmndiafgaaaa
