/- The contract of the test that Bound makes. Conditions: as each statement says. -/
import Derived.Test.YtncjmndiafgaaaaNat19
import Derived.Test.YtncjmndiafgaaaaBinMath
namespace Go.Proofs.Ytncjmndiafgaaaa
open Go.RowKit
set_option linter.unusedVariables false
theorem waysS_sum (T b s : Nat) : ∀ k, waysS T b s k = sumB b (T - b) s k
  | 0 => rfl
  | k + 1 => by rw [waysS, waysS_sum T b s k, sumB]
theorem ways_le_bin (T b s k : Nat) (hb : b ≤ T) (h : k ≤ s + 1) : waysS T b s k ≤ bin T s := by
  rw [waysS_sum]
  have := sumB_le b (T - b) s k h
  rwa [show b + (T - b) = T by omega] at this
theorem ways_down (T b s k : Nat) (hb : b < T) (h : k ≤ s) : waysS T (b + 1) s (k + 1) ≤ waysS T b s (k + 1) := by
  rw [waysS_sum, waysS_sum]
  have := sumB_down b (T - (b + 1)) s k h
  rwa [show T - (b + 1) + 1 = T - b by omega] at this
/-- Whether a number of bad things is not excluded. -/
def possB (T s se v u b : Nat) : Bool := decide (v * bin T s < waysS T b s (se + 1) * u)
/-- The boxes that Bound's test reads. -/
abbrev BxC (w : World) (g : Nat) (TI sI seI : Int) (f : FV) : Prop := w.cell? ⟨g, 0, none⟩ = some (.int .i64 TI) ∧ w.cell? ⟨g + 1, 0, none⟩ = some (.int .i64 sI) ∧ w.cell? ⟨g + 1 + 1, 0, none⟩ = some (.int .i64 seI) ∧ w.cell? ⟨g + 1 + 1 + 1, 0, none⟩ = some (.slice f.A f.n f.c) ∧ w.cell? ⟨g + 1 + 1 + 1, 1, none⟩ = some (.slice f.B f.m f.d)
theorem BxC.past {w w' : World} {B g : Nat} {TI sI seI : Int} {f : FV} (h : BxC w g TI sI seI f) (hb : Below B w w') (hg : g + 1 + 1 + 1 < B) : BxC w' g TI sI seI f := by
  obtain ⟨a, b, c, d, e⟩ := h
  exact ⟨(hb.cell (p := ⟨g, 0, none⟩) (by show g < B; omega)).trans a, (hb.cell (p := ⟨g + 1, 0, none⟩) (by show g + 1 < B; omega)).trans b, (hb.cell (p := ⟨g + 1 + 1, 0, none⟩) (by show g + 1 + 1 < B; omega)).trans c, (hb.cell (p := ⟨g + 1 + 1 + 1, 0, none⟩) (by show g + 1 + 1 + 1 < B; omega)).trans d, (hb.cell (p := ⟨g + 1 + 1 + 1, 1, none⟩) (by show g + 1 + 1 + 1 < B; omega)).trans e⟩
abbrev BxL (w : World) (g h : Nat) (TI sI seI : Int) (f : FV) (A : Option Addr) (n c : Nat) : Prop := BxC w g TI sI seI f ∧ w.cell? ⟨h, 0, none⟩ = some (.slice A n c)
theorem BxL.past {w w' : World} {B g h : Nat} {TI sI seI : Int} {f : FV} {A : Option Addr} {n c : Nat} (h1 : BxL w g h TI sI seI f A n c) (hb : Below B w w') (hg : g + 1 + 1 + 1 < h) (hh : h < B) : BxL w' g h TI sI seI f A n c :=
  ⟨BxC.past h1.1 hb (by omega), (hb.cell (p := ⟨h, 0, none⟩) hh).trans h1.2⟩
def PossP (T s se v u b : Nat) (w : World) (e : Ending) (w' : World) : Prop := e = .returned (.bool (possB T s se v u b)) ∧ Below w.heap.size w w'
theorem ord_poss {v u : Nat} : (0 < ordI u v) ↔ v < u := by
  unfold ordI; split
  · constructor <;> intro h <;> omega
  · split <;> constructor <;> intro h <;> omega
set_option maxRecDepth 100000 in
set_option maxHeartbeats 2000000 in
theorem possible_num (g h : Nat) (f : FV) (A : Option Addr) (n c : Nat) (w : World) (T s se b : Nat) (TI sI seI bI : Int) (hTI : TI = T) (hsI : sI = s) (hseI : seI = se) (hbI : bI = b) (hT : T ≤ 10) (hs : s ≤ T) (hse : se ≤ s) (hb : b ≤ T)
    (hC : BxL w g h TI sI seI f A n c) (hgh : g + 1 + 1 + 1 < h) (hh : h < w.heap.size) (hf : f.ok w w.heap.size) (hl : NumR w w.heap.size A n c (f.v * bin T s)) (hu : f.u ≤ 1000000) (hv : f.v ≤ 1000000) :
    Calls Try.prog 30 #[.int .i64 bI, .pointer (some ⟨g, 0, none⟩), .pointer (some ⟨g + 1, 0, none⟩), .pointer (some ⟨g + 1 + 1, 0, none⟩), .pointer (some ⟨g + 1 + 1 + 1, 0, none⟩), .pointer (some ⟨h, 0, none⟩)] w (PossP T s se f.v f.u b w) := by
  have hwb := ways_le_bin T b s (se + 1) hb (by omega)
  have hbn := bin_le T hT s
  have hprod : waysS T b s (se + 1) * f.u ≤ 252 * 1000000 := Nat.mul_le_mul (by omega) hu
  have HTI := Lib.hid hTI; have HSI := Lib.hid hsI; have HSE := Lib.hid hseI; have HBI := Lib.hid hbI
  have HF := Lib.hid hf; have HL := Lib.hid hl; have HC := Lib.hid hC
  clear hTI hsI hseI hbI hf hl hC
  have HPV : Hid (possB T s se f.v f.u b = decide (f.v * bin T s < waysS T b s (se + 1) * f.u)) := Lib.hid rfl
  go_enter Try.func30, Try.ntmps30
  go_wp2_with fail
  have c0 := HC.out
  go_region_held3 (fun w' => BxL w' g h TI sI seI f A n c) (first | exact c0 | exact c1 | exact c2 | exact c3)
    ((first
      | (go_at_call 31
         refine (ways_num T b s se TI bI sI seI HTI.out HBI.out HSI.out HSE.out hT hb hs hse).mono ?_
         rintro e w1 ⟨A1, n1, k1, rfl, hr1, hb1⟩
         have HB1 := Lib.hid ((Qw.below (⟨1, rfl⟩ : Qw w (World.drew w)) w.heap.size).trans hb1)
         have HR1 := Lib.hid hr1
         have c1 := BxL.past HC.out HB1.out hgh hh
         clear hr1 hb1)
      | (go_at_call 28
         refine (times_num HR1.out (HF.out.den.next HB1.out) (by omega)).mono ?_
         rintro e w2 ⟨A2, n2, k2, rfl, hr2, hb2⟩
         have HB2 := Lib.hid (bnextN HB1.out hb2)
         have HR2 := Lib.hid hr2
         have c2 := BxL.past HC.out HB2.out hgh hh
         clear hr2 hb2)
      | (go_at_call 18
         refine (order_num HR2.out (HL.out.next HB2.out)).mono ?_
         rintro e w3 ⟨he, hq⟩
         obtain ⟨z, hz, rfl⟩ : ∃ z, z = ordI (waysS T b s (se + 1) * f.u) (f.v * bin T s) ∧ e = .returned (.int .i64 z) := ⟨_, rfl, he⟩
         have HZ := Lib.hid hz
         have HB3 := Lib.hid (HB2.out.trans (hq.below _))
         have c3 := BxL.past HC.out HB3.out hgh hh
         clear hz hq he)))
  have HP : Hid (possB T s se f.v f.u b = decide (0 < z)) := Lib.hid (by
    rw [HPV.out, HZ.out]
    exact decide_eq_decide.2 ord_poss.symm)
  go_wp2_with fail
  go_ret
  exact ⟨by rw [HP.out]; rfl, HB3.out⟩
#print axioms possible_num
end Go.Proofs.Ytncjmndiafgaaaa
