/- How a list of links by numbers that came in is opened. Conditions: none beyond those in each statement. -/
import Derived.Test.YtblilfbhohnbgaaGreatOpen
import Derived.Test.YtblilfbhohnbgaaGreatNet35
namespace Go.Proofs.YtblilfbhohnbgaaGreat
open Go.ChangeShapes Go.WideShapes Go.ChangeAt Go.RowKit
set_option linter.unusedVariables false
section
variable {H : Type} {enc : TypeId × Value → H} {P : Program} {w : World} {base : Nat} {spare : Nat → Bool} {held : Bool}
theorem OpenPr_fields3 {t : TypeId} {f0 f1 f2 : Field} {fuel : Nat} {cs : List Value} {x : DataW H × List MemPlace} (ht : P.underlying t = some (.struct #[f0, f1, f2])) (h : DataW.trod enc P w base spare held fuel t cs = some x) :
    ∃ (n : Nat) (y0 y1 y2 : DataW H × List MemPlace), DataW.trod enc P w base spare held n f0.type ((cs.drop f0.offset).take (P.cellsOf f0.type)) = some y0 ∧ DataW.trod enc P w base spare held n f1.type ((cs.drop f1.offset).take (P.cellsOf f1.type)) = some y1 ∧ DataW.trod enc P w base spare held n f2.type ((cs.drop f2.offset).take (P.cellsOf f2.type)) = some y2 := by
  obtain ⟨xs, n, _, rfl, hl, hlen, hf⟩ := DataW.trod_struct ht h
  match xs, hlen with
  | [y0, y1, y2], _ => exact ⟨n, y0, y1, y2, by simpa using hf 0 f0 rfl, by simpa using hf 1 f1 rfl, by simpa using hf 2 f2 rfl⟩
end
theorem OpenPr_list3 {α : Type} {l : List α} (h : l.length = 3) : ∃ a b c, l = [a, b, c] := by
  match l, h with
  | [a, b, c], _ => exact ⟨a, b, c, rfl⟩
theorem OpenPr_list {α : Type} {Q : Nat → α → Prop} : ∀ (n : Nat), (∀ k, k < n → ∃ x, Q k x) → ∃ l : List α, l.length = n ∧ ∀ k (h : k < l.length), Q k l[k]
  | 0, _ => ⟨[], rfl, fun k h => absurd h (by simp)⟩
  | n + 1, h => by
    obtain ⟨l, hl, hq⟩ := OpenPr_list n (fun k hk => h k (by omega))
    obtain ⟨x, hx⟩ := h n (by omega)
    refine ⟨l ++ [x], by simp [hl], fun k hk => ?_⟩
    rcases Nat.lt_or_ge k l.length with h1 | h1
    · rw [List.getElem_append_left h1]; exact hq k h1
    · have hk' : k = l.length := by simp at hk; omega
      subst hk'
      rw [List.getElem_append_right (Nat.le_refl _)]
      simpa [hl] using hx
theorem prCells_len : ∀ l : List PrN, (prCells l).length = l.length * 3
  | [] => rfl
  | a :: l => by
    have := prCells_len l
    simp only [prCells, List.flatMap_cons, List.length_append, List.length_cons, List.length_nil] at this ⊢; omega
/-- A list of links that came in. -/
structure PrsArg where
  A : Option Addr
  n : Nat
  c : Nat
  l : List PrN
def IsPrs (w : World) (v : Value) (i : PrsArg) : Prop := v = .slice i.A i.n i.c ∧ i.n ≤ i.c ∧ i.c ≤ 9223372036854775807 ∧ i.l.length = i.n ∧ Rd w w.heap.size 3 i.A i.n (prCells i.l) ∧ ∀ p ∈ i.l, p.a < 256 ∧ p.b < 256 ∧ p.bits < 256
theorem prCells_rd {w : World} {b off n : Nat} {l : List PrN} (hl : l.length = n) (hb : 0 < n → b < w.heap.size) (h : ∀ k (h : k < l.length), w.cell? ⟨b, off + k * 3, none⟩ = some (.int .u8 ((l[k]).a : Int)) ∧ w.cell? ⟨b, off + k * 3 + 1, none⟩ = some (.int .u8 ((l[k]).b : Int)) ∧ w.cell? ⟨b, off + k * 3 + 2, none⟩ = some (.int .u8 ((l[k]).bits : Int))) :
    Rd w w.heap.size 3 (some ⟨b, off, none⟩) n (prCells l) := by
  refine ⟨by rw [prCells_len, hl], fun hn => ⟨b, off, rfl, hb hn, fun j u hu => ?_⟩⟩
  have hj : j < l.length * 3 := by have := (List.getElem?_eq_some_iff.1 hu).1; rwa [prCells_len] at this
  have hjl : j / 3 < l.length := by omega
  obtain ⟨a0, a1, a2⟩ := prCells_get l (j / 3) hjl
  obtain ⟨b0, b1, b2⟩ := h (j / 3) hjl
  have hm : j % 3 = 0 ∨ j % 3 = 1 ∨ j % 3 = 2 := by omega
  rcases hm with hm | hm | hm
  · have e : j = j / 3 * 3 := by omega
    rw [e] at hu ⊢
    rw [a0] at hu
    rw [b0]; exact hu
  · have e : j = j / 3 * 3 + 1 := by omega
    rw [e] at hu ⊢
    rw [a1] at hu
    rw [← Nat.add_assoc, b1]; exact hu
  · have e : j = j / 3 * 3 + 2 := by omega
    rw [e] at hu ⊢
    rw [a2] at hu
    rw [← Nat.add_assoc, b2]; exact hu
section
variable {H : Type} {enc : TypeId × Value → H} {W : World} {v : Value} {d : DataW H} {p : List MemPlace}
set_option maxRecDepth 100000 in
theorem open_pr_cells {fuel : Nat} {cs : List Value} {x : DataW H × List MemPlace} (h : DataW.trod enc Tryz.prog W 0 (fun _ => true) true fuel 22 cs = some x) :
    ∃ i, cs = [.slice i.A i.n i.c] ∧ IsPrs W (.slice i.A i.n i.c) i := by
  rcases Deep.open_slice Tryz.underlying22 h with ⟨hc, _⟩ | ⟨a, len, cap, m, n, D, Pl, hc, _, hl, hm, hm2, _, hel⟩
  · exact ⟨⟨none, 0, 0, []⟩, hc, rfl, Nat.le_refl _, by decide, rfl, Rd.nil _ _ _ _, by simp⟩
  · have c1 : Tryz.prog.cellsOf 35 = 3 := by kernel_rfl
    have k1 : Tryz.prog.cellsOf 5 = 1 := by kernel_rfl
    have hsp : 0 < len → a.spot = none := fun h0 => by
      obtain ⟨cs', hcs', ht⟩ := hel 0 (by rw [hm2, if_pos rfl]; omega)
      rw [c1] at hcs'
      obtain ⟨_, hcl, hcell⟩ := World.cells?_some hcs'
      obtain ⟨x0, x1, x2, rfl⟩ := OpenPr_list3 hcl
      have q0 := hcell 0 (by omega)
      simp only [List.getElem?_cons_zero, Deep.add_add, Nat.zero_mul, Nat.add_zero] at q0
      exact spot_none q0 rfl
    obtain ⟨l, hll, hq⟩ := OpenPr_list (Q := fun k (s : PrN) => a.block < W.heap.size ∧ W.cell? ⟨a.block, a.off + k * 3, none⟩ = some (.int .u8 (s.a : Int)) ∧ W.cell? ⟨a.block, a.off + k * 3 + 1, none⟩ = some (.int .u8 (s.b : Int)) ∧ W.cell? ⟨a.block, a.off + k * 3 + 2, none⟩ = some (.int .u8 (s.bits : Int)) ∧ (s.a < 256 ∧ s.b < 256 ∧ s.bits < 256)) len (fun k hk => by
      have hml : k < m := by rw [hm2, if_pos rfl]; omega
      obtain ⟨cs', hcs', ht⟩ := hel k hml
      rw [c1] at hcs'
      obtain ⟨_, hcl, hcell⟩ := World.cells?_some hcs'
      obtain ⟨n', y0, y1, y2, f0, f1, f2⟩ := OpenPr_fields3 Tryz.underlying35 ht
      obtain ⟨x0, x1, x2, rfl⟩ := OpenPr_list3 hcl
      simp only [k1, List.drop_zero, List.drop_succ_cons, List.take_succ_cons, List.take_zero] at f0 f1 f2
      obtain ⟨a0, e0, _, wa0⟩ := DataW.trod_int Tryz.underlying5 f0
      obtain ⟨a1, e1, _, wa1⟩ := DataW.trod_int Tryz.underlying5 f1
      obtain ⟨a2, e2, _, wa2⟩ := DataW.trod_int Tryz.underlying5 f2
      simp only [List.cons.injEq, and_true] at e0 e1 e2
      subst e0 e1 e2
      obtain ⟨a0, rfl, l0⟩ := open_nat_u8 wa0
      obtain ⟨a1, rfl, l1⟩ := open_nat_u8 wa1
      obtain ⟨a2, rfl, l2⟩ := open_nat_u8 wa2
      have q0 := hcell 0 (by omega)
      have q1 := hcell 1 (by omega)
      have q2 := hcell 2 (by omega)
      simp only [List.getElem?_cons_zero, List.getElem?_cons_succ, Deep.add_add, Nat.add_zero] at q0 q1 q2
      have hs := hsp (by omega)
      have hb : a.block < W.heap.size := by
        have := World.block_lt_of_cell? W _ q0
        rwa [add_spot hs] at this
      rw [add_spot hs] at q0 q1 q2
      exact ⟨⟨a0, a1, a2⟩, hb, q0, by rw [Nat.add_assoc]; exact q1, by rw [Nat.add_assoc]; exact q2, l0, l1, l2⟩)
    have hrd : Rd W W.heap.size 3 (some a) len (prCells l) := by
      rcases Nat.eq_zero_or_pos len with h0 | h0
      · subst h0; obtain rfl := List.eq_nil_of_length_eq_zero hll; exact Rd.nil _ _ _ _
      · have hs := hsp h0
        have := prCells_rd (w := W) (b := a.block) (off := a.off) hll (fun _ => (hq 0 (by omega)).1) (fun k hk => ⟨(hq k hk).2.1, (hq k hk).2.2.1, (hq k hk).2.2.2.1⟩)
        rwa [← hs] at this
    exact ⟨⟨some a, len, cap, l⟩, hc, rfl, hl, by simp [maxLen] at hm; omega, hll, hrd, fun p hp => by
      obtain ⟨k, hk, rfl⟩ := List.getElem_of_mem hp
      exact (hq k hk).2.2.2.2⟩
set_option maxRecDepth 100000 in
theorem open_prs {base : Nat} (hv : Value.okWide Tryz.prog W .any base 22 v) (h : DataW.Trod enc Tryz.prog W 0 (fun _ => true) true 22 v d p) : ∃ i, IsPrs W v i := by
  obtain ⟨a, n, c, rfl⟩ := okWide_slice Tryz.underlying22 hv
  obtain ⟨fuel, hf⟩ := h
  obtain ⟨i, hc, hi⟩ := open_pr_cells hf
  simp only [Value.cells] at hc
  exact ⟨i, by rw [show (Value.slice a n c) = .slice i.A i.n i.c by simpa using hc]; exact hi⟩
end
end Go.Proofs.YtblilfbhohnbgaaGreat
