/- How a slice of structs of three numbers that came in is opened. Conditions: none beyond those in each statement. -/
import Derived.Test.YthmooplhhkafcaaOpen
namespace Go.Proofs.Ythmooplhhkafcaa
open Go.ChangeShapes Go.WideShapes Go.ChangeAt Go.RowKit
set_option linter.unusedVariables false
section
variable {H : Type} {enc : TypeId × Value → H} {P : Program} {w : World} {base : Nat} {spare : Nat → Bool} {held : Bool}
theorem list3 {α : Type} {l : List α} (h : l.length = 3) : ∃ a b c, l = [a, b, c] := by
  match l, h with
  | [a, b, c], _ => exact ⟨a, b, c, rfl⟩
theorem trod_fields3 {t : TypeId} {f0 f1 f2 : Field} {fuel : Nat} {cs : List Value} {x : DataW H × List MemPlace} (ht : P.underlying t = some (.struct #[f0, f1, f2])) (h : DataW.trod enc P w base spare held fuel t cs = some x) :
    ∃ (n : Nat) (y0 y1 y2 : DataW H × List MemPlace), DataW.trod enc P w base spare held n f0.type ((cs.drop f0.offset).take (P.cellsOf f0.type)) = some y0 ∧
      DataW.trod enc P w base spare held n f1.type ((cs.drop f1.offset).take (P.cellsOf f1.type)) = some y1 ∧ DataW.trod enc P w base spare held n f2.type ((cs.drop f2.offset).take (P.cellsOf f2.type)) = some y2 := by
  obtain ⟨xs, n, _, rfl, hl, hlen, hf⟩ := DataW.trod_struct ht h
  match xs, hlen with
  | [y0, y1, y2], _ => exact ⟨n, y0, y1, y2, by simpa using hf 0 f0 rfl, by simpa using hf 1 f1 rfl, by simpa using hf 2 f2 rfl⟩
end
/-- A list of calls that came in: for each its three numbers. -/
structure OpArg where
  A : Option Addr
  n : Nat
  c : Nat
def IsOp (w : World) (v : Value) (i : OpArg) : Prop := v = .slice i.A i.n i.c ∧ i.n ≤ i.c ∧ i.c ≤ 9223372036854775807 ∧
  ∀ k, k < i.n → ∃ (b off : Nat) (D N K : Int), i.A = some ⟨b, off, none⟩ ∧ b < w.heap.size ∧ w.cell? ⟨b, off + k * 3, none⟩ = some (.int .i64 D) ∧ w.cell? ⟨b, off + k * 3 + 1, none⟩ = some (.int .i64 N) ∧ w.cell? ⟨b, off + k * 3 + 2, none⟩ = some (.int .i64 K) ∧ -9223372036854775808 ≤ N ∧ N ≤ 9223372036854775807
def open_zero_Op : Value := .slice none 0 0
section
variable {H : Type} {enc : TypeId × Value → H} {W : World} {v : Value} {d : DataW H} {p : List MemPlace}
set_option maxRecDepth 100000 in
theorem open_op_cells {fuel : Nat} {cs : List Value} {x : DataW H × List MemPlace} (h : DataW.trod enc Try.prog W 0 (fun _ => true) true fuel 77 cs = some x) :
    ∃ i, cs = [.slice i.A i.n i.c] ∧ IsOp W (.slice i.A i.n i.c) i := by
  rcases Deep.open_slice Try.underlying77 h with ⟨hc, _⟩ | ⟨a, len, cap, m, n, D, Pl, hc, _, hl, hm, hm2, _, hel⟩
  · exact ⟨⟨none, 0, 0⟩, hc, rfl, Nat.le_refl _, by decide, fun k hk => absurd hk (by simp)⟩
  · have c1 : Try.prog.cellsOf 80 = 3 := by kernel_rfl
    have k3 : Try.prog.cellsOf 3 = 1 := by kernel_rfl
    have hsp : 0 < len → a.spot = none := fun h0 => by
      obtain ⟨cs', hcs', ht⟩ := hel 0 (by rw [hm2, if_pos rfl]; omega)
      rw [c1] at hcs'
      obtain ⟨_, hcl, hcell⟩ := World.cells?_some hcs'
      obtain ⟨x0, x1, x2, rfl⟩ := list3 hcl
      have q0 := hcell 0 (by omega)
      simp only [List.getElem?_cons_zero, Deep.add_add, Nat.zero_mul, Nat.add_zero] at q0
      exact spot_none q0 rfl
    refine ⟨⟨some a, len, cap⟩, hc, rfl, hl, by simp [maxLen] at hm; omega, fun k hk => ?_⟩
    have hk' : k < len := hk
    have hml : k < m := by rw [hm2, if_pos rfl]; omega
    obtain ⟨cs', hcs', ht⟩ := hel k hml
    rw [c1] at hcs'
    obtain ⟨_, hcl, hcell⟩ := World.cells?_some hcs'
    obtain ⟨n', y0, y1, y2, f0, f1, f2⟩ := trod_fields3 Try.underlying80 ht
    obtain ⟨x0, x1, x2, rfl⟩ := list3 hcl
    simp only [k3, List.drop_zero, List.drop_succ_cons, List.take_succ_cons, List.take_zero] at f0 f1 f2
    obtain ⟨a0, e0, _, wa0⟩ := DataW.trod_int Try.underlying3 f0
    obtain ⟨a1, e1, _, wa1⟩ := DataW.trod_int Try.underlying3 f1
    obtain ⟨a2, e2, _, wa2⟩ := DataW.trod_int Try.underlying3 f2
    simp only [List.cons.injEq, and_true] at e0 e1 e2
    subst e0 e1 e2
    have q0 := hcell 0 (by omega)
    have q1 := hcell 1 (by omega)
    have q2 := hcell 2 (by omega)
    simp only [List.getElem?_cons_zero, List.getElem?_cons_succ, Deep.add_add, Nat.add_zero] at q0 q1 q2
    have hs := hsp (by omega)
    have hb : a.block < W.heap.size := by
      have := World.block_lt_of_cell? W _ q0
      rwa [add_spot hs] at this
    rw [add_spot hs] at q0 q1 q2
    have hw := wf_i64 wa1
    exact ⟨a.block, a.off, a0, a1, a2, by rw [← hs], hb, q0, by rw [Nat.add_assoc]; exact q1, by rw [Nat.add_assoc]; exact q2, hw.1, hw.2⟩
set_option maxRecDepth 100000 in
theorem open_Op {base : Nat} (hv : Value.okWide Try.prog W .any base 77 v) (h : DataW.Trod enc Try.prog W 0 (fun _ => true) true 77 v d p) : ∃ i, IsOp W v i := by
  obtain ⟨a, n, c, rfl⟩ := okWide_slice Try.underlying77 hv
  obtain ⟨fuel, hf⟩ := h
  obtain ⟨i, hc, hi⟩ := open_op_cells hf
  simp only [Value.cells] at hc
  exact ⟨i, by rw [show (Value.slice a n c) = .slice i.A i.n i.c by simpa using hc]; exact hi⟩
end
end Go.Proofs.Ythmooplhhkafcaa
