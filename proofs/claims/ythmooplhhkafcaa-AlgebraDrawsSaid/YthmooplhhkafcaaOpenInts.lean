/- How a slice of integers that came in is opened. Conditions: none beyond those in each statement. -/
import Derived.Test.YthmooplhhkafcaaOpen
namespace Go.Proofs.Ythmooplhhkafcaa
open Go.ChangeShapes Go.WideShapes Go.ChangeAt Go.RowKit
/-- A list of integers that came in. -/
structure IntsArg where
  A : Option Addr
  n : Nat
  c : Nat
  l : List Int
def IsInts (w : World) (v : Value) (i : IntsArg) : Prop := v = .slice i.A i.n i.c ∧ i.n ≤ i.c ∧ i.c ≤ 9223372036854775807 ∧ i.l.length = i.n ∧ (∀ x ∈ i.l, -9223372036854775808 ≤ x ∧ x ≤ 9223372036854775807) ∧ Rd w w.heap.size 1 i.A i.n (i.l.map (Value.int .i64))
section
variable {H : Type} {enc : TypeId × Value → H} {W : World} {v : Value} {d : DataW H} {p : List MemPlace}
theorem open_ints_cells {fuel : Nat} {cs : List Value} {x : DataW H × List MemPlace} (h : DataW.trod enc Try.prog W 0 (fun _ => true) true fuel 54 cs = some x) :
    ∃ i, cs = [.slice i.A i.n i.c] ∧ IsInts W (.slice i.A i.n i.c) i := by
  rcases Go.ChangeShapes.open_ints Try.underlying54 Try.underlying3 (by kernel_rfl) h with ⟨hc, _⟩ | ⟨a, len, cap, zs, hc, _, hl, hm, hz, _, hcell, hwz⟩
  · exact ⟨⟨none, 0, 0, []⟩, hc, rfl, Nat.le_refl _, by decide, rfl, by simp, Rd.nil _ _ _ _⟩
  · have hzl : zs.length = cap := by rw [hz, if_pos rfl]
    refine ⟨⟨some a, len, cap, zs.take len⟩, hc, rfl, hl, by simp [maxLen] at hm; omega, by simp; omega, ?_, ?_⟩
    · intro y hy
      exact wf_i64 (hwz y (List.mem_of_mem_take hy))
    · refine Rd.of_cells (by simp; omega) fun i u hu => ?_
      simp only [List.getElem?_map, Option.map_eq_some_iff] at hu
      obtain ⟨z, hz, rfl⟩ := hu
      rw [List.getElem?_take] at hz
      split at hz
      · have hlt : i < zs.length := (List.getElem?_eq_some_iff.1 hz).1
        have h1 := hcell i hlt
        have h2 : zs.getD i 0 = z := by simp [List.getD, hz]
        rw [h1, h2]
      · cases hz
set_option maxRecDepth 100000 in
theorem open_intlist {base : Nat} (hv : Value.okWide Try.prog W .any base 54 v) (h : DataW.Trod enc Try.prog W 0 (fun _ => true) true 54 v d p) : ∃ i, IsInts W v i := by
  obtain ⟨a, n, c, rfl⟩ := okWide_slice Try.underlying54 hv
  obtain ⟨fuel, hf⟩ := h
  obtain ⟨i, hc, hi⟩ := open_ints_cells hf
  simp only [Value.cells] at hc
  exact ⟨i, by rw [show (Value.slice a n c) = .slice i.A i.n i.c by simpa using hc]; exact hi⟩
end
end Go.Proofs.Ythmooplhhkafcaa
