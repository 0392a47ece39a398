/- How a list of shares that came in is opened. Conditions: none beyond those in each statement. -/
import Derived.Test.YthmooplhhkafcaaOpen
import Derived.Test.YthmooplhhkafcaaShareV
import Derived.Test.YthmooplhhkafcaaOpenOps
namespace Go.Proofs.Ythmooplhhkafcaa
open Go.ChangeShapes Go.WideShapes Go.ChangeAt Go.RowKit
set_option linter.unusedVariables false
section
variable {H : Type} {enc : TypeId × Value → H} {P : Program} {w : World} {base : Nat} {spare : Nat → Bool} {held : Bool}
theorem list2 {α : Type} {l : List α} (h : l.length = 2) : ∃ a b, l = [a, b] := by
  match l, h with
  | [a, b], _ => exact ⟨a, b, rfl⟩
theorem trod_fields2 {t : TypeId} {f0 f1 : Field} {fuel : Nat} {cs : List Value} {x : DataW H × List MemPlace} (ht : P.underlying t = some (.struct #[f0, f1])) (h : DataW.trod enc P w base spare held fuel t cs = some x) :
    ∃ (n : Nat) (y0 y1 : DataW H × List MemPlace), DataW.trod enc P w base spare held n f0.type ((cs.drop f0.offset).take (P.cellsOf f0.type)) = some y0 ∧
      DataW.trod enc P w base spare held n f1.type ((cs.drop f1.offset).take (P.cellsOf f1.type)) = some y1 := by
  obtain ⟨xs, n, _, rfl, hl, hlen, hf⟩ := DataW.trod_struct ht h
  match xs, hlen with
  | [y0, y1], _ => exact ⟨n, y0, y1, by simpa using hf 0 f0 rfl, by simpa using hf 1 f1 rfl⟩
end
/-- A share that came in. -/
def ShareV.raw (w : World) (s : ShareV) : Prop := s.X < 256 ∧ Bytes s.Y ∧ s.n ≤ s.c ∧ s.c ≤ 9223372036854775807 ∧ s.Y.length = s.n ∧ Rd w w.heap.size 1 s.A s.n (u8s s.Y)
theorem ShareV.raw.ok {w : World} {s : ShareV} (h : s.raw w) (hn : s.n ≤ 1073741824) : s.ok w w.heap.size := ⟨h.1, h.2.1, h.2.2.1, hn, h.2.2.2.2.1, h.2.2.2.2.2⟩
structure SharesArg where
  A : Option Addr
  n : Nat
  c : Nat
  l : List ShareV
def IsShares (w : World) (v : Value) (i : SharesArg) : Prop := v = .slice i.A i.n i.c ∧ i.n ≤ i.c ∧ i.c ≤ 9223372036854775807 ∧ i.l.length = i.n ∧ Rd w w.heap.size 2 i.A i.n (shCells i.l) ∧ ∀ s ∈ i.l, s.raw w
def open_zero_Share : Value := .slice none 0 0
theorem list_of {α : Type} {Q : Nat → α → Prop} : ∀ (n : Nat), (∀ k, k < n → ∃ x, Q k x) → ∃ l : List α, l.length = n ∧ ∀ k (h : k < l.length), Q k l[k]
  | 0, _ => ⟨[], rfl, fun k h => absurd h (by simp)⟩
  | n + 1, h => by
    obtain ⟨l, hl, hq⟩ := list_of n (fun k hk => h k (by omega))
    obtain ⟨x, hx⟩ := h n (by omega)
    refine ⟨l ++ [x], by simp [hl], fun k hk => ?_⟩
    rcases Nat.lt_or_ge k l.length with h1 | h1
    · rw [List.getElem_append_left h1]; exact hq k h1
    · have hk' : k = l.length := by simp at hk; omega
      subst hk'
      rw [List.getElem_append_right (Nat.le_refl _)]
      simpa [hl] using hx
theorem shCells_rd {w : World} {b off n : Nat} {l : List ShareV} (hl : l.length = n) (hb : 0 < n → b < w.heap.size) (h0 : ∀ k (h : k < l.length), w.cell? ⟨b, off + k * 2, none⟩ = some (.int .u8 (l[k]).X)) (h1 : ∀ k (h : k < l.length), w.cell? ⟨b, off + k * 2 + 1, none⟩ = some (.slice (l[k]).A (l[k]).n (l[k]).c)) :
    Rd w w.heap.size 2 (some ⟨b, off, none⟩) n (shCells l) := by
  refine ⟨by rw [shCells_len, hl], fun hn => ⟨b, off, rfl, hb hn, fun j u hu => ?_⟩⟩
  have hj : j < l.length * 2 := by have := (List.getElem?_eq_some_iff.1 hu).1; rwa [shCells_len] at this
  have hjl : j / 2 < l.length := by omega
  rcases Nat.mod_two_eq_zero_or_one j with hm | hm
  · have e : j = j / 2 * 2 := by omega
    rw [e] at hu ⊢
    rw [shCells_0 _ _ hjl] at hu
    rw [h0 _ hjl]; exact hu
  · have e : j = j / 2 * 2 + 1 := by omega
    rw [e] at hu ⊢
    rw [shCells_1 _ _ hjl] at hu
    rw [← Nat.add_assoc, h1 _ hjl]; exact hu
section
variable {H : Type} {enc : TypeId × Value → H} {W : World} {v : Value} {d : DataW H} {p : List MemPlace}
set_option maxRecDepth 100000 in
theorem open_share_cells {fuel : Nat} {cs : List Value} {x : DataW H × List MemPlace} (h : DataW.trod enc Try.prog W 0 (fun _ => true) true fuel 38 cs = some x) :
    ∃ i, cs = [.slice i.A i.n i.c] ∧ IsShares W (.slice i.A i.n i.c) i := by
  rcases Deep.open_slice Try.underlying38 h with ⟨hc, _⟩ | ⟨a, len, cap, m, n, D, Pl, hc, _, hl, hm, hm2, _, hel⟩
  · exact ⟨⟨none, 0, 0, []⟩, hc, rfl, Nat.le_refl _, by decide, rfl, Rd.nil _ _ _ _, fun s hs => by cases hs⟩
  · have c1 : Try.prog.cellsOf 40 = 2 := by kernel_rfl
    have k1 : Try.prog.cellsOf 5 = 1 := by kernel_rfl
    have k2 : Try.prog.cellsOf 28 = 1 := by kernel_rfl
    have hsp : 0 < len → a.spot = none := fun h0 => by
      obtain ⟨cs', hcs', ht⟩ := hel 0 (by rw [hm2, if_pos rfl]; omega)
      rw [c1] at hcs'
      obtain ⟨_, hcl, hcell⟩ := World.cells?_some hcs'
      obtain ⟨x0, x1, rfl⟩ := list2 hcl
      have q0 := hcell 0 (by omega)
      simp only [List.getElem?_cons_zero, Deep.add_add, Nat.zero_mul, Nat.add_zero] at q0
      exact spot_none q0 rfl
    obtain ⟨l, hll, hq⟩ := list_of (Q := fun k (s : ShareV) => a.block < W.heap.size ∧ W.cell? ⟨a.block, a.off + k * 2, none⟩ = some (.int .u8 s.X) ∧ W.cell? ⟨a.block, a.off + k * 2 + 1, none⟩ = some (.slice s.A s.n s.c) ∧ s.raw W) len (fun k hk => by
      have hml : k < m := by rw [hm2, if_pos rfl]; omega
      obtain ⟨cs', hcs', ht⟩ := hel k hml
      rw [c1] at hcs'
      obtain ⟨_, hcl, hcell⟩ := World.cells?_some hcs'
      obtain ⟨n', y0, y1, f0, f1⟩ := trod_fields2 Try.underlying40 ht
      obtain ⟨x0, x1, rfl⟩ := list2 hcl
      simp only [k1, k2, List.drop_zero, List.drop_succ_cons, List.take_succ_cons, List.take_zero] at f0 f1
      obtain ⟨a0, e0, _, wa0⟩ := DataW.trod_int Try.underlying5 f0
      obtain ⟨i1, e1, hi1⟩ := open_bytes_cells f1
      simp only [List.cons.injEq, and_true] at e0 e1
      subst e0 e1
      obtain ⟨n0, rfl, hn0⟩ := open_nat_u8 wa0
      have q0 := hcell 0 (by omega)
      have q1 := hcell 1 (by omega)
      simp only [List.getElem?_cons_zero, List.getElem?_cons_succ, Deep.add_add, Nat.add_zero] at q0 q1
      have hs := hsp (by omega)
      have hb : a.block < W.heap.size := by
        have := World.block_lt_of_cell? W _ q0
        rwa [add_spot hs] at this
      rw [add_spot hs] at q0 q1
      obtain ⟨_, b1, b2, b3, b4, b5⟩ := hi1
      exact ⟨⟨n0, i1.A, i1.n, i1.c, i1.l⟩, hb, q0, by rw [Nat.add_assoc]; exact q1, hn0, b4, b1, b2, b3, b5⟩)
    have hrd : Rd W W.heap.size 2 (some a) len (shCells l) := by
      rcases Nat.eq_zero_or_pos len with h0 | h0
      · subst h0; obtain rfl := List.eq_nil_of_length_eq_zero hll; exact Rd.nil _ _ _ _
      · have hs := hsp h0
        have := shCells_rd (w := W) (b := a.block) (off := a.off) hll (fun _ => (hq 0 (by omega)).1) (fun k hk => (hq k hk).2.1) (fun k hk => (hq k hk).2.2.1)
        rwa [← hs] at this
    exact ⟨⟨some a, len, cap, l⟩, hc, rfl, hl, by simp [maxLen] at hm; omega, hll, hrd, fun s hs => by obtain ⟨k, hk, rfl⟩ := List.getElem_of_mem hs; exact (hq k hk).2.2.2⟩
set_option maxRecDepth 100000 in
theorem open_Share {base : Nat} (hv : Value.okWide Try.prog W .any base 38 v) (h : DataW.Trod enc Try.prog W 0 (fun _ => true) true 38 v d p) : ∃ i, IsShares W v i := by
  obtain ⟨a, n, c, rfl⟩ := okWide_slice Try.underlying38 hv
  obtain ⟨fuel, hf⟩ := h
  obtain ⟨i, hc, hi⟩ := open_share_cells hf
  simp only [Value.cells] at hc
  exact ⟨i, by rw [show (Value.slice a n c) = .slice i.A i.n i.c by simpa using hc]; exact hi⟩
end
end Go.Proofs.Ythmooplhhkafcaa
