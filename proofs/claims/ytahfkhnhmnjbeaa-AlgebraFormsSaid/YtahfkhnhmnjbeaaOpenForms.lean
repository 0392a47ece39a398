/- How a struct of six fields that came in is opened. Conditions: none beyond those in each statement. -/
import Derived.Test.YtahfkhnhmnjbeaaOpen
namespace Go.Proofs.Ytahfkhnhmnjbeaa
open Go.ChangeShapes Go.WideShapes Go.ChangeAt Go.RowKit
set_option linter.unusedVariables false
section
variable {H : Type} {enc : TypeId × Value → H} {P : Program} {w : World} {base : Nat} {spare : Nat → Bool} {held : Bool}
theorem array6 {α : Type} {cs : Array α} (h : cs.size = 6) : ∃ c0 c1 c2 c3 c4 c5, cs = #[c0, c1, c2, c3, c4, c5] := by
  obtain ⟨l⟩ := cs
  match l, h with
  | [c0, c1, c2, c3, c4, c5], _ => exact ⟨c0, c1, c2, c3, c4, c5, rfl⟩
theorem trod_fields6 {t : TypeId} {f0 f1 f2 f3 f4 f5 : Field} {fuel : Nat} {cs : List Value} {x : DataW H × List MemPlace} (ht : P.underlying t = some (.struct #[f0, f1, f2, f3, f4, f5])) (h : DataW.trod enc P w base spare held fuel t cs = some x) :
    ∃ (n : Nat) (y0 y1 y2 y3 y4 y5 : DataW H × List MemPlace), DataW.trod enc P w base spare held n f0.type ((cs.drop f0.offset).take (P.cellsOf f0.type)) = some y0 ∧
      DataW.trod enc P w base spare held n f1.type ((cs.drop f1.offset).take (P.cellsOf f1.type)) = some y1 ∧ DataW.trod enc P w base spare held n f2.type ((cs.drop f2.offset).take (P.cellsOf f2.type)) = some y2 ∧
      DataW.trod enc P w base spare held n f3.type ((cs.drop f3.offset).take (P.cellsOf f3.type)) = some y3 ∧ DataW.trod enc P w base spare held n f4.type ((cs.drop f4.offset).take (P.cellsOf f4.type)) = some y4 ∧
      DataW.trod enc P w base spare held n f5.type ((cs.drop f5.offset).take (P.cellsOf f5.type)) = some y5 := by
  obtain ⟨xs, n, _, rfl, hl, hlen, hf⟩ := DataW.trod_struct ht h
  match xs, hlen with
  | [y0, y1, y2, y3, y4, y5], _ => exact ⟨n, y0, y1, y2, y3, y4, y5, by simpa using hf 0 f0 rfl, by simpa using hf 1 f1 rfl, by simpa using hf 2 f2 rfl, by simpa using hf 3 f3 rfl, by simpa using hf 4 f4 rfl, by simpa using hf 5 f5 rfl⟩
end
/-- A struct Forms that came in. -/
structure FormsArg where
  b : BitsArg
  s : ByteArray
  n : Nat
  width : Int
  p : BytesArg
  bits : Int
def IsForms (w : World) (v : Value) (i : FormsArg) : Prop :=
  ∃ v0 v4, v = .agg #[v0, .string i.s, .int .u64 i.n, .int .i64 i.width, v4, .int .i64 i.bits] ∧ IsBits w v0 i.b ∧ i.s.size ≤ maxLen ∧ i.n < 18446744073709551616 ∧
    (-9223372036854775808 ≤ i.width ∧ i.width ≤ 9223372036854775807) ∧ IsBytes w v4 i.p ∧ (-9223372036854775808 ≤ i.bits ∧ i.bits ≤ 9223372036854775807)
def open_zero_Forms : Value := .agg #[.slice none 0 0, .string ⟨#[]⟩, .int .u64 0, .int .i64 0, .slice none 0 0, .int .i64 0]
set_option maxRecDepth 100000 in
theorem open_Forms {H : Type} {enc : TypeId × Value → H} {W : World} {v : Value} {d : DataW H} {p : List MemPlace} {base : Nat} (hv : Value.okWide Try.prog W .any base 84 v) (h : DataW.Trod enc Try.prog W 0 (fun _ => true) true 84 v d p) : ∃ i, IsForms W v i := by
  obtain ⟨cs, rfl, hsz⟩ := okWide_struct Try.underlying84 hv
  obtain ⟨c0, c1, c2, c3, c4, c5, rfl⟩ := array6 (hsz.trans (by kernel_rfl))
  obtain ⟨fuel, hf⟩ := h
  obtain ⟨n, y0, y1, y2, y3, y4, y5, h0, h1, h2, h3, h4, h5⟩ := trod_fields6 Try.underlying84 hf
  have k0 : Try.prog.cellsOf 45 = 1 := by kernel_rfl
  have k1 : Try.prog.cellsOf 9 = 1 := by kernel_rfl
  have k2 : Try.prog.cellsOf 40 = 1 := by kernel_rfl
  have k3 : Try.prog.cellsOf 3 = 1 := by kernel_rfl
  have k4 : Try.prog.cellsOf 22 = 1 := by kernel_rfl
  simp only [Value.cells, k0, k1, k2, k3, k4, List.drop_zero, List.drop_succ_cons, List.take_succ_cons, List.take_zero] at h0 h1 h2 h3 h4 h5
  obtain ⟨i0, e0, x0⟩ := open_bools_cells h0
  obtain ⟨s, e1, _, hs⟩ := DataW.trod_string Try.underlying9 h1
  obtain ⟨a2, e2, _, wa2⟩ := DataW.trod_int Try.underlying40 h2
  obtain ⟨a3, e3, _, wa3⟩ := DataW.trod_int Try.underlying3 h3
  obtain ⟨i4, e4, x4⟩ := open_bytes_cells h4
  obtain ⟨a5, e5, _, wa5⟩ := DataW.trod_int Try.underlying3 h5
  simp only [List.cons.injEq, and_true] at e0 e1 e2 e3 e4 e5
  subst e0 e1 e2 e3 e4 e5
  obtain ⟨n2, rfl, hn2⟩ := open_nat_u64 wa2
  exact ⟨⟨i0, s, n2, a3, i4, a5⟩, _, _, rfl, x0, hs, hn2, wf_i64 wa3, x4, wf_i64 wa5⟩
end Go.Proofs.Ytahfkhnhmnjbeaa
