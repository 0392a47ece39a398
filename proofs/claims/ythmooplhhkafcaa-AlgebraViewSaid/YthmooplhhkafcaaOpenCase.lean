/- How structs that came in are opened. Conditions: none beyond those in each statement. -/
import Derived.Test.YthmooplhhkafcaaOpen
namespace Go.Proofs.Ythmooplhhkafcaa
open Go.ChangeShapes Go.WideShapes Go.ChangeAt Go.RowKit
set_option linter.unusedVariables false
section
variable {H : Type} {enc : TypeId × Value → H} {P : Program} {w : World} {base : Nat} {spare : Nat → Bool} {held : Bool}
theorem OpenCase_array4 {α : Type} {cs : Array α} (h : cs.size = 4) : ∃ c0 c1 c2 c3, cs = #[c0, c1, c2, c3] := by
  obtain ⟨l⟩ := cs
  match l, h with
  | [c0, c1, c2, c3], _ => exact ⟨c0, c1, c2, c3, rfl⟩
theorem OpenCase_fields4 {t : TypeId} {f0 f1 f2 f3 : Field} {fuel : Nat} {cs : List Value} {x : DataW H × List MemPlace} (ht : P.underlying t = some (.struct #[f0, f1, f2, f3])) (h : DataW.trod enc P w base spare held fuel t cs = some x) :
    ∃ (n : Nat) (y0 y1 y2 y3 : DataW H × List MemPlace), DataW.trod enc P w base spare held n f0.type ((cs.drop f0.offset).take (P.cellsOf f0.type)) = some y0 ∧ DataW.trod enc P w base spare held n f1.type ((cs.drop f1.offset).take (P.cellsOf f1.type)) = some y1 ∧ DataW.trod enc P w base spare held n f2.type ((cs.drop f2.offset).take (P.cellsOf f2.type)) = some y2 ∧ DataW.trod enc P w base spare held n f3.type ((cs.drop f3.offset).take (P.cellsOf f3.type)) = some y3 := by
  obtain ⟨xs, n, _, rfl, hl, hlen, hf⟩ := DataW.trod_struct ht h
  match xs, hlen with
  | [y0, y1, y2, y3], _ => exact ⟨n, y0, y1, y2, y3, by simpa using hf 0 f0 rfl, by simpa using hf 1 f1 rfl, by simpa using hf 2 f2 rfl, by simpa using hf 3 f3 rfl⟩
end
structure CaseArg where
  f0 : BytesArg
  f1 : Int
  f2 : Int
  f3 : BytesArg
def IsCase (w : World) (v : Value) (i : CaseArg) : Prop :=
  ∃ v0 v3, v = .agg #[v0, .int .i64 i.f1, .int .i64 i.f2, v3] ∧ IsBytes w v0 i.f0 ∧ (-9223372036854775808 ≤ i.f1 ∧ i.f1 ≤ 9223372036854775807) ∧ (-9223372036854775808 ≤ i.f2 ∧ i.f2 ≤ 9223372036854775807) ∧ IsBytes w v3 i.f3
def open_zero_Case : Value := .agg #[.slice none 0 0, .int .i64 0, .int .i64 0, .slice none 0 0]
set_option maxRecDepth 100000 in
theorem open_Case {H : Type} {enc : TypeId × Value → H} {W : World} {v : Value} {d : DataW H} {p : List MemPlace} {base : Nat} (hv : Value.okWide Try.prog W .any base 51 v) (h : DataW.Trod enc Try.prog W 0 (fun _ => true) true 51 v d p) : ∃ i, IsCase W v i := by
  obtain ⟨cs, rfl, hsz⟩ := okWide_struct Try.underlying51 hv
  obtain ⟨c0, c1, c2, c3, rfl⟩ := OpenCase_array4 (hsz.trans (by kernel_rfl))
  obtain ⟨fuel, hf⟩ := h
  obtain ⟨n, y0, y1, y2, y3, h0, h1, h2, h3⟩ := OpenCase_fields4 Try.underlying51 hf
  have kbytes : Try.prog.cellsOf 28 = 1 := by kernel_rfl
  have ki64 : Try.prog.cellsOf 3 = 1 := by kernel_rfl
  simp only [Value.cells, kbytes, ki64, List.drop_zero, List.drop_succ_cons, List.take_succ_cons, List.take_zero] at h0 h1 h2 h3
  obtain ⟨a0, e0, wa0⟩ := open_bytes_cells h0
  obtain ⟨a1, e1, _, wa1⟩ := DataW.trod_int Try.underlying3 h1
  obtain ⟨a2, e2, _, wa2⟩ := DataW.trod_int Try.underlying3 h2
  obtain ⟨a3, e3, wa3⟩ := open_bytes_cells h3
  simp only [List.cons.injEq, and_true] at e0 e1 e2 e3
  subst e0 e1 e2 e3
  exact ⟨⟨a0, a1, a2, a3⟩, _, _, rfl, wa0, wf_i64 wa1, wf_i64 wa2, wa3⟩
end Go.Proofs.Ythmooplhhkafcaa
