/- How a struct of three numbers that came in is opened. Conditions: none beyond those in each statement. -/
import Derived.Test.YtahfkhnhmnjbeaaOpen
namespace Go.Proofs.Ytahfkhnhmnjbeaa
open Go.ChangeShapes Go.WideShapes Go.ChangeAt Go.RowKit
structure Three where
  a : Nat
  b : Nat
  c : Nat
def IsThree (_w : World) (v : Value) (i : Three) : Prop := v = .agg #[.int .u64 i.a, .int .u64 i.b, .int .u64 i.c] ∧ i.a < 18446744073709551616 ∧ i.b < 18446744073709551616 ∧ i.c < 18446744073709551616
def open_zero_Three : Value := .agg #[.int .u64 0, .int .u64 0, .int .u64 0]
set_option maxRecDepth 100000 in
theorem open_Three {H : Type} {enc : TypeId × Value → H} {W : World} {v : Value} {d : DataW H} {p : List MemPlace} {base : Nat} (hv : Value.okWide Try.prog W .any base 61 v) (h : DataW.Trod enc Try.prog W 0 (fun _ => true) true 61 v d p) : ∃ i, IsThree W v i := by
  obtain ⟨c0, c1, c2, y0, y1, y2, n, rfl, _, _, hy0, hy1, hy2⟩ := Joins.open_agg3 Try.underlying61 (by kernel_rfl) (by kernel_rfl) hv h
  obtain ⟨a, e0, _, wa⟩ := DataW.trod_int Try.underlying40 hy0
  obtain ⟨b, e1, _, wb⟩ := DataW.trod_int Try.underlying40 hy1
  obtain ⟨c, e2, _, wc⟩ := DataW.trod_int Try.underlying40 hy2
  simp only [List.cons.injEq, and_true] at e0 e1 e2
  subst e0 e1 e2
  obtain ⟨a, rfl, ha⟩ := open_nat_u64 wa
  obtain ⟨b, rfl, hb⟩ := open_nat_u64 wb
  obtain ⟨c, rfl, hc⟩ := open_nat_u64 wc
  exact ⟨⟨a, b, c⟩, rfl, ha, hb, hc⟩
end Go.Proofs.Ytahfkhnhmnjbeaa
