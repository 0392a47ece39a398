/- How a struct of three numbers that came in is opened. Conditions: none beyond those in each statement. -/
import Derived.Test.YthmooplhhkafcaaOpen
namespace Go.Proofs.Ythmooplhhkafcaa
open Go.ChangeShapes Go.WideShapes Go.ChangeAt Go.RowKit
structure Three where
  a : Nat
  b : Nat
  c : Nat
def IsThree (_w : World) (v : Value) (i : Three) : Prop := v = .agg #[.int .u64 i.a, .int .u64 i.b, .int .u64 i.c] ∧ i.a < 18446744073709551616 ∧ i.b < 18446744073709551616 ∧ i.c < 18446744073709551616
def open_zero_Three : Value := .agg #[.int .u64 0, .int .u64 0, .int .u64 0]
end Go.Proofs.Ythmooplhhkafcaa
