/- The examples of the chapter that each statement begins or ends with hold: 'known' returns true in every world. -/
import Derived.Test.YtncjmndiafgaaaaProg
import Derived.Test.YtncjmndiafgaaaaBuilder
import Derived.Test.YtncjmndiafgaaaaShare
namespace Go.Proofs.Ytncjmndiafgaaaa
open Go.RowKit
def bs0 : List Bool := [true, true, false, true]
theorem parity_known (A : Option Addr) (c : Nat) (w : World) (B : Nat) (h : Rd w B 1 A 4 (bs0.map Value.bool)) :
    Calls Try.prog 21 #[.slice A 4 c] w fun e w' => e = .returned (.bool true) ∧ w = w' := Parity_any A 4 c bs0 w B (by omega) h
theorem count_known (A : Option Addr) (c : Nat) (w : World) (B : Nat) (h : Rd w B 1 A 4 (bs0.map Value.bool)) :
    Calls Try.prog 35 #[.slice A 4 c] w fun e w' => e = .returned (.int .i64 3) ∧ w = w' := Count_any A 4 c bs0 w B (by omega) h
end Go.Proofs.Ytncjmndiafgaaaa
