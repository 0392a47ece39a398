/- The examples of the chapter that each statement begins or ends with hold: 'known' returns true in every world. -/
import Derived.Test.YtdgmjedkhjeadaaProg
import Derived.Test.YtdgmjedkhjeadaaBuilder
import Derived.Test.YtdgmjedkhjeadaaShare
namespace Go.Proofs.Ytdgmjedkhjeadaa
open Go.RowKit
def bs0 : List Bool := [true, true, false, true]
theorem count_known (A : Option Addr) (c : Nat) (w : World) (B : Nat) (h : Rd w B 1 A 4 (bs0.map Value.bool)) :
    Calls Try.prog 73 #[.slice A 4 c] w fun e w' => e = .returned (.int .i64 3) ∧ w = w' := Count_any A 4 c bs0 w B (by omega) h
end Go.Proofs.Ytdgmjedkhjeadaa
