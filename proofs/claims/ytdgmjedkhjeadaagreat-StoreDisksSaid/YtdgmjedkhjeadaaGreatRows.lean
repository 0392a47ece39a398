/-
  No cell of these rows narrows 'for every input' (looked for: loops, veiled, ifaces, maps, wideKeys, modest, calm, conditions, laid).
  DERIVED. THE GIVEN ROWS OF THIS SEAT. 6 by the template 'for every input the law returns true; each argument reads behind the call as it read before'; 0 by the template 'total and deterministic' (their statements: YtdgmjedkhjeadaaGreatTotals.lean).
  GIVEN WITH THE SEED: the statements are not yours to turn. If you find one false, say at which input.
  Laid BY PROGRAM, IN A SANDBOX (cutbox-rows.mjs): the forced cells as the released guide's own fill.sh prints them over the translation 74b83f4a1ae0b9ad… (all of the seat's roots in one cut). By AI agents, Wed Nov 11 2026. No macro, syntax, notation, axiom, sorry.
-/
import Derived.Test.YtdgmjedkhjeadaaGreatChecked
import GoSem.Claim
import GoSem.ClaimJoined
import GoSem.ClaimMapViews
import Derived.JoinedTies
import Derived.KernelRfl
namespace Go.Proofs.YtdgmjedkhjeadaaGreat
/- THE CELL 'sum', in the pinned program and in every row, IS THE sha256 OF THE DUMP (.gsa) THAT YtdgmjedkhjeadaaGreatProg.lean LOADS. Nothing in Lean hashes anything: it is a label: what it is worth is what the hold of that sum in a sandbox is worth. -/
noncomputable def Tryz.pinned : Pinned := { name := "ytdgmjedkhjeadaagreat", sum := "74b83f4a1ae0b9ad6fb285eed43b41645f14b01c28ad5060b4fa8cecdc3ff4b2", checked := Tryz.checked }
namespace Rows
def none {H : Type} : Left H := { results := [], args := [] }

/-- 'waveplatelaw08.StoreDisks': WHATEVER THE INPUT: true; the input reads as it did. -/
def storeDisksSpec : ChangeSpec := { name := "storeDisks", fn := fun _ => fun
  | [d1, d2] => { results := [.lit (.bool true)], args := [d1, d2] }
  | _ => none }
def storeDisksRow : OpenClaim := { program := "ytdgmjedkhjeadaagreat", sum := "74b83f4a1ae0b9ad6fb285eed43b41645f14b01c28ad5060b4fa8cecdc3ff4b2", func := "waveplate/waveplatelaw08.StoreDisks", spec := "storeDisks", unfollowed := true, recurses := true, apart := false }
def StoreDisksSaid : Prop := storeDisksRow.holds Tryz.pinned (OpenSpec.ofChange storeDisksSpec)

/-- ITS FALSE NEIGHBOUR: 'it returns false'. Refute it at one input. -/
def storeDisksWrong : ChangeSpec := { name := "storeDisks", fn := fun _ => fun
  | [d1, d2] => { results := [.lit (.bool false)], args := [d1, d2] }
  | _ => none }
def StoreDisksWrongFalsely : Prop := storeDisksRow.holds Tryz.pinned (OpenSpec.ofChange storeDisksWrong)

/-- 'waveplatelaw08.StoreCompacts': WHATEVER THE INPUT: true; the input reads as it did. -/
def storeCompactsSpec : ChangeSpec := { name := "storeCompacts", fn := fun _ => fun
  | [d1, d2] => { results := [.lit (.bool true)], args := [d1, d2] }
  | _ => none }
def storeCompactsRow : OpenClaim := { program := "ytdgmjedkhjeadaagreat", sum := "74b83f4a1ae0b9ad6fb285eed43b41645f14b01c28ad5060b4fa8cecdc3ff4b2", func := "waveplate/waveplatelaw08.StoreCompacts", spec := "storeCompacts", unfollowed := true, recurses := true, apart := false }
def StoreCompactsSaid : Prop := storeCompactsRow.holds Tryz.pinned (OpenSpec.ofChange storeCompactsSpec)

/-- ITS FALSE NEIGHBOUR: 'it returns false'. Refute it at one input. -/
def storeCompactsWrong : ChangeSpec := { name := "storeCompacts", fn := fun _ => fun
  | [d1, d2] => { results := [.lit (.bool false)], args := [d1, d2] }
  | _ => none }
def StoreCompactsWrongFalsely : Prop := storeCompactsRow.holds Tryz.pinned (OpenSpec.ofChange storeCompactsWrong)

/-- 'waveplatelaw08.StoreOnce': WHATEVER THE INPUT: true; the input reads as it did. -/
def storeOnceSpec : ChangeSpec := { name := "storeOnce", fn := fun _ => fun
  | [d1, d2] => { results := [.lit (.bool true)], args := [d1, d2] }
  | _ => none }
def storeOnceRow : OpenClaim := { program := "ytdgmjedkhjeadaagreat", sum := "74b83f4a1ae0b9ad6fb285eed43b41645f14b01c28ad5060b4fa8cecdc3ff4b2", func := "waveplate/waveplatelaw08.StoreOnce", spec := "storeOnce", unfollowed := true, recurses := true, apart := false }
def StoreOnceSaid : Prop := storeOnceRow.holds Tryz.pinned (OpenSpec.ofChange storeOnceSpec)

/-- ITS FALSE NEIGHBOUR: 'it returns false'. Refute it at one input. -/
def storeOnceWrong : ChangeSpec := { name := "storeOnce", fn := fun _ => fun
  | [d1, d2] => { results := [.lit (.bool false)], args := [d1, d2] }
  | _ => none }
def StoreOnceWrongFalsely : Prop := storeOnceRow.holds Tryz.pinned (OpenSpec.ofChange storeOnceWrong)

/-- 'waveplatelaw08.StoreReconciled': WHATEVER THE INPUT: true; the input reads as it did. -/
def storeReconciledSpec : ChangeSpec := { name := "storeReconciled", fn := fun _ => fun
  | [d1, d2] => { results := [.lit (.bool true)], args := [d1, d2] }
  | _ => none }
def storeReconciledRow : OpenClaim := { program := "ytdgmjedkhjeadaagreat", sum := "74b83f4a1ae0b9ad6fb285eed43b41645f14b01c28ad5060b4fa8cecdc3ff4b2", func := "waveplate/waveplatelaw08.StoreReconciled", spec := "storeReconciled", unfollowed := true, recurses := true, apart := false }
def StoreReconciledSaid : Prop := storeReconciledRow.holds Tryz.pinned (OpenSpec.ofChange storeReconciledSpec)

/-- ITS FALSE NEIGHBOUR: 'it returns false'. Refute it at one input. -/
def storeReconciledWrong : ChangeSpec := { name := "storeReconciled", fn := fun _ => fun
  | [d1, d2] => { results := [.lit (.bool false)], args := [d1, d2] }
  | _ => none }
def StoreReconciledWrongFalsely : Prop := storeReconciledRow.holds Tryz.pinned (OpenSpec.ofChange storeReconciledWrong)

/-- 'waveplatelaw08.StoreParts': WHATEVER THE INPUT: true; the input reads as it did. -/
def storePartsSpec : ChangeSpec := { name := "storeParts", fn := fun _ => fun
  | [d1, d2, d3, d4] => { results := [.lit (.bool true)], args := [d1, d2, d3, d4] }
  | _ => none }
def storePartsRow : OpenClaim := { program := "ytdgmjedkhjeadaagreat", sum := "74b83f4a1ae0b9ad6fb285eed43b41645f14b01c28ad5060b4fa8cecdc3ff4b2", func := "waveplate/waveplatelaw08.StoreParts", spec := "storeParts", unfollowed := true, recurses := true, apart := false }
def StorePartsSaid : Prop := storePartsRow.holds Tryz.pinned (OpenSpec.ofChange storePartsSpec)

/-- ITS FALSE NEIGHBOUR: 'it returns false'. Refute it at one input. -/
def storePartsWrong : ChangeSpec := { name := "storeParts", fn := fun _ => fun
  | [d1, d2, d3, d4] => { results := [.lit (.bool false)], args := [d1, d2, d3, d4] }
  | _ => none }
def StorePartsWrongFalsely : Prop := storePartsRow.holds Tryz.pinned (OpenSpec.ofChange storePartsWrong)

/-- 'waveplatelaw08.StoreCrashes': WHATEVER THE INPUT: true; the input reads as it did. -/
def storeCrashesSpec : ChangeSpec := { name := "storeCrashes", fn := fun _ => fun
  | [d1, d2, d3] => { results := [.lit (.bool true)], args := [d1, d2, d3] }
  | _ => none }
def storeCrashesRow : OpenClaim := { program := "ytdgmjedkhjeadaagreat", sum := "74b83f4a1ae0b9ad6fb285eed43b41645f14b01c28ad5060b4fa8cecdc3ff4b2", func := "waveplate/waveplatelaw08.StoreCrashes", spec := "storeCrashes", unfollowed := true, recurses := true, apart := false }
def StoreCrashesSaid : Prop := storeCrashesRow.holds Tryz.pinned (OpenSpec.ofChange storeCrashesSpec)

/-- ITS FALSE NEIGHBOUR: 'it returns false'. Refute it at one input. -/
def storeCrashesWrong : ChangeSpec := { name := "storeCrashes", fn := fun _ => fun
  | [d1, d2, d3] => { results := [.lit (.bool false)], args := [d1, d2, d3] }
  | _ => none }
def StoreCrashesWrongFalsely : Prop := storeCrashesRow.holds Tryz.pinned (OpenSpec.ofChange storeCrashesWrong)

/- THE SECOND FORM. 'bulk': how many values and letters a reading holds, each counted each time it is reached (what is shared counts as often as it is met; a slice's spare places count too). A statement '..UptoSaid' is the law's where the arguments, and the package variables that the reading takes, are together of bulk at most 1048576: NARROWER than '..Said'. Prove '..Said' where nothing that the law and all that it calls make is longer than what came in: it says more and counts as full. Else prove '..UptoSaid'. A law counts once. -/
mutual
def uptoBulk {H : Type} : DataW H → Nat
  | .lit (.string bytes) => bytes.length + 1
  | .lit _ => 1
  | .nil => 1
  | .ptr d => uptoBulk d + 1
  | .slice elems spare => uptoBulkAll elems + uptoBulkAll spare + 1
  | .agg parts => uptoBulkAll parts + 1
  | .iface _ d => uptoBulk d + 1
  | .map entries => uptoBulkEntries entries + 1
  | .held _ => 1
def uptoBulkAll {H : Type} : List (DataW H) → Nat
  | [] => 0
  | d :: r => uptoBulk d + uptoBulkAll r
def uptoBulkEntries {H : Type} : List (Lit × DataW H) → Nat
  | [] => 0
  | x :: r => uptoBulkEntry x + uptoBulkEntries r
def uptoBulkEntry {H : Type} : Lit × DataW H → Nat
  | (.string bytes, d) => bytes.length + uptoBulk d + 1
  | (_, d) => uptoBulk d + 1
 end
def uptoSmall : (H : Type) → List (DataW H) → Bool := fun _ ds => decide (uptoBulkAll ds ≤ 1048576)
def OpenSpec.upto (s : _root_.Go.ChangeSpec) : _root_.Go.OpenSpec := { _root_.Go.OpenSpec.ofChange s with cond := some uptoSmall }

/-- 'waveplatelaw08.StoreDisks', WHERE WHAT IT READS IS OF BULK AT MOST 1048576: true; the input reads as it did. -/
def storeDisksUptoRow : OpenClaim := { program := "ytdgmjedkhjeadaagreat", sum := "74b83f4a1ae0b9ad6fb285eed43b41645f14b01c28ad5060b4fa8cecdc3ff4b2", func := "waveplate/waveplatelaw08.StoreDisks", spec := "storeDisks", unfollowed := true, recurses := true, apart := false, narrowed := true }
def StoreDisksUptoSaid : Prop := storeDisksUptoRow.holds Tryz.pinned (OpenSpec.upto storeDisksSpec)

/-- 'waveplatelaw08.StoreCompacts', WHERE WHAT IT READS IS OF BULK AT MOST 1048576: true; the input reads as it did. -/
def storeCompactsUptoRow : OpenClaim := { program := "ytdgmjedkhjeadaagreat", sum := "74b83f4a1ae0b9ad6fb285eed43b41645f14b01c28ad5060b4fa8cecdc3ff4b2", func := "waveplate/waveplatelaw08.StoreCompacts", spec := "storeCompacts", unfollowed := true, recurses := true, apart := false, narrowed := true }
def StoreCompactsUptoSaid : Prop := storeCompactsUptoRow.holds Tryz.pinned (OpenSpec.upto storeCompactsSpec)

/-- 'waveplatelaw08.StoreOnce', WHERE WHAT IT READS IS OF BULK AT MOST 1048576: true; the input reads as it did. -/
def storeOnceUptoRow : OpenClaim := { program := "ytdgmjedkhjeadaagreat", sum := "74b83f4a1ae0b9ad6fb285eed43b41645f14b01c28ad5060b4fa8cecdc3ff4b2", func := "waveplate/waveplatelaw08.StoreOnce", spec := "storeOnce", unfollowed := true, recurses := true, apart := false, narrowed := true }
def StoreOnceUptoSaid : Prop := storeOnceUptoRow.holds Tryz.pinned (OpenSpec.upto storeOnceSpec)

/-- 'waveplatelaw08.StoreReconciled', WHERE WHAT IT READS IS OF BULK AT MOST 1048576: true; the input reads as it did. -/
def storeReconciledUptoRow : OpenClaim := { program := "ytdgmjedkhjeadaagreat", sum := "74b83f4a1ae0b9ad6fb285eed43b41645f14b01c28ad5060b4fa8cecdc3ff4b2", func := "waveplate/waveplatelaw08.StoreReconciled", spec := "storeReconciled", unfollowed := true, recurses := true, apart := false, narrowed := true }
def StoreReconciledUptoSaid : Prop := storeReconciledUptoRow.holds Tryz.pinned (OpenSpec.upto storeReconciledSpec)

/-- 'waveplatelaw08.StoreParts', WHERE WHAT IT READS IS OF BULK AT MOST 1048576: true; the input reads as it did. -/
def storePartsUptoRow : OpenClaim := { program := "ytdgmjedkhjeadaagreat", sum := "74b83f4a1ae0b9ad6fb285eed43b41645f14b01c28ad5060b4fa8cecdc3ff4b2", func := "waveplate/waveplatelaw08.StoreParts", spec := "storeParts", unfollowed := true, recurses := true, apart := false, narrowed := true }
def StorePartsUptoSaid : Prop := storePartsUptoRow.holds Tryz.pinned (OpenSpec.upto storePartsSpec)

/-- 'waveplatelaw08.StoreCrashes', WHERE WHAT IT READS IS OF BULK AT MOST 1048576: true; the input reads as it did. -/
def storeCrashesUptoRow : OpenClaim := { program := "ytdgmjedkhjeadaagreat", sum := "74b83f4a1ae0b9ad6fb285eed43b41645f14b01c28ad5060b4fa8cecdc3ff4b2", func := "waveplate/waveplatelaw08.StoreCrashes", spec := "storeCrashes", unfollowed := true, recurses := true, apart := false, narrowed := true }
def StoreCrashesUptoSaid : Prop := storeCrashesUptoRow.holds Tryz.pinned (OpenSpec.upto storeCrashesSpec)

end Rows
end Go.Proofs.YtdgmjedkhjeadaaGreat
