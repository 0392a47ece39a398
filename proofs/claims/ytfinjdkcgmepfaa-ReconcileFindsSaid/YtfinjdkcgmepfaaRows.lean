/-
  No cell of these rows narrows 'for every input' (looked for: loops, veiled, ifaces, maps, wideKeys, modest, calm, conditions, laid).
  DERIVED. THE GIVEN ROWS OF THIS SEAT. 5 by the template 'for every input the law returns true; each argument reads behind the call as it read before'; 0 by the template 'total and deterministic' (their statements: YtfinjdkcgmepfaaTotals.lean).
  GIVEN WITH THE SEED: the statements are not yours to turn. If you find one false, say at which input.
  Laid BY PROGRAM, IN A SANDBOX (cutbox-rows.mjs): the forced cells as the released guide's own fill.sh prints them over the translation 2e69edbd4d85f9ba… (all of the seat's roots in one cut). By AI agents, Wed Nov 11 2026. No macro, syntax, notation, axiom, sorry.
-/
import Derived.Test.YtfinjdkcgmepfaaChecked
import GoSem.Claim
import GoSem.ClaimJoined
import GoSem.ClaimMapViews
import Derived.JoinedTies
import Derived.KernelRfl
namespace Go.Proofs.Ytfinjdkcgmepfaa
/- THE CELL 'sum', in the pinned program and in every row, IS THE sha256 OF THE DUMP (.gsa) THAT YtfinjdkcgmepfaaProg.lean LOADS. Nothing in Lean hashes anything: it is a label: what it is worth is what the hold of that sum in a sandbox is worth. -/
noncomputable def Try.pinned : Pinned := { name := "ytfinjdkcgmepfaa", sum := "2e69edbd4d85f9bae16b375ea98945628667c00ae55ea11a68adb253e3c8d077", checked := Try.checked }
namespace Rows
def none {H : Type} : Left H := { results := [], args := [] }

/-- 'waveplatelaw05.ReconcileLinear': WHATEVER THE INPUT: true; the input reads as it did. -/
def reconcileLinearSpec : ChangeSpec := { name := "reconcileLinear", fn := fun _ => fun
  | [d1, d2, d3, d4, d5, d6] => { results := [.lit (.bool true)], args := [d1, d2, d3, d4, d5, d6] }
  | _ => none }
def reconcileLinearRow : OpenClaim := { program := "ytfinjdkcgmepfaa", sum := "2e69edbd4d85f9bae16b375ea98945628667c00ae55ea11a68adb253e3c8d077", func := "waveplate/waveplatelaw05.ReconcileLinear", spec := "reconcileLinear", unfollowed := true, recurses := true, plainKeys := false, apart := false }
def ReconcileLinearSaid : Prop := reconcileLinearRow.holds Try.pinned (OpenSpec.ofChange reconcileLinearSpec)

/-- ITS FALSE NEIGHBOUR: 'it returns false'. Refute it at one input. -/
def reconcileLinearWrong : ChangeSpec := { name := "reconcileLinear", fn := fun _ => fun
  | [d1, d2, d3, d4, d5, d6] => { results := [.lit (.bool false)], args := [d1, d2, d3, d4, d5, d6] }
  | _ => none }
def ReconcileLinearWrongFalsely : Prop := reconcileLinearRow.holds Try.pinned (OpenSpec.ofChange reconcileLinearWrong)

/-- 'waveplatelaw05.ReconcileCodes': WHATEVER THE INPUT: true; the input reads as it did. -/
def reconcileCodesSpec : ChangeSpec := { name := "reconcileCodes", fn := fun _ => fun
  | [d1, d2] => { results := [.lit (.bool true)], args := [d1, d2] }
  | _ => none }
def reconcileCodesRow : OpenClaim := { program := "ytfinjdkcgmepfaa", sum := "2e69edbd4d85f9bae16b375ea98945628667c00ae55ea11a68adb253e3c8d077", func := "waveplate/waveplatelaw05.ReconcileCodes", spec := "reconcileCodes", unfollowed := true, recurses := true, plainKeys := false, apart := false }
def ReconcileCodesSaid : Prop := reconcileCodesRow.holds Try.pinned (OpenSpec.ofChange reconcileCodesSpec)

/-- ITS FALSE NEIGHBOUR: 'it returns false'. Refute it at one input. -/
def reconcileCodesWrong : ChangeSpec := { name := "reconcileCodes", fn := fun _ => fun
  | [d1, d2] => { results := [.lit (.bool false)], args := [d1, d2] }
  | _ => none }
def ReconcileCodesWrongFalsely : Prop := reconcileCodesRow.holds Try.pinned (OpenSpec.ofChange reconcileCodesWrong)

/-- 'waveplatelaw05.ReconcileNearests': WHATEVER THE INPUT: true; the input reads as it did. -/
def reconcileNearestsSpec : ChangeSpec := { name := "reconcileNearests", fn := fun _ => fun
  | [d1, d2, d3, d4] => { results := [.lit (.bool true)], args := [d1, d2, d3, d4] }
  | _ => none }
def reconcileNearestsRow : OpenClaim := { program := "ytfinjdkcgmepfaa", sum := "2e69edbd4d85f9bae16b375ea98945628667c00ae55ea11a68adb253e3c8d077", func := "waveplate/waveplatelaw05.ReconcileNearests", spec := "reconcileNearests", unfollowed := true, recurses := true, plainKeys := false, apart := false }
def ReconcileNearestsSaid : Prop := reconcileNearestsRow.holds Try.pinned (OpenSpec.ofChange reconcileNearestsSpec)

/-- ITS FALSE NEIGHBOUR: 'it returns false'. Refute it at one input. -/
def reconcileNearestsWrong : ChangeSpec := { name := "reconcileNearests", fn := fun _ => fun
  | [d1, d2, d3, d4] => { results := [.lit (.bool false)], args := [d1, d2, d3, d4] }
  | _ => none }
def ReconcileNearestsWrongFalsely : Prop := reconcileNearestsRow.holds Try.pinned (OpenSpec.ofChange reconcileNearestsWrong)

/-- 'waveplatelaw05.ReconcileDecodes': WHATEVER THE INPUT: true; the input reads as it did. -/
def reconcileDecodesSpec : ChangeSpec := { name := "reconcileDecodes", fn := fun _ => fun
  | [d1, d2, d3, d4] => { results := [.lit (.bool true)], args := [d1, d2, d3, d4] }
  | _ => none }
def reconcileDecodesRow : OpenClaim := { program := "ytfinjdkcgmepfaa", sum := "2e69edbd4d85f9bae16b375ea98945628667c00ae55ea11a68adb253e3c8d077", func := "waveplate/waveplatelaw05.ReconcileDecodes", spec := "reconcileDecodes", unfollowed := true, recurses := true, plainKeys := false, apart := false }
def ReconcileDecodesSaid : Prop := reconcileDecodesRow.holds Try.pinned (OpenSpec.ofChange reconcileDecodesSpec)

/-- ITS FALSE NEIGHBOUR: 'it returns false'. Refute it at one input. -/
def reconcileDecodesWrong : ChangeSpec := { name := "reconcileDecodes", fn := fun _ => fun
  | [d1, d2, d3, d4] => { results := [.lit (.bool false)], args := [d1, d2, d3, d4] }
  | _ => none }
def ReconcileDecodesWrongFalsely : Prop := reconcileDecodesRow.holds Try.pinned (OpenSpec.ofChange reconcileDecodesWrong)

/-- 'waveplatelaw05.ReconcileFinds': WHATEVER THE INPUT: true; the input reads as it did. -/
def reconcileFindsSpec : ChangeSpec := { name := "reconcileFinds", fn := fun _ => fun
  | [d1, d2, d3, d4, d5, d6, d7] => { results := [.lit (.bool true)], args := [d1, d2, d3, d4, d5, d6, d7] }
  | _ => none }
def reconcileFindsRow : OpenClaim := { program := "ytfinjdkcgmepfaa", sum := "2e69edbd4d85f9bae16b375ea98945628667c00ae55ea11a68adb253e3c8d077", func := "waveplate/waveplatelaw05.ReconcileFinds", spec := "reconcileFinds", unfollowed := true, recurses := true, plainKeys := false, apart := false }
def ReconcileFindsSaid : Prop := reconcileFindsRow.holds Try.pinned (OpenSpec.ofChange reconcileFindsSpec)

/-- ITS FALSE NEIGHBOUR: 'it returns false'. Refute it at one input. -/
def reconcileFindsWrong : ChangeSpec := { name := "reconcileFinds", fn := fun _ => fun
  | [d1, d2, d3, d4, d5, d6, d7] => { results := [.lit (.bool false)], args := [d1, d2, d3, d4, d5, d6, d7] }
  | _ => none }
def ReconcileFindsWrongFalsely : Prop := reconcileFindsRow.holds Try.pinned (OpenSpec.ofChange reconcileFindsWrong)

/- THE SECOND FORM. 'bulk': how many values and letters a reading holds, each counted each time it is reached (what is shared counts as often as it is met; a slice's spare places count too). A statement '..UptoSaid' is the law's where the arguments, and the package variables that the reading takes, are together of bulk at most 1048576: NARROWER than '..Said'. Prove '..Said' where nothing that the law and all that it calls make is longer than what came in: it says more and counts as full. Else prove '..UptoSaid'. A law counts once. -/
mutual
def uptoBulk {H : Type} : DataW H → Nat
  | .lit (.string bytes) => bytes.length + 1
  | .lit _ => 1
  | .nil => 1
  | .ptr d => uptoBulk d + 1
  | .slice elems spare => uptoBulkAll elems + uptoBulkAll spare + 1
  | .agg parts => uptoBulkAll parts + 1
  | .iface _ d => uptoBulk d + 1
  | .map entries => uptoBulkEntries entries + 1
  | .held _ => 1
def uptoBulkAll {H : Type} : List (DataW H) → Nat
  | [] => 0
  | d :: r => uptoBulk d + uptoBulkAll r
def uptoBulkEntries {H : Type} : List (Lit × DataW H) → Nat
  | [] => 0
  | x :: r => uptoBulkEntry x + uptoBulkEntries r
def uptoBulkEntry {H : Type} : Lit × DataW H → Nat
  | (.string bytes, d) => bytes.length + uptoBulk d + 1
  | (_, d) => uptoBulk d + 1
 end
def uptoSmall : (H : Type) → List (DataW H) → Bool := fun _ ds => decide (uptoBulkAll ds ≤ 1048576)
def OpenSpec.upto (s : _root_.Go.ChangeSpec) : _root_.Go.OpenSpec := { _root_.Go.OpenSpec.ofChange s with cond := some uptoSmall }

/-- 'waveplatelaw05.ReconcileLinear', WHERE WHAT IT READS IS OF BULK AT MOST 1048576: true; the input reads as it did. -/
def reconcileLinearUptoRow : OpenClaim := { program := "ytfinjdkcgmepfaa", sum := "2e69edbd4d85f9bae16b375ea98945628667c00ae55ea11a68adb253e3c8d077", func := "waveplate/waveplatelaw05.ReconcileLinear", spec := "reconcileLinear", unfollowed := true, recurses := true, plainKeys := false, apart := false, narrowed := true }
def ReconcileLinearUptoSaid : Prop := reconcileLinearUptoRow.holds Try.pinned (OpenSpec.upto reconcileLinearSpec)

/-- 'waveplatelaw05.ReconcileCodes', WHERE WHAT IT READS IS OF BULK AT MOST 1048576: true; the input reads as it did. -/
def reconcileCodesUptoRow : OpenClaim := { program := "ytfinjdkcgmepfaa", sum := "2e69edbd4d85f9bae16b375ea98945628667c00ae55ea11a68adb253e3c8d077", func := "waveplate/waveplatelaw05.ReconcileCodes", spec := "reconcileCodes", unfollowed := true, recurses := true, plainKeys := false, apart := false, narrowed := true }
def ReconcileCodesUptoSaid : Prop := reconcileCodesUptoRow.holds Try.pinned (OpenSpec.upto reconcileCodesSpec)

/-- 'waveplatelaw05.ReconcileNearests', WHERE WHAT IT READS IS OF BULK AT MOST 1048576: true; the input reads as it did. -/
def reconcileNearestsUptoRow : OpenClaim := { program := "ytfinjdkcgmepfaa", sum := "2e69edbd4d85f9bae16b375ea98945628667c00ae55ea11a68adb253e3c8d077", func := "waveplate/waveplatelaw05.ReconcileNearests", spec := "reconcileNearests", unfollowed := true, recurses := true, plainKeys := false, apart := false, narrowed := true }
def ReconcileNearestsUptoSaid : Prop := reconcileNearestsUptoRow.holds Try.pinned (OpenSpec.upto reconcileNearestsSpec)

/-- 'waveplatelaw05.ReconcileDecodes', WHERE WHAT IT READS IS OF BULK AT MOST 1048576: true; the input reads as it did. -/
def reconcileDecodesUptoRow : OpenClaim := { program := "ytfinjdkcgmepfaa", sum := "2e69edbd4d85f9bae16b375ea98945628667c00ae55ea11a68adb253e3c8d077", func := "waveplate/waveplatelaw05.ReconcileDecodes", spec := "reconcileDecodes", unfollowed := true, recurses := true, plainKeys := false, apart := false, narrowed := true }
def ReconcileDecodesUptoSaid : Prop := reconcileDecodesUptoRow.holds Try.pinned (OpenSpec.upto reconcileDecodesSpec)

/-- 'waveplatelaw05.ReconcileFinds', WHERE WHAT IT READS IS OF BULK AT MOST 1048576: true; the input reads as it did. -/
def reconcileFindsUptoRow : OpenClaim := { program := "ytfinjdkcgmepfaa", sum := "2e69edbd4d85f9bae16b375ea98945628667c00ae55ea11a68adb253e3c8d077", func := "waveplate/waveplatelaw05.ReconcileFinds", spec := "reconcileFinds", unfollowed := true, recurses := true, plainKeys := false, apart := false, narrowed := true }
def ReconcileFindsUptoSaid : Prop := reconcileFindsUptoRow.holds Try.pinned (OpenSpec.upto reconcileFindsSpec)

end Rows
end Go.Proofs.Ytfinjdkcgmepfaa
