/-
  No cell of these rows narrows 'for every input' (looked for: loops, veiled, ifaces, maps, wideKeys, modest, calm, conditions, laid).
  DERIVED. THE GIVEN ROWS OF THIS SEAT. 10 by the template 'for every input the law returns true; each argument reads behind the call as it read before'; 0 by the template 'total and deterministic' (their statements: YtoofnkkbebjldaaTotals.lean).
  GIVEN WITH THE SEED: the statements are not yours to turn. If you find one false, say at which input.
  Laid BY PROGRAM, IN A SANDBOX (cutbox-rows.mjs): the forced cells as the released guide's own fill.sh prints them over the translation baa292059c5c01f7… (all of the seat's roots in one cut). By AI agents, Wed Nov 11 2026. No macro, syntax, notation, axiom, sorry.
-/
import Derived.Test.YtoofnkkbebjldaaChecked
import GoSem.Claim
import GoSem.ClaimJoined
import GoSem.ClaimMapViews
import Derived.JoinedTies
import Derived.KernelRfl
namespace Go.Proofs.Ytoofnkkbebjldaa
/- THE CELL 'sum', in the pinned program and in every row, IS THE sha256 OF THE DUMP (.gsa) THAT YtoofnkkbebjldaaProg.lean LOADS. Nothing in Lean hashes anything: it is a label: what it is worth is what the hold of that sum in a sandbox is worth. -/
noncomputable def Try.pinned : Pinned := { name := "ytoofnkkbebjldaa", sum := "baa292059c5c01f7f526b636302f781b0a2c0b55509b8bdd58e0117c651395ac", checked := Try.checked }
namespace Rows
def none {H : Type} : Left H := { results := [], args := [] }

/-- 'waveplatelaw05.ReconcileRuns': WHATEVER THE INPUT: true; the input reads as it did. -/
def reconcileRunsSpec : ChangeSpec := { name := "reconcileRuns", fn := fun _ => fun
  | [d1, d2, d3] => { results := [.lit (.bool true)], args := [d1, d2, d3] }
  | _ => none }
def reconcileRunsRow : OpenClaim := { program := "ytoofnkkbebjldaa", sum := "baa292059c5c01f7f526b636302f781b0a2c0b55509b8bdd58e0117c651395ac", func := "waveplate/waveplatelaw05.ReconcileRuns", spec := "reconcileRuns", unfollowed := true, recurses := true, plainKeys := false, apart := false }
def ReconcileRunsSaid : Prop := reconcileRunsRow.holds Try.pinned (OpenSpec.ofChange reconcileRunsSpec)

/-- ITS FALSE NEIGHBOUR: 'it returns false'. Refute it at one input. -/
def reconcileRunsWrong : ChangeSpec := { name := "reconcileRuns", fn := fun _ => fun
  | [d1, d2, d3] => { results := [.lit (.bool false)], args := [d1, d2, d3] }
  | _ => none }
def ReconcileRunsWrongFalsely : Prop := reconcileRunsRow.holds Try.pinned (OpenSpec.ofChange reconcileRunsWrong)

/-- 'waveplatelaw05.ReconcileSparse': WHATEVER THE INPUT: true; the input reads as it did. -/
def reconcileSparseSpec : ChangeSpec := { name := "reconcileSparse", fn := fun _ => fun
  | [d1, d2, d3, d4, d5] => { results := [.lit (.bool true)], args := [d1, d2, d3, d4, d5] }
  | _ => none }
def reconcileSparseRow : OpenClaim := { program := "ytoofnkkbebjldaa", sum := "baa292059c5c01f7f526b636302f781b0a2c0b55509b8bdd58e0117c651395ac", func := "waveplate/waveplatelaw05.ReconcileSparse", spec := "reconcileSparse", unfollowed := true, recurses := true, plainKeys := false, apart := false }
def ReconcileSparseSaid : Prop := reconcileSparseRow.holds Try.pinned (OpenSpec.ofChange reconcileSparseSpec)

/-- ITS FALSE NEIGHBOUR: 'it returns false'. Refute it at one input. -/
def reconcileSparseWrong : ChangeSpec := { name := "reconcileSparse", fn := fun _ => fun
  | [d1, d2, d3, d4, d5] => { results := [.lit (.bool false)], args := [d1, d2, d3, d4, d5] }
  | _ => none }
def ReconcileSparseWrongFalsely : Prop := reconcileSparseRow.holds Try.pinned (OpenSpec.ofChange reconcileSparseWrong)

/-- 'waveplatelaw05.ReconcileBlind': WHATEVER THE INPUT: true; the input reads as it did. -/
def reconcileBlindSpec : ChangeSpec := { name := "reconcileBlind", fn := fun _ => fun
  | [d1, d2, d3, d4, d5, d6] => { results := [.lit (.bool true)], args := [d1, d2, d3, d4, d5, d6] }
  | _ => none }
def reconcileBlindRow : OpenClaim := { program := "ytoofnkkbebjldaa", sum := "baa292059c5c01f7f526b636302f781b0a2c0b55509b8bdd58e0117c651395ac", func := "waveplate/waveplatelaw05.ReconcileBlind", spec := "reconcileBlind", unfollowed := true, recurses := true, plainKeys := false, apart := false }
def ReconcileBlindSaid : Prop := reconcileBlindRow.holds Try.pinned (OpenSpec.ofChange reconcileBlindSpec)

/-- ITS FALSE NEIGHBOUR: 'it returns false'. Refute it at one input. -/
def reconcileBlindWrong : ChangeSpec := { name := "reconcileBlind", fn := fun _ => fun
  | [d1, d2, d3, d4, d5, d6] => { results := [.lit (.bool false)], args := [d1, d2, d3, d4, d5, d6] }
  | _ => none }
def ReconcileBlindWrongFalsely : Prop := reconcileBlindRow.holds Try.pinned (OpenSpec.ofChange reconcileBlindWrong)

/-- 'waveplatelaw05.ReconcileEven': WHATEVER THE INPUT: true; the input reads as it did. -/
def reconcileEvenSpec : ChangeSpec := { name := "reconcileEven", fn := fun _ => fun
  | [d1, d2, d3, d4, d5] => { results := [.lit (.bool true)], args := [d1, d2, d3, d4, d5] }
  | _ => none }
def reconcileEvenRow : OpenClaim := { program := "ytoofnkkbebjldaa", sum := "baa292059c5c01f7f526b636302f781b0a2c0b55509b8bdd58e0117c651395ac", func := "waveplate/waveplatelaw05.ReconcileEven", spec := "reconcileEven", unfollowed := true, recurses := true, plainKeys := false, apart := false }
def ReconcileEvenSaid : Prop := reconcileEvenRow.holds Try.pinned (OpenSpec.ofChange reconcileEvenSpec)

/-- ITS FALSE NEIGHBOUR: 'it returns false'. Refute it at one input. -/
def reconcileEvenWrong : ChangeSpec := { name := "reconcileEven", fn := fun _ => fun
  | [d1, d2, d3, d4, d5] => { results := [.lit (.bool false)], args := [d1, d2, d3, d4, d5] }
  | _ => none }
def ReconcileEvenWrongFalsely : Prop := reconcileEvenRow.holds Try.pinned (OpenSpec.ofChange reconcileEvenWrong)

/-- 'waveplatelaw05.ReconcilePlans': WHATEVER THE INPUT: true; the input reads as it did. -/
def reconcilePlansSpec : ChangeSpec := { name := "reconcilePlans", fn := fun _ => fun
  | [d1, d2, d3, d4, d5] => { results := [.lit (.bool true)], args := [d1, d2, d3, d4, d5] }
  | _ => none }
def reconcilePlansRow : OpenClaim := { program := "ytoofnkkbebjldaa", sum := "baa292059c5c01f7f526b636302f781b0a2c0b55509b8bdd58e0117c651395ac", func := "waveplate/waveplatelaw05.ReconcilePlans", spec := "reconcilePlans", unfollowed := true, recurses := true, plainKeys := false, apart := false }
def ReconcilePlansSaid : Prop := reconcilePlansRow.holds Try.pinned (OpenSpec.ofChange reconcilePlansSpec)

/-- ITS FALSE NEIGHBOUR: 'it returns false'. Refute it at one input. -/
def reconcilePlansWrong : ChangeSpec := { name := "reconcilePlans", fn := fun _ => fun
  | [d1, d2, d3, d4, d5] => { results := [.lit (.bool false)], args := [d1, d2, d3, d4, d5] }
  | _ => none }
def ReconcilePlansWrongFalsely : Prop := reconcilePlansRow.holds Try.pinned (OpenSpec.ofChange reconcilePlansWrong)

/-- 'waveplatelaw05.ReconcileSteps': WHATEVER THE INPUT: true; the input reads as it did. -/
def reconcileStepsSpec : ChangeSpec := { name := "reconcileSteps", fn := fun _ => fun
  | [d1, d2, d3, d4, d5] => { results := [.lit (.bool true)], args := [d1, d2, d3, d4, d5] }
  | _ => none }
def reconcileStepsRow : OpenClaim := { program := "ytoofnkkbebjldaa", sum := "baa292059c5c01f7f526b636302f781b0a2c0b55509b8bdd58e0117c651395ac", func := "waveplate/waveplatelaw05.ReconcileSteps", spec := "reconcileSteps", unfollowed := true, recurses := true, plainKeys := false, apart := false }
def ReconcileStepsSaid : Prop := reconcileStepsRow.holds Try.pinned (OpenSpec.ofChange reconcileStepsSpec)

/-- ITS FALSE NEIGHBOUR: 'it returns false'. Refute it at one input. -/
def reconcileStepsWrong : ChangeSpec := { name := "reconcileSteps", fn := fun _ => fun
  | [d1, d2, d3, d4, d5] => { results := [.lit (.bool false)], args := [d1, d2, d3, d4, d5] }
  | _ => none }
def ReconcileStepsWrongFalsely : Prop := reconcileStepsRow.holds Try.pinned (OpenSpec.ofChange reconcileStepsWrong)

/-- 'waveplatelaw05.ReconcileCourse': WHATEVER THE INPUT: true; the input reads as it did. -/
def reconcileCourseSpec : ChangeSpec := { name := "reconcileCourse", fn := fun _ => fun
  | [d1, d2, d3, d4] => { results := [.lit (.bool true)], args := [d1, d2, d3, d4] }
  | _ => none }
def reconcileCourseRow : OpenClaim := { program := "ytoofnkkbebjldaa", sum := "baa292059c5c01f7f526b636302f781b0a2c0b55509b8bdd58e0117c651395ac", func := "waveplate/waveplatelaw05.ReconcileCourse", spec := "reconcileCourse", inPlace := ["maps.clone"], unfollowed := true, recurses := true, plainKeys := false, apart := false }
def ReconcileCourseSaid : Prop := reconcileCourseRow.holds Try.pinned (OpenSpec.ofChange reconcileCourseSpec)

/-- ITS FALSE NEIGHBOUR: 'it returns false'. Refute it at one input. -/
def reconcileCourseWrong : ChangeSpec := { name := "reconcileCourse", fn := fun _ => fun
  | [d1, d2, d3, d4] => { results := [.lit (.bool false)], args := [d1, d2, d3, d4] }
  | _ => none }
def ReconcileCourseWrongFalsely : Prop := reconcileCourseRow.holds Try.pinned (OpenSpec.ofChange reconcileCourseWrong)

/-- 'waveplatelaw05.ReconcileNil': WHATEVER THE INPUT: true; the input reads as it did. -/
def reconcileNilSpec : ChangeSpec := { name := "reconcileNil", fn := fun _ => fun
  | [d] => { results := [.lit (.bool true)], args := [d] }
  | _ => none }
def reconcileNilRow : OpenClaim := { program := "ytoofnkkbebjldaa", sum := "baa292059c5c01f7f526b636302f781b0a2c0b55509b8bdd58e0117c651395ac", func := "waveplate/waveplatelaw05.ReconcileNil", spec := "reconcileNil", inPlace := ["maps.clone"], unfollowed := true, recurses := true, plainKeys := false, apart := false }
def ReconcileNilSaid : Prop := reconcileNilRow.holds Try.pinned (OpenSpec.ofChange reconcileNilSpec)

/-- ITS FALSE NEIGHBOUR: 'it returns false'. Refute it at one input. -/
def reconcileNilWrong : ChangeSpec := { name := "reconcileNil", fn := fun _ => fun
  | [d] => { results := [.lit (.bool false)], args := [d] }
  | _ => none }
def ReconcileNilWrongFalsely : Prop := reconcileNilRow.holds Try.pinned (OpenSpec.ofChange reconcileNilWrong)

/-- 'waveplatelaw05.ReconcileRanks': WHATEVER THE INPUT: true; the input reads as it did. -/
def reconcileRanksSpec : ChangeSpec := { name := "reconcileRanks", fn := fun _ => fun
  | [d1, d2, d3] => { results := [.lit (.bool true)], args := [d1, d2, d3] }
  | _ => none }
def reconcileRanksRow : OpenClaim := { program := "ytoofnkkbebjldaa", sum := "baa292059c5c01f7f526b636302f781b0a2c0b55509b8bdd58e0117c651395ac", func := "waveplate/waveplatelaw05.ReconcileRanks", spec := "reconcileRanks", unfollowed := true, recurses := true, plainKeys := false, apart := false }
def ReconcileRanksSaid : Prop := reconcileRanksRow.holds Try.pinned (OpenSpec.ofChange reconcileRanksSpec)

/-- ITS FALSE NEIGHBOUR: 'it returns false'. Refute it at one input. -/
def reconcileRanksWrong : ChangeSpec := { name := "reconcileRanks", fn := fun _ => fun
  | [d1, d2, d3] => { results := [.lit (.bool false)], args := [d1, d2, d3] }
  | _ => none }
def ReconcileRanksWrongFalsely : Prop := reconcileRanksRow.holds Try.pinned (OpenSpec.ofChange reconcileRanksWrong)

/-- 'waveplatelaw05.ReconcileDiscloses': WHATEVER THE INPUT: true; the input reads as it did. -/
def reconcileDisclosesSpec : ChangeSpec := { name := "reconcileDiscloses", fn := fun _ => fun
  | [d1, d2, d3, d4, d5] => { results := [.lit (.bool true)], args := [d1, d2, d3, d4, d5] }
  | _ => none }
def reconcileDisclosesRow : OpenClaim := { program := "ytoofnkkbebjldaa", sum := "baa292059c5c01f7f526b636302f781b0a2c0b55509b8bdd58e0117c651395ac", func := "waveplate/waveplatelaw05.ReconcileDiscloses", spec := "reconcileDiscloses", unfollowed := true, recurses := true, plainKeys := false, apart := false }
def ReconcileDisclosesSaid : Prop := reconcileDisclosesRow.holds Try.pinned (OpenSpec.ofChange reconcileDisclosesSpec)

/-- ITS FALSE NEIGHBOUR: 'it returns false'. Refute it at one input. -/
def reconcileDisclosesWrong : ChangeSpec := { name := "reconcileDiscloses", fn := fun _ => fun
  | [d1, d2, d3, d4, d5] => { results := [.lit (.bool false)], args := [d1, d2, d3, d4, d5] }
  | _ => none }
def ReconcileDisclosesWrongFalsely : Prop := reconcileDisclosesRow.holds Try.pinned (OpenSpec.ofChange reconcileDisclosesWrong)

/- THE SECOND FORM. 'bulk': how many values and letters a reading holds, each counted each time it is reached (what is shared counts as often as it is met; a slice's spare places count too). A statement '..UptoSaid' is the law's where the arguments, and the package variables that the reading takes, are together of bulk at most 1048576: NARROWER than '..Said'. Prove '..Said' where nothing that the law and all that it calls make is longer than what came in: it says more and counts as full. Else prove '..UptoSaid'. A law counts once. -/
mutual
def uptoBulk {H : Type} : DataW H → Nat
  | .lit (.string bytes) => bytes.length + 1
  | .lit _ => 1
  | .nil => 1
  | .ptr d => uptoBulk d + 1
  | .slice elems spare => uptoBulkAll elems + uptoBulkAll spare + 1
  | .agg parts => uptoBulkAll parts + 1
  | .iface _ d => uptoBulk d + 1
  | .map entries => uptoBulkEntries entries + 1
  | .held _ => 1
def uptoBulkAll {H : Type} : List (DataW H) → Nat
  | [] => 0
  | d :: r => uptoBulk d + uptoBulkAll r
def uptoBulkEntries {H : Type} : List (Lit × DataW H) → Nat
  | [] => 0
  | x :: r => uptoBulkEntry x + uptoBulkEntries r
def uptoBulkEntry {H : Type} : Lit × DataW H → Nat
  | (.string bytes, d) => bytes.length + uptoBulk d + 1
  | (_, d) => uptoBulk d + 1
 end
def uptoSmall : (H : Type) → List (DataW H) → Bool := fun _ ds => decide (uptoBulkAll ds ≤ 1048576)
def OpenSpec.upto (s : _root_.Go.ChangeSpec) : _root_.Go.OpenSpec := { _root_.Go.OpenSpec.ofChange s with cond := some uptoSmall }

/-- 'waveplatelaw05.ReconcileRuns', WHERE WHAT IT READS IS OF BULK AT MOST 1048576: true; the input reads as it did. -/
def reconcileRunsUptoRow : OpenClaim := { program := "ytoofnkkbebjldaa", sum := "baa292059c5c01f7f526b636302f781b0a2c0b55509b8bdd58e0117c651395ac", func := "waveplate/waveplatelaw05.ReconcileRuns", spec := "reconcileRuns", unfollowed := true, recurses := true, plainKeys := false, apart := false, narrowed := true }
def ReconcileRunsUptoSaid : Prop := reconcileRunsUptoRow.holds Try.pinned (OpenSpec.upto reconcileRunsSpec)

/-- 'waveplatelaw05.ReconcileSparse', WHERE WHAT IT READS IS OF BULK AT MOST 1048576: true; the input reads as it did. -/
def reconcileSparseUptoRow : OpenClaim := { program := "ytoofnkkbebjldaa", sum := "baa292059c5c01f7f526b636302f781b0a2c0b55509b8bdd58e0117c651395ac", func := "waveplate/waveplatelaw05.ReconcileSparse", spec := "reconcileSparse", unfollowed := true, recurses := true, plainKeys := false, apart := false, narrowed := true }
def ReconcileSparseUptoSaid : Prop := reconcileSparseUptoRow.holds Try.pinned (OpenSpec.upto reconcileSparseSpec)

/-- 'waveplatelaw05.ReconcileBlind', WHERE WHAT IT READS IS OF BULK AT MOST 1048576: true; the input reads as it did. -/
def reconcileBlindUptoRow : OpenClaim := { program := "ytoofnkkbebjldaa", sum := "baa292059c5c01f7f526b636302f781b0a2c0b55509b8bdd58e0117c651395ac", func := "waveplate/waveplatelaw05.ReconcileBlind", spec := "reconcileBlind", unfollowed := true, recurses := true, plainKeys := false, apart := false, narrowed := true }
def ReconcileBlindUptoSaid : Prop := reconcileBlindUptoRow.holds Try.pinned (OpenSpec.upto reconcileBlindSpec)

/-- 'waveplatelaw05.ReconcileEven', WHERE WHAT IT READS IS OF BULK AT MOST 1048576: true; the input reads as it did. -/
def reconcileEvenUptoRow : OpenClaim := { program := "ytoofnkkbebjldaa", sum := "baa292059c5c01f7f526b636302f781b0a2c0b55509b8bdd58e0117c651395ac", func := "waveplate/waveplatelaw05.ReconcileEven", spec := "reconcileEven", unfollowed := true, recurses := true, plainKeys := false, apart := false, narrowed := true }
def ReconcileEvenUptoSaid : Prop := reconcileEvenUptoRow.holds Try.pinned (OpenSpec.upto reconcileEvenSpec)

/-- 'waveplatelaw05.ReconcilePlans', WHERE WHAT IT READS IS OF BULK AT MOST 1048576: true; the input reads as it did. -/
def reconcilePlansUptoRow : OpenClaim := { program := "ytoofnkkbebjldaa", sum := "baa292059c5c01f7f526b636302f781b0a2c0b55509b8bdd58e0117c651395ac", func := "waveplate/waveplatelaw05.ReconcilePlans", spec := "reconcilePlans", unfollowed := true, recurses := true, plainKeys := false, apart := false, narrowed := true }
def ReconcilePlansUptoSaid : Prop := reconcilePlansUptoRow.holds Try.pinned (OpenSpec.upto reconcilePlansSpec)

/-- 'waveplatelaw05.ReconcileSteps', WHERE WHAT IT READS IS OF BULK AT MOST 1048576: true; the input reads as it did. -/
def reconcileStepsUptoRow : OpenClaim := { program := "ytoofnkkbebjldaa", sum := "baa292059c5c01f7f526b636302f781b0a2c0b55509b8bdd58e0117c651395ac", func := "waveplate/waveplatelaw05.ReconcileSteps", spec := "reconcileSteps", unfollowed := true, recurses := true, plainKeys := false, apart := false, narrowed := true }
def ReconcileStepsUptoSaid : Prop := reconcileStepsUptoRow.holds Try.pinned (OpenSpec.upto reconcileStepsSpec)

/-- 'waveplatelaw05.ReconcileCourse', WHERE WHAT IT READS IS OF BULK AT MOST 1048576: true; the input reads as it did. -/
def reconcileCourseUptoRow : OpenClaim := { program := "ytoofnkkbebjldaa", sum := "baa292059c5c01f7f526b636302f781b0a2c0b55509b8bdd58e0117c651395ac", func := "waveplate/waveplatelaw05.ReconcileCourse", spec := "reconcileCourse", inPlace := ["maps.clone"], unfollowed := true, recurses := true, plainKeys := false, apart := false, narrowed := true }
def ReconcileCourseUptoSaid : Prop := reconcileCourseUptoRow.holds Try.pinned (OpenSpec.upto reconcileCourseSpec)

/-- 'waveplatelaw05.ReconcileNil', WHERE WHAT IT READS IS OF BULK AT MOST 1048576: true; the input reads as it did. -/
def reconcileNilUptoRow : OpenClaim := { program := "ytoofnkkbebjldaa", sum := "baa292059c5c01f7f526b636302f781b0a2c0b55509b8bdd58e0117c651395ac", func := "waveplate/waveplatelaw05.ReconcileNil", spec := "reconcileNil", inPlace := ["maps.clone"], unfollowed := true, recurses := true, plainKeys := false, apart := false, narrowed := true }
def ReconcileNilUptoSaid : Prop := reconcileNilUptoRow.holds Try.pinned (OpenSpec.upto reconcileNilSpec)

/-- 'waveplatelaw05.ReconcileRanks', WHERE WHAT IT READS IS OF BULK AT MOST 1048576: true; the input reads as it did. -/
def reconcileRanksUptoRow : OpenClaim := { program := "ytoofnkkbebjldaa", sum := "baa292059c5c01f7f526b636302f781b0a2c0b55509b8bdd58e0117c651395ac", func := "waveplate/waveplatelaw05.ReconcileRanks", spec := "reconcileRanks", unfollowed := true, recurses := true, plainKeys := false, apart := false, narrowed := true }
def ReconcileRanksUptoSaid : Prop := reconcileRanksUptoRow.holds Try.pinned (OpenSpec.upto reconcileRanksSpec)

/-- 'waveplatelaw05.ReconcileDiscloses', WHERE WHAT IT READS IS OF BULK AT MOST 1048576: true; the input reads as it did. -/
def reconcileDisclosesUptoRow : OpenClaim := { program := "ytoofnkkbebjldaa", sum := "baa292059c5c01f7f526b636302f781b0a2c0b55509b8bdd58e0117c651395ac", func := "waveplate/waveplatelaw05.ReconcileDiscloses", spec := "reconcileDiscloses", unfollowed := true, recurses := true, plainKeys := false, apart := false, narrowed := true }
def ReconcileDisclosesUptoSaid : Prop := reconcileDisclosesUptoRow.holds Try.pinned (OpenSpec.upto reconcileDisclosesSpec)

end Rows
end Go.Proofs.Ytoofnkkbebjldaa
