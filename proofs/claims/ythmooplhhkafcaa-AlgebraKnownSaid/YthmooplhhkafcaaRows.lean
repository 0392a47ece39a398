/-
  No cell of these rows narrows 'for every input' (looked for: loops, veiled, ifaces, maps, wideKeys, modest, calm, conditions, laid).
  DERIVED. THE GIVEN ROWS OF THIS SEAT. 9 by the template 'for every input the law returns true; each argument reads behind the call as it read before'; 0 by the template 'total and deterministic' (their statements: YthmooplhhkafcaaTotals.lean).
  GIVEN WITH THE SEED: the statements are not yours to turn. If you find one false, say at which input.
  Laid BY PROGRAM, IN A SANDBOX (cutbox-rows.mjs): the forced cells as the released guide's own fill.sh prints them over the translation 90a8b39bd4bdb25d… (all of the seat's roots in one cut). By AI agents, Wed Nov 11 2026. No macro, syntax, notation, axiom, sorry.
-/
import Derived.Test.YthmooplhhkafcaaChecked
import GoSem.Claim
import GoSem.ClaimJoined
import GoSem.ClaimMapViews
import Derived.JoinedTies
import Derived.KernelRfl
namespace Go.Proofs.Ythmooplhhkafcaa
/- THE CELL 'sum', in the pinned program and in every row, IS THE sha256 OF THE DUMP (.gsa) THAT YthmooplhhkafcaaProg.lean LOADS. Nothing in Lean hashes anything: it is a label: what it is worth is what the hold of that sum in a sandbox is worth. -/
noncomputable def Try.pinned : Pinned := { name := "ythmooplhhkafcaa", sum := "90a8b39bd4bdb25d221d8e40417a1973f85a946e806d1e50682b77b0c0d1dc13", checked := Try.checked }
namespace Rows
def none {H : Type} : Left H := { results := [], args := [] }

/-- 'waveplatelaw02.AlgebraBack': WHATEVER THE INPUT: true; the input reads as it did. -/
def algebraBackSpec : ChangeSpec := { name := "algebraBack", fn := fun _ => fun
  | [d] => { results := [.lit (.bool true)], args := [d] }
  | _ => none }
def algebraBackRow : OpenClaim := { program := "ythmooplhhkafcaa", sum := "90a8b39bd4bdb25d221d8e40417a1973f85a946e806d1e50682b77b0c0d1dc13", func := "waveplate/waveplatelaw02.AlgebraBack", spec := "algebraBack", inPlace := ["internal/abi.NoEscape"], apart := false }
def AlgebraBackSaid : Prop := algebraBackRow.holds Try.pinned (OpenSpec.ofChange algebraBackSpec)

/-- ITS FALSE NEIGHBOUR: 'it returns false'. Refute it at one input. -/
def algebraBackWrong : ChangeSpec := { name := "algebraBack", fn := fun _ => fun
  | [d] => { results := [.lit (.bool false)], args := [d] }
  | _ => none }
def AlgebraBackWrongFalsely : Prop := algebraBackRow.holds Try.pinned (OpenSpec.ofChange algebraBackWrong)

/-- 'waveplatelaw02.AlgebraExplain': WHATEVER THE INPUT: true; the input reads as it did. -/
def algebraExplainSpec : ChangeSpec := { name := "algebraExplain", fn := fun _ => fun
  | [d1, d2, d3] => { results := [.lit (.bool true)], args := [d1, d2, d3] }
  | _ => none }
def algebraExplainRow : OpenClaim := { program := "ythmooplhhkafcaa", sum := "90a8b39bd4bdb25d221d8e40417a1973f85a946e806d1e50682b77b0c0d1dc13", func := "waveplate/waveplatelaw02.AlgebraExplain", spec := "algebraExplain", inPlace := ["internal/abi.NoEscape"], unfollowed := true, recurses := true, apart := false }
def AlgebraExplainSaid : Prop := algebraExplainRow.holds Try.pinned (OpenSpec.ofChange algebraExplainSpec)

/-- ITS FALSE NEIGHBOUR: 'it returns false'. Refute it at one input. -/
def algebraExplainWrong : ChangeSpec := { name := "algebraExplain", fn := fun _ => fun
  | [d1, d2, d3] => { results := [.lit (.bool false)], args := [d1, d2, d3] }
  | _ => none }
def AlgebraExplainWrongFalsely : Prop := algebraExplainRow.holds Try.pinned (OpenSpec.ofChange algebraExplainWrong)

/-- 'waveplatelaw02.AlgebraView': WHATEVER THE INPUT: true; the input reads as it did. -/
def algebraViewSpec : ChangeSpec := { name := "algebraView", fn := fun _ => fun
  | [d1, d2, d3] => { results := [.lit (.bool true)], args := [d1, d2, d3] }
  | _ => none }
def algebraViewRow : OpenClaim := { program := "ythmooplhhkafcaa", sum := "90a8b39bd4bdb25d221d8e40417a1973f85a946e806d1e50682b77b0c0d1dc13", func := "waveplate/waveplatelaw02.AlgebraView", spec := "algebraView", inPlace := ["internal/abi.NoEscape"], unfollowed := true, recurses := true, apart := false }
def AlgebraViewSaid : Prop := algebraViewRow.holds Try.pinned (OpenSpec.ofChange algebraViewSpec)

/-- ITS FALSE NEIGHBOUR: 'it returns false'. Refute it at one input. -/
def algebraViewWrong : ChangeSpec := { name := "algebraView", fn := fun _ => fun
  | [d1, d2, d3] => { results := [.lit (.bool false)], args := [d1, d2, d3] }
  | _ => none }
def AlgebraViewWrongFalsely : Prop := algebraViewRow.holds Try.pinned (OpenSpec.ofChange algebraViewWrong)

/-- 'waveplatelaw02.AlgebraJoin': WHATEVER THE INPUT: true; the input reads as it did. -/
def algebraJoinSpec : ChangeSpec := { name := "algebraJoin", fn := fun _ => fun
  | [d1, d2] => { results := [.lit (.bool true)], args := [d1, d2] }
  | _ => none }
def algebraJoinRow : OpenClaim := { program := "ythmooplhhkafcaa", sum := "90a8b39bd4bdb25d221d8e40417a1973f85a946e806d1e50682b77b0c0d1dc13", func := "waveplate/waveplatelaw02.AlgebraJoin", spec := "algebraJoin", inPlace := ["internal/abi.NoEscape"], unfollowed := true, recurses := true, apart := false }
def AlgebraJoinSaid : Prop := algebraJoinRow.holds Try.pinned (OpenSpec.ofChange algebraJoinSpec)

/-- ITS FALSE NEIGHBOUR: 'it returns false'. Refute it at one input. -/
def algebraJoinWrong : ChangeSpec := { name := "algebraJoin", fn := fun _ => fun
  | [d1, d2] => { results := [.lit (.bool false)], args := [d1, d2] }
  | _ => none }
def AlgebraJoinWrongFalsely : Prop := algebraJoinRow.holds Try.pinned (OpenSpec.ofChange algebraJoinWrong)

/-- 'waveplatelaw02.AlgebraGather': WHATEVER THE INPUT: true; the input reads as it did. -/
def algebraGatherSpec : ChangeSpec := { name := "algebraGather", fn := fun _ => fun
  | [d1, d2] => { results := [.lit (.bool true)], args := [d1, d2] }
  | _ => none }
def algebraGatherRow : OpenClaim := { program := "ythmooplhhkafcaa", sum := "90a8b39bd4bdb25d221d8e40417a1973f85a946e806d1e50682b77b0c0d1dc13", func := "waveplate/waveplatelaw02.AlgebraGather", spec := "algebraGather", inPlace := ["internal/abi.NoEscape"], unfollowed := true, recurses := true, apart := false }
def AlgebraGatherSaid : Prop := algebraGatherRow.holds Try.pinned (OpenSpec.ofChange algebraGatherSpec)

/-- ITS FALSE NEIGHBOUR: 'it returns false'. Refute it at one input. -/
def algebraGatherWrong : ChangeSpec := { name := "algebraGather", fn := fun _ => fun
  | [d1, d2] => { results := [.lit (.bool false)], args := [d1, d2] }
  | _ => none }
def AlgebraGatherWrongFalsely : Prop := algebraGatherRow.holds Try.pinned (OpenSpec.ofChange algebraGatherWrong)

/-- 'waveplatelaw02.AlgebraOrders': WHATEVER THE INPUT: true; the input reads as it did. -/
def algebraOrdersSpec : ChangeSpec := { name := "algebraOrders", fn := fun _ => fun
  | [d1, d2, d3] => { results := [.lit (.bool true)], args := [d1, d2, d3] }
  | _ => none }
def algebraOrdersRow : OpenClaim := { program := "ythmooplhhkafcaa", sum := "90a8b39bd4bdb25d221d8e40417a1973f85a946e806d1e50682b77b0c0d1dc13", func := "waveplate/waveplatelaw02.AlgebraOrders", spec := "algebraOrders", inPlace := ["internal/abi.NoEscape"], unfollowed := true, recurses := true, apart := false }
def AlgebraOrdersSaid : Prop := algebraOrdersRow.holds Try.pinned (OpenSpec.ofChange algebraOrdersSpec)

/-- ITS FALSE NEIGHBOUR: 'it returns false'. Refute it at one input. -/
def algebraOrdersWrong : ChangeSpec := { name := "algebraOrders", fn := fun _ => fun
  | [d1, d2, d3] => { results := [.lit (.bool false)], args := [d1, d2, d3] }
  | _ => none }
def AlgebraOrdersWrongFalsely : Prop := algebraOrdersRow.holds Try.pinned (OpenSpec.ofChange algebraOrdersWrong)

/-- 'waveplatelaw02.AlgebraNil': WHATEVER THE INPUT: true; the input reads as it did. -/
def algebraNilSpec : ChangeSpec := { name := "algebraNil", fn := fun _ => fun
  | [d1, d2] => { results := [.lit (.bool true)], args := [d1, d2] }
  | _ => none }
def algebraNilRow : OpenClaim := { program := "ythmooplhhkafcaa", sum := "90a8b39bd4bdb25d221d8e40417a1973f85a946e806d1e50682b77b0c0d1dc13", func := "waveplate/waveplatelaw02.AlgebraNil", spec := "algebraNil", inPlace := ["internal/abi.NoEscape"], unfollowed := true, recurses := true, apart := false }
def AlgebraNilSaid : Prop := algebraNilRow.holds Try.pinned (OpenSpec.ofChange algebraNilSpec)

/-- ITS FALSE NEIGHBOUR: 'it returns false'. Refute it at one input. -/
def algebraNilWrong : ChangeSpec := { name := "algebraNil", fn := fun _ => fun
  | [d1, d2] => { results := [.lit (.bool false)], args := [d1, d2] }
  | _ => none }
def AlgebraNilWrongFalsely : Prop := algebraNilRow.holds Try.pinned (OpenSpec.ofChange algebraNilWrong)

/-- 'waveplatelaw02.AlgebraDraws': WHATEVER THE INPUT: true; the input reads as it did. -/
def algebraDrawsSpec : ChangeSpec := { name := "algebraDraws", fn := fun _ => fun
  | [d1, d2] => { results := [.lit (.bool true)], args := [d1, d2] }
  | _ => none }
def algebraDrawsRow : OpenClaim := { program := "ythmooplhhkafcaa", sum := "90a8b39bd4bdb25d221d8e40417a1973f85a946e806d1e50682b77b0c0d1dc13", func := "waveplate/waveplatelaw02.AlgebraDraws", spec := "algebraDraws", inPlace := ["internal/abi.NoEscape"], unfollowed := true, recurses := true, apart := false }
def AlgebraDrawsSaid : Prop := algebraDrawsRow.holds Try.pinned (OpenSpec.ofChange algebraDrawsSpec)

/-- ITS FALSE NEIGHBOUR: 'it returns false'. Refute it at one input. -/
def algebraDrawsWrong : ChangeSpec := { name := "algebraDraws", fn := fun _ => fun
  | [d1, d2] => { results := [.lit (.bool false)], args := [d1, d2] }
  | _ => none }
def AlgebraDrawsWrongFalsely : Prop := algebraDrawsRow.holds Try.pinned (OpenSpec.ofChange algebraDrawsWrong)

/-- 'waveplatelaw02.AlgebraKnown': WHATEVER THE INPUT: true; the input reads as it did. -/
def algebraKnownSpec : ChangeSpec := { name := "algebraKnown", fn := fun _ => fun
  | [] => { results := [.lit (.bool true)], args := [] }
  | _ => none }
def algebraKnownRow : OpenClaim := { program := "ythmooplhhkafcaa", sum := "90a8b39bd4bdb25d221d8e40417a1973f85a946e806d1e50682b77b0c0d1dc13", func := "waveplate/waveplatelaw02.AlgebraKnown", spec := "algebraKnown", inPlace := ["internal/abi.NoEscape"], unfollowed := true, recurses := true, apart := false }
def AlgebraKnownSaid : Prop := algebraKnownRow.holds Try.pinned (OpenSpec.ofChange algebraKnownSpec)

/-- ITS FALSE NEIGHBOUR: 'it returns false'. Refute it at one input. -/
def algebraKnownWrong : ChangeSpec := { name := "algebraKnown", fn := fun _ => fun
  | [] => { results := [.lit (.bool false)], args := [] }
  | _ => none }
def AlgebraKnownWrongFalsely : Prop := algebraKnownRow.holds Try.pinned (OpenSpec.ofChange algebraKnownWrong)

/- THE SECOND FORM. 'bulk': how many values and letters a reading holds, each counted each time it is reached (what is shared counts as often as it is met; a slice's spare places count too). A statement '..UptoSaid' is the law's where the arguments, and the package variables that the reading takes, are together of bulk at most 1048576: NARROWER than '..Said'. Prove '..Said' where nothing that the law and all that it calls make is longer than what came in: it says more and counts as full. Else prove '..UptoSaid'. A law counts once. -/
mutual
def uptoBulk {H : Type} : DataW H → Nat
  | .lit (.string bytes) => bytes.length + 1
  | .lit _ => 1
  | .nil => 1
  | .ptr d => uptoBulk d + 1
  | .slice elems spare => uptoBulkAll elems + uptoBulkAll spare + 1
  | .agg parts => uptoBulkAll parts + 1
  | .iface _ d => uptoBulk d + 1
  | .map entries => uptoBulkEntries entries + 1
  | .held _ => 1
def uptoBulkAll {H : Type} : List (DataW H) → Nat
  | [] => 0
  | d :: r => uptoBulk d + uptoBulkAll r
def uptoBulkEntries {H : Type} : List (Lit × DataW H) → Nat
  | [] => 0
  | x :: r => uptoBulkEntry x + uptoBulkEntries r
def uptoBulkEntry {H : Type} : Lit × DataW H → Nat
  | (.string bytes, d) => bytes.length + uptoBulk d + 1
  | (_, d) => uptoBulk d + 1
 end
def uptoSmall : (H : Type) → List (DataW H) → Bool := fun _ ds => decide (uptoBulkAll ds ≤ 1048576)
def OpenSpec.upto (s : _root_.Go.ChangeSpec) : _root_.Go.OpenSpec := { _root_.Go.OpenSpec.ofChange s with cond := some uptoSmall }

/-- 'waveplatelaw02.AlgebraBack', WHERE WHAT IT READS IS OF BULK AT MOST 1048576: true; the input reads as it did. -/
def algebraBackUptoRow : OpenClaim := { program := "ythmooplhhkafcaa", sum := "90a8b39bd4bdb25d221d8e40417a1973f85a946e806d1e50682b77b0c0d1dc13", func := "waveplate/waveplatelaw02.AlgebraBack", spec := "algebraBack", inPlace := ["internal/abi.NoEscape"], apart := false, narrowed := true }
def AlgebraBackUptoSaid : Prop := algebraBackUptoRow.holds Try.pinned (OpenSpec.upto algebraBackSpec)

/-- 'waveplatelaw02.AlgebraExplain', WHERE WHAT IT READS IS OF BULK AT MOST 1048576: true; the input reads as it did. -/
def algebraExplainUptoRow : OpenClaim := { program := "ythmooplhhkafcaa", sum := "90a8b39bd4bdb25d221d8e40417a1973f85a946e806d1e50682b77b0c0d1dc13", func := "waveplate/waveplatelaw02.AlgebraExplain", spec := "algebraExplain", inPlace := ["internal/abi.NoEscape"], unfollowed := true, recurses := true, apart := false, narrowed := true }
def AlgebraExplainUptoSaid : Prop := algebraExplainUptoRow.holds Try.pinned (OpenSpec.upto algebraExplainSpec)

/-- 'waveplatelaw02.AlgebraView', WHERE WHAT IT READS IS OF BULK AT MOST 1048576: true; the input reads as it did. -/
def algebraViewUptoRow : OpenClaim := { program := "ythmooplhhkafcaa", sum := "90a8b39bd4bdb25d221d8e40417a1973f85a946e806d1e50682b77b0c0d1dc13", func := "waveplate/waveplatelaw02.AlgebraView", spec := "algebraView", inPlace := ["internal/abi.NoEscape"], unfollowed := true, recurses := true, apart := false, narrowed := true }
def AlgebraViewUptoSaid : Prop := algebraViewUptoRow.holds Try.pinned (OpenSpec.upto algebraViewSpec)

/-- 'waveplatelaw02.AlgebraJoin', WHERE WHAT IT READS IS OF BULK AT MOST 1048576: true; the input reads as it did. -/
def algebraJoinUptoRow : OpenClaim := { program := "ythmooplhhkafcaa", sum := "90a8b39bd4bdb25d221d8e40417a1973f85a946e806d1e50682b77b0c0d1dc13", func := "waveplate/waveplatelaw02.AlgebraJoin", spec := "algebraJoin", inPlace := ["internal/abi.NoEscape"], unfollowed := true, recurses := true, apart := false, narrowed := true }
def AlgebraJoinUptoSaid : Prop := algebraJoinUptoRow.holds Try.pinned (OpenSpec.upto algebraJoinSpec)

/-- 'waveplatelaw02.AlgebraGather', WHERE WHAT IT READS IS OF BULK AT MOST 1048576: true; the input reads as it did. -/
def algebraGatherUptoRow : OpenClaim := { program := "ythmooplhhkafcaa", sum := "90a8b39bd4bdb25d221d8e40417a1973f85a946e806d1e50682b77b0c0d1dc13", func := "waveplate/waveplatelaw02.AlgebraGather", spec := "algebraGather", inPlace := ["internal/abi.NoEscape"], unfollowed := true, recurses := true, apart := false, narrowed := true }
def AlgebraGatherUptoSaid : Prop := algebraGatherUptoRow.holds Try.pinned (OpenSpec.upto algebraGatherSpec)

/-- 'waveplatelaw02.AlgebraOrders', WHERE WHAT IT READS IS OF BULK AT MOST 1048576: true; the input reads as it did. -/
def algebraOrdersUptoRow : OpenClaim := { program := "ythmooplhhkafcaa", sum := "90a8b39bd4bdb25d221d8e40417a1973f85a946e806d1e50682b77b0c0d1dc13", func := "waveplate/waveplatelaw02.AlgebraOrders", spec := "algebraOrders", inPlace := ["internal/abi.NoEscape"], unfollowed := true, recurses := true, apart := false, narrowed := true }
def AlgebraOrdersUptoSaid : Prop := algebraOrdersUptoRow.holds Try.pinned (OpenSpec.upto algebraOrdersSpec)

/-- 'waveplatelaw02.AlgebraNil', WHERE WHAT IT READS IS OF BULK AT MOST 1048576: true; the input reads as it did. -/
def algebraNilUptoRow : OpenClaim := { program := "ythmooplhhkafcaa", sum := "90a8b39bd4bdb25d221d8e40417a1973f85a946e806d1e50682b77b0c0d1dc13", func := "waveplate/waveplatelaw02.AlgebraNil", spec := "algebraNil", inPlace := ["internal/abi.NoEscape"], unfollowed := true, recurses := true, apart := false, narrowed := true }
def AlgebraNilUptoSaid : Prop := algebraNilUptoRow.holds Try.pinned (OpenSpec.upto algebraNilSpec)

/-- 'waveplatelaw02.AlgebraDraws', WHERE WHAT IT READS IS OF BULK AT MOST 1048576: true; the input reads as it did. -/
def algebraDrawsUptoRow : OpenClaim := { program := "ythmooplhhkafcaa", sum := "90a8b39bd4bdb25d221d8e40417a1973f85a946e806d1e50682b77b0c0d1dc13", func := "waveplate/waveplatelaw02.AlgebraDraws", spec := "algebraDraws", inPlace := ["internal/abi.NoEscape"], unfollowed := true, recurses := true, apart := false, narrowed := true }
def AlgebraDrawsUptoSaid : Prop := algebraDrawsUptoRow.holds Try.pinned (OpenSpec.upto algebraDrawsSpec)

/-- 'waveplatelaw02.AlgebraKnown', WHERE WHAT IT READS IS OF BULK AT MOST 1048576: true; the input reads as it did. -/
def algebraKnownUptoRow : OpenClaim := { program := "ythmooplhhkafcaa", sum := "90a8b39bd4bdb25d221d8e40417a1973f85a946e806d1e50682b77b0c0d1dc13", func := "waveplate/waveplatelaw02.AlgebraKnown", spec := "algebraKnown", inPlace := ["internal/abi.NoEscape"], unfollowed := true, recurses := true, apart := false, narrowed := true }
def AlgebraKnownUptoSaid : Prop := algebraKnownUptoRow.holds Try.pinned (OpenSpec.upto algebraKnownSpec)

end Rows
end Go.Proofs.Ythmooplhhkafcaa
