/-
  No cell of these rows narrows 'for every input' (looked for: loops, veiled, ifaces, maps, wideKeys, modest, calm, conditions, laid).
  DERIVED. THE GIVEN ROWS OF THIS SEAT. 12 by the template 'for every input the law returns true; each argument reads behind the call as it read before'; 0 by the template 'total and deterministic' (their statements: YtahfkhnhmnjbeaaTotals.lean).
  GIVEN WITH THE SEED: the statements are not yours to turn. If you find one false, say at which input.
  Laid BY PROGRAM, IN A SANDBOX (cutbox-rows.mjs): the forced cells as the released guide's own fill.sh prints them over the translation cac06c9570d6aa4b… (all of the seat's roots in one cut). By AI agents, Wed Nov 11 2026. No macro, syntax, notation, axiom, sorry.
-/
import Derived.Test.YtahfkhnhmnjbeaaChecked
import GoSem.Claim
import GoSem.ClaimJoined
import GoSem.ClaimMapViews
import Derived.JoinedTies
import Derived.KernelRfl
namespace Go.Proofs.Ytahfkhnhmnjbeaa
/- THE CELL 'sum', in the pinned program and in every row, IS THE sha256 OF THE DUMP (.gsa) THAT YtahfkhnhmnjbeaaProg.lean LOADS. Nothing in Lean hashes anything: it is a label: what it is worth is what the hold of that sum in a sandbox is worth. -/
noncomputable def Try.pinned : Pinned := { name := "ytahfkhnhmnjbeaa", sum := "cac06c9570d6aa4b58cf9d25771d6c81c773fdf6263b5f4cdc20a6b9328eb43e", checked := Try.checked }
namespace Rows
def none {H : Type} : Left H := { results := [], args := [] }

/-- 'waveplatelaw02.AlgebraSplit': WHATEVER THE INPUT: true; the input reads as it did. -/
def algebraSplitSpec : ChangeSpec := { name := "algebraSplit", fn := fun _ => fun
  | [d] => { results := [.lit (.bool true)], args := [d] }
  | _ => none }
def algebraSplitRow : OpenClaim := { program := "ytahfkhnhmnjbeaa", sum := "cac06c9570d6aa4b58cf9d25771d6c81c773fdf6263b5f4cdc20a6b9328eb43e", func := "waveplate/waveplatelaw02.AlgebraSplit", spec := "algebraSplit", inPlace := ["internal/abi.NoEscape"], apart := false }
def AlgebraSplitSaid : Prop := algebraSplitRow.holds Try.pinned (OpenSpec.ofChange algebraSplitSpec)

/-- ITS FALSE NEIGHBOUR: 'it returns false'. Refute it at one input. -/
def algebraSplitWrong : ChangeSpec := { name := "algebraSplit", fn := fun _ => fun
  | [d] => { results := [.lit (.bool false)], args := [d] }
  | _ => none }
def AlgebraSplitWrongFalsely : Prop := algebraSplitRow.holds Try.pinned (OpenSpec.ofChange algebraSplitWrong)

/-- 'waveplatelaw02.AlgebraWords': WHATEVER THE INPUT: true; the input reads as it did. -/
def algebraWordsSpec : ChangeSpec := { name := "algebraWords", fn := fun _ => fun
  | [d1, d2] => { results := [.lit (.bool true)], args := [d1, d2] }
  | _ => none }
def algebraWordsRow : OpenClaim := { program := "ytahfkhnhmnjbeaa", sum := "cac06c9570d6aa4b58cf9d25771d6c81c773fdf6263b5f4cdc20a6b9328eb43e", func := "waveplate/waveplatelaw02.AlgebraWords", spec := "algebraWords", inPlace := ["internal/abi.NoEscape"], apart := false }
def AlgebraWordsSaid : Prop := algebraWordsRow.holds Try.pinned (OpenSpec.ofChange algebraWordsSpec)

/-- ITS FALSE NEIGHBOUR: 'it returns false'. Refute it at one input. -/
def algebraWordsWrong : ChangeSpec := { name := "algebraWords", fn := fun _ => fun
  | [d1, d2] => { results := [.lit (.bool false)], args := [d1, d2] }
  | _ => none }
def AlgebraWordsWrongFalsely : Prop := algebraWordsRow.holds Try.pinned (OpenSpec.ofChange algebraWordsWrong)

/-- 'waveplatelaw02.AlgebraSeeds': WHATEVER THE INPUT: true; the input reads as it did. -/
def algebraSeedsSpec : ChangeSpec := { name := "algebraSeeds", fn := fun _ => fun
  | [d1, d2] => { results := [.lit (.bool true)], args := [d1, d2] }
  | _ => none }
def algebraSeedsRow : OpenClaim := { program := "ytahfkhnhmnjbeaa", sum := "cac06c9570d6aa4b58cf9d25771d6c81c773fdf6263b5f4cdc20a6b9328eb43e", func := "waveplate/waveplatelaw02.AlgebraSeeds", spec := "algebraSeeds", inPlace := ["internal/abi.NoEscape"], apart := false }
def AlgebraSeedsSaid : Prop := algebraSeedsRow.holds Try.pinned (OpenSpec.ofChange algebraSeedsSpec)

/-- ITS FALSE NEIGHBOUR: 'it returns false'. Refute it at one input. -/
def algebraSeedsWrong : ChangeSpec := { name := "algebraSeeds", fn := fun _ => fun
  | [d1, d2] => { results := [.lit (.bool false)], args := [d1, d2] }
  | _ => none }
def AlgebraSeedsWrongFalsely : Prop := algebraSeedsRow.holds Try.pinned (OpenSpec.ofChange algebraSeedsWrong)

/-- 'waveplatelaw02.AlgebraToeplitz': WHATEVER THE INPUT: true; the input reads as it did. -/
def algebraToeplitzSpec : ChangeSpec := { name := "algebraToeplitz", fn := fun _ => fun
  | [d1, d2, d3] => { results := [.lit (.bool true)], args := [d1, d2, d3] }
  | _ => none }
def algebraToeplitzRow : OpenClaim := { program := "ytahfkhnhmnjbeaa", sum := "cac06c9570d6aa4b58cf9d25771d6c81c773fdf6263b5f4cdc20a6b9328eb43e", func := "waveplate/waveplatelaw02.AlgebraToeplitz", spec := "algebraToeplitz", inPlace := ["internal/abi.NoEscape"], unfollowed := true, recurses := true, apart := false }
def AlgebraToeplitzSaid : Prop := algebraToeplitzRow.holds Try.pinned (OpenSpec.ofChange algebraToeplitzSpec)

/-- ITS FALSE NEIGHBOUR: 'it returns false'. Refute it at one input. -/
def algebraToeplitzWrong : ChangeSpec := { name := "algebraToeplitz", fn := fun _ => fun
  | [d1, d2, d3] => { results := [.lit (.bool false)], args := [d1, d2, d3] }
  | _ => none }
def AlgebraToeplitzWrongFalsely : Prop := algebraToeplitzRow.holds Try.pinned (OpenSpec.ofChange algebraToeplitzWrong)

/-- 'waveplatelaw02.AlgebraUniform': WHATEVER THE INPUT: true; the input reads as it did. -/
def algebraUniformSpec : ChangeSpec := { name := "algebraUniform", fn := fun _ => fun
  | [d1, d2] => { results := [.lit (.bool true)], args := [d1, d2] }
  | _ => none }
def algebraUniformRow : OpenClaim := { program := "ytahfkhnhmnjbeaa", sum := "cac06c9570d6aa4b58cf9d25771d6c81c773fdf6263b5f4cdc20a6b9328eb43e", func := "waveplate/waveplatelaw02.AlgebraUniform", spec := "algebraUniform", inPlace := ["internal/abi.NoEscape"], unfollowed := true, recurses := true, apart := false }
def AlgebraUniformSaid : Prop := algebraUniformRow.holds Try.pinned (OpenSpec.ofChange algebraUniformSpec)

/-- ITS FALSE NEIGHBOUR: 'it returns false'. Refute it at one input. -/
def algebraUniformWrong : ChangeSpec := { name := "algebraUniform", fn := fun _ => fun
  | [d1, d2] => { results := [.lit (.bool false)], args := [d1, d2] }
  | _ => none }
def AlgebraUniformWrongFalsely : Prop := algebraUniformRow.holds Try.pinned (OpenSpec.ofChange algebraUniformWrong)

/-- 'waveplatelaw02.AlgebraLinear': WHATEVER THE INPUT: true; the input reads as it did. -/
def algebraLinearSpec : ChangeSpec := { name := "algebraLinear", fn := fun _ => fun
  | [d1, d2, d3] => { results := [.lit (.bool true)], args := [d1, d2, d3] }
  | _ => none }
def algebraLinearRow : OpenClaim := { program := "ytahfkhnhmnjbeaa", sum := "cac06c9570d6aa4b58cf9d25771d6c81c773fdf6263b5f4cdc20a6b9328eb43e", func := "waveplate/waveplatelaw02.AlgebraLinear", spec := "algebraLinear", inPlace := ["internal/abi.NoEscape"], unfollowed := true, recurses := true, apart := false }
def AlgebraLinearSaid : Prop := algebraLinearRow.holds Try.pinned (OpenSpec.ofChange algebraLinearSpec)

/-- ITS FALSE NEIGHBOUR: 'it returns false'. Refute it at one input. -/
def algebraLinearWrong : ChangeSpec := { name := "algebraLinear", fn := fun _ => fun
  | [d1, d2, d3] => { results := [.lit (.bool false)], args := [d1, d2, d3] }
  | _ => none }
def AlgebraLinearWrongFalsely : Prop := algebraLinearRow.holds Try.pinned (OpenSpec.ofChange algebraLinearWrong)

/-- 'waveplatelaw02.AlgebraField': WHATEVER THE INPUT: true; the input reads as it did. -/
def algebraFieldSpec : ChangeSpec := { name := "algebraField", fn := fun _ => fun
  | [d1, d2] => { results := [.lit (.bool true)], args := [d1, d2] }
  | _ => none }
def algebraFieldRow : OpenClaim := { program := "ytahfkhnhmnjbeaa", sum := "cac06c9570d6aa4b58cf9d25771d6c81c773fdf6263b5f4cdc20a6b9328eb43e", func := "waveplate/waveplatelaw02.AlgebraField", spec := "algebraField", inPlace := ["internal/abi.NoEscape"], apart := false }
def AlgebraFieldSaid : Prop := algebraFieldRow.holds Try.pinned (OpenSpec.ofChange algebraFieldSpec)

/-- ITS FALSE NEIGHBOUR: 'it returns false'. Refute it at one input. -/
def algebraFieldWrong : ChangeSpec := { name := "algebraField", fn := fun _ => fun
  | [d1, d2] => { results := [.lit (.bool false)], args := [d1, d2] }
  | _ => none }
def AlgebraFieldWrongFalsely : Prop := algebraFieldRow.holds Try.pinned (OpenSpec.ofChange algebraFieldWrong)

/-- 'waveplatelaw02.AlgebraLaws': WHATEVER THE INPUT: true; the input reads as it did. -/
def algebraLawsSpec : ChangeSpec := { name := "algebraLaws", fn := fun _ => fun
  | [d] => { results := [.lit (.bool true)], args := [d] }
  | _ => none }
def algebraLawsRow : OpenClaim := { program := "ytahfkhnhmnjbeaa", sum := "cac06c9570d6aa4b58cf9d25771d6c81c773fdf6263b5f4cdc20a6b9328eb43e", func := "waveplate/waveplatelaw02.AlgebraLaws", spec := "algebraLaws", inPlace := ["internal/abi.NoEscape"], apart := false }
def AlgebraLawsSaid : Prop := algebraLawsRow.holds Try.pinned (OpenSpec.ofChange algebraLawsSpec)

/-- ITS FALSE NEIGHBOUR: 'it returns false'. Refute it at one input. -/
def algebraLawsWrong : ChangeSpec := { name := "algebraLaws", fn := fun _ => fun
  | [d] => { results := [.lit (.bool false)], args := [d] }
  | _ => none }
def AlgebraLawsWrongFalsely : Prop := algebraLawsRow.holds Try.pinned (OpenSpec.ofChange algebraLawsWrong)

/-- 'waveplatelaw02.AlgebraHash': WHATEVER THE INPUT: true; the input reads as it did. -/
def algebraHashSpec : ChangeSpec := { name := "algebraHash", fn := fun _ => fun
  | [d1, d2, d3] => { results := [.lit (.bool true)], args := [d1, d2, d3] }
  | _ => none }
def algebraHashRow : OpenClaim := { program := "ytahfkhnhmnjbeaa", sum := "cac06c9570d6aa4b58cf9d25771d6c81c773fdf6263b5f4cdc20a6b9328eb43e", func := "waveplate/waveplatelaw02.AlgebraHash", spec := "algebraHash", inPlace := ["internal/abi.NoEscape"], unfollowed := true, recurses := true, apart := false }
def AlgebraHashSaid : Prop := algebraHashRow.holds Try.pinned (OpenSpec.ofChange algebraHashSpec)

/-- ITS FALSE NEIGHBOUR: 'it returns false'. Refute it at one input. -/
def algebraHashWrong : ChangeSpec := { name := "algebraHash", fn := fun _ => fun
  | [d1, d2, d3] => { results := [.lit (.bool false)], args := [d1, d2, d3] }
  | _ => none }
def AlgebraHashWrongFalsely : Prop := algebraHashRow.holds Try.pinned (OpenSpec.ofChange algebraHashWrong)

/-- 'waveplatelaw02.AlgebraCollide': WHATEVER THE INPUT: true; the input reads as it did. -/
def algebraCollideSpec : ChangeSpec := { name := "algebraCollide", fn := fun _ => fun
  | [d1, d2] => { results := [.lit (.bool true)], args := [d1, d2] }
  | _ => none }
def algebraCollideRow : OpenClaim := { program := "ytahfkhnhmnjbeaa", sum := "cac06c9570d6aa4b58cf9d25771d6c81c773fdf6263b5f4cdc20a6b9328eb43e", func := "waveplate/waveplatelaw02.AlgebraCollide", spec := "algebraCollide", inPlace := ["internal/abi.NoEscape"], unfollowed := true, recurses := true, apart := false }
def AlgebraCollideSaid : Prop := algebraCollideRow.holds Try.pinned (OpenSpec.ofChange algebraCollideSpec)

/-- ITS FALSE NEIGHBOUR: 'it returns false'. Refute it at one input. -/
def algebraCollideWrong : ChangeSpec := { name := "algebraCollide", fn := fun _ => fun
  | [d1, d2] => { results := [.lit (.bool false)], args := [d1, d2] }
  | _ => none }
def AlgebraCollideWrongFalsely : Prop := algebraCollideRow.holds Try.pinned (OpenSpec.ofChange algebraCollideWrong)

/-- 'waveplatelaw02.AlgebraStrings': WHATEVER THE INPUT: true; the input reads as it did. -/
def algebraStringsSpec : ChangeSpec := { name := "algebraStrings", fn := fun _ => fun
  | [d1, d2, d3] => { results := [.lit (.bool true)], args := [d1, d2, d3] }
  | _ => none }
def algebraStringsRow : OpenClaim := { program := "ytahfkhnhmnjbeaa", sum := "cac06c9570d6aa4b58cf9d25771d6c81c773fdf6263b5f4cdc20a6b9328eb43e", func := "waveplate/waveplatelaw02.AlgebraStrings", spec := "algebraStrings", inPlace := ["internal/abi.NoEscape"], unfollowed := true, recurses := true, apart := false }
def AlgebraStringsSaid : Prop := algebraStringsRow.holds Try.pinned (OpenSpec.ofChange algebraStringsSpec)

/-- ITS FALSE NEIGHBOUR: 'it returns false'. Refute it at one input. -/
def algebraStringsWrong : ChangeSpec := { name := "algebraStrings", fn := fun _ => fun
  | [d1, d2, d3] => { results := [.lit (.bool false)], args := [d1, d2, d3] }
  | _ => none }
def AlgebraStringsWrongFalsely : Prop := algebraStringsRow.holds Try.pinned (OpenSpec.ofChange algebraStringsWrong)

/-- 'waveplatelaw02.AlgebraForms': WHATEVER THE INPUT: true; the input reads as it did. -/
def algebraFormsSpec : ChangeSpec := { name := "algebraForms", fn := fun _ => fun
  | [d] => { results := [.lit (.bool true)], args := [d] }
  | _ => none }
def algebraFormsRow : OpenClaim := { program := "ytahfkhnhmnjbeaa", sum := "cac06c9570d6aa4b58cf9d25771d6c81c773fdf6263b5f4cdc20a6b9328eb43e", func := "waveplate/waveplatelaw02.AlgebraForms", spec := "algebraForms", inPlace := ["internal/abi.NoEscape"], apart := false }
def AlgebraFormsSaid : Prop := algebraFormsRow.holds Try.pinned (OpenSpec.ofChange algebraFormsSpec)

/-- ITS FALSE NEIGHBOUR: 'it returns false'. Refute it at one input. -/
def algebraFormsWrong : ChangeSpec := { name := "algebraForms", fn := fun _ => fun
  | [d] => { results := [.lit (.bool false)], args := [d] }
  | _ => none }
def AlgebraFormsWrongFalsely : Prop := algebraFormsRow.holds Try.pinned (OpenSpec.ofChange algebraFormsWrong)

/- THE SECOND FORM. 'bulk': how many values and letters a reading holds, each counted each time it is reached (what is shared counts as often as it is met; a slice's spare places count too). A statement '..UptoSaid' is the law's where the arguments, and the package variables that the reading takes, are together of bulk at most 1048576: NARROWER than '..Said'. Prove '..Said' where nothing that the law and all that it calls make is longer than what came in: it says more and counts as full. Else prove '..UptoSaid'. A law counts once. -/
mutual
def uptoBulk {H : Type} : DataW H → Nat
  | .lit (.string bytes) => bytes.length + 1
  | .lit _ => 1
  | .nil => 1
  | .ptr d => uptoBulk d + 1
  | .slice elems spare => uptoBulkAll elems + uptoBulkAll spare + 1
  | .agg parts => uptoBulkAll parts + 1
  | .iface _ d => uptoBulk d + 1
  | .map entries => uptoBulkEntries entries + 1
  | .held _ => 1
def uptoBulkAll {H : Type} : List (DataW H) → Nat
  | [] => 0
  | d :: r => uptoBulk d + uptoBulkAll r
def uptoBulkEntries {H : Type} : List (Lit × DataW H) → Nat
  | [] => 0
  | x :: r => uptoBulkEntry x + uptoBulkEntries r
def uptoBulkEntry {H : Type} : Lit × DataW H → Nat
  | (.string bytes, d) => bytes.length + uptoBulk d + 1
  | (_, d) => uptoBulk d + 1
 end
def uptoSmall : (H : Type) → List (DataW H) → Bool := fun _ ds => decide (uptoBulkAll ds ≤ 1048576)
def OpenSpec.upto (s : _root_.Go.ChangeSpec) : _root_.Go.OpenSpec := { _root_.Go.OpenSpec.ofChange s with cond := some uptoSmall }

/-- 'waveplatelaw02.AlgebraSplit', WHERE WHAT IT READS IS OF BULK AT MOST 1048576: true; the input reads as it did. -/
def algebraSplitUptoRow : OpenClaim := { program := "ytahfkhnhmnjbeaa", sum := "cac06c9570d6aa4b58cf9d25771d6c81c773fdf6263b5f4cdc20a6b9328eb43e", func := "waveplate/waveplatelaw02.AlgebraSplit", spec := "algebraSplit", inPlace := ["internal/abi.NoEscape"], apart := false, narrowed := true }
def AlgebraSplitUptoSaid : Prop := algebraSplitUptoRow.holds Try.pinned (OpenSpec.upto algebraSplitSpec)

/-- 'waveplatelaw02.AlgebraWords', WHERE WHAT IT READS IS OF BULK AT MOST 1048576: true; the input reads as it did. -/
def algebraWordsUptoRow : OpenClaim := { program := "ytahfkhnhmnjbeaa", sum := "cac06c9570d6aa4b58cf9d25771d6c81c773fdf6263b5f4cdc20a6b9328eb43e", func := "waveplate/waveplatelaw02.AlgebraWords", spec := "algebraWords", inPlace := ["internal/abi.NoEscape"], apart := false, narrowed := true }
def AlgebraWordsUptoSaid : Prop := algebraWordsUptoRow.holds Try.pinned (OpenSpec.upto algebraWordsSpec)

/-- 'waveplatelaw02.AlgebraSeeds', WHERE WHAT IT READS IS OF BULK AT MOST 1048576: true; the input reads as it did. -/
def algebraSeedsUptoRow : OpenClaim := { program := "ytahfkhnhmnjbeaa", sum := "cac06c9570d6aa4b58cf9d25771d6c81c773fdf6263b5f4cdc20a6b9328eb43e", func := "waveplate/waveplatelaw02.AlgebraSeeds", spec := "algebraSeeds", inPlace := ["internal/abi.NoEscape"], apart := false, narrowed := true }
def AlgebraSeedsUptoSaid : Prop := algebraSeedsUptoRow.holds Try.pinned (OpenSpec.upto algebraSeedsSpec)

/-- 'waveplatelaw02.AlgebraToeplitz', WHERE WHAT IT READS IS OF BULK AT MOST 1048576: true; the input reads as it did. -/
def algebraToeplitzUptoRow : OpenClaim := { program := "ytahfkhnhmnjbeaa", sum := "cac06c9570d6aa4b58cf9d25771d6c81c773fdf6263b5f4cdc20a6b9328eb43e", func := "waveplate/waveplatelaw02.AlgebraToeplitz", spec := "algebraToeplitz", inPlace := ["internal/abi.NoEscape"], unfollowed := true, recurses := true, apart := false, narrowed := true }
def AlgebraToeplitzUptoSaid : Prop := algebraToeplitzUptoRow.holds Try.pinned (OpenSpec.upto algebraToeplitzSpec)

/-- 'waveplatelaw02.AlgebraUniform', WHERE WHAT IT READS IS OF BULK AT MOST 1048576: true; the input reads as it did. -/
def algebraUniformUptoRow : OpenClaim := { program := "ytahfkhnhmnjbeaa", sum := "cac06c9570d6aa4b58cf9d25771d6c81c773fdf6263b5f4cdc20a6b9328eb43e", func := "waveplate/waveplatelaw02.AlgebraUniform", spec := "algebraUniform", inPlace := ["internal/abi.NoEscape"], unfollowed := true, recurses := true, apart := false, narrowed := true }
def AlgebraUniformUptoSaid : Prop := algebraUniformUptoRow.holds Try.pinned (OpenSpec.upto algebraUniformSpec)

/-- 'waveplatelaw02.AlgebraLinear', WHERE WHAT IT READS IS OF BULK AT MOST 1048576: true; the input reads as it did. -/
def algebraLinearUptoRow : OpenClaim := { program := "ytahfkhnhmnjbeaa", sum := "cac06c9570d6aa4b58cf9d25771d6c81c773fdf6263b5f4cdc20a6b9328eb43e", func := "waveplate/waveplatelaw02.AlgebraLinear", spec := "algebraLinear", inPlace := ["internal/abi.NoEscape"], unfollowed := true, recurses := true, apart := false, narrowed := true }
def AlgebraLinearUptoSaid : Prop := algebraLinearUptoRow.holds Try.pinned (OpenSpec.upto algebraLinearSpec)

/-- 'waveplatelaw02.AlgebraField', WHERE WHAT IT READS IS OF BULK AT MOST 1048576: true; the input reads as it did. -/
def algebraFieldUptoRow : OpenClaim := { program := "ytahfkhnhmnjbeaa", sum := "cac06c9570d6aa4b58cf9d25771d6c81c773fdf6263b5f4cdc20a6b9328eb43e", func := "waveplate/waveplatelaw02.AlgebraField", spec := "algebraField", inPlace := ["internal/abi.NoEscape"], apart := false, narrowed := true }
def AlgebraFieldUptoSaid : Prop := algebraFieldUptoRow.holds Try.pinned (OpenSpec.upto algebraFieldSpec)

/-- 'waveplatelaw02.AlgebraLaws', WHERE WHAT IT READS IS OF BULK AT MOST 1048576: true; the input reads as it did. -/
def algebraLawsUptoRow : OpenClaim := { program := "ytahfkhnhmnjbeaa", sum := "cac06c9570d6aa4b58cf9d25771d6c81c773fdf6263b5f4cdc20a6b9328eb43e", func := "waveplate/waveplatelaw02.AlgebraLaws", spec := "algebraLaws", inPlace := ["internal/abi.NoEscape"], apart := false, narrowed := true }
def AlgebraLawsUptoSaid : Prop := algebraLawsUptoRow.holds Try.pinned (OpenSpec.upto algebraLawsSpec)

/-- 'waveplatelaw02.AlgebraHash', WHERE WHAT IT READS IS OF BULK AT MOST 1048576: true; the input reads as it did. -/
def algebraHashUptoRow : OpenClaim := { program := "ytahfkhnhmnjbeaa", sum := "cac06c9570d6aa4b58cf9d25771d6c81c773fdf6263b5f4cdc20a6b9328eb43e", func := "waveplate/waveplatelaw02.AlgebraHash", spec := "algebraHash", inPlace := ["internal/abi.NoEscape"], unfollowed := true, recurses := true, apart := false, narrowed := true }
def AlgebraHashUptoSaid : Prop := algebraHashUptoRow.holds Try.pinned (OpenSpec.upto algebraHashSpec)

/-- 'waveplatelaw02.AlgebraCollide', WHERE WHAT IT READS IS OF BULK AT MOST 1048576: true; the input reads as it did. -/
def algebraCollideUptoRow : OpenClaim := { program := "ytahfkhnhmnjbeaa", sum := "cac06c9570d6aa4b58cf9d25771d6c81c773fdf6263b5f4cdc20a6b9328eb43e", func := "waveplate/waveplatelaw02.AlgebraCollide", spec := "algebraCollide", inPlace := ["internal/abi.NoEscape"], unfollowed := true, recurses := true, apart := false, narrowed := true }
def AlgebraCollideUptoSaid : Prop := algebraCollideUptoRow.holds Try.pinned (OpenSpec.upto algebraCollideSpec)

/-- 'waveplatelaw02.AlgebraStrings', WHERE WHAT IT READS IS OF BULK AT MOST 1048576: true; the input reads as it did. -/
def algebraStringsUptoRow : OpenClaim := { program := "ytahfkhnhmnjbeaa", sum := "cac06c9570d6aa4b58cf9d25771d6c81c773fdf6263b5f4cdc20a6b9328eb43e", func := "waveplate/waveplatelaw02.AlgebraStrings", spec := "algebraStrings", inPlace := ["internal/abi.NoEscape"], unfollowed := true, recurses := true, apart := false, narrowed := true }
def AlgebraStringsUptoSaid : Prop := algebraStringsUptoRow.holds Try.pinned (OpenSpec.upto algebraStringsSpec)

/-- 'waveplatelaw02.AlgebraForms', WHERE WHAT IT READS IS OF BULK AT MOST 1048576: true; the input reads as it did. -/
def algebraFormsUptoRow : OpenClaim := { program := "ytahfkhnhmnjbeaa", sum := "cac06c9570d6aa4b58cf9d25771d6c81c773fdf6263b5f4cdc20a6b9328eb43e", func := "waveplate/waveplatelaw02.AlgebraForms", spec := "algebraForms", inPlace := ["internal/abi.NoEscape"], apart := false, narrowed := true }
def AlgebraFormsUptoSaid : Prop := algebraFormsUptoRow.holds Try.pinned (OpenSpec.upto algebraFormsSpec)

end Rows
end Go.Proofs.Ytahfkhnhmnjbeaa
