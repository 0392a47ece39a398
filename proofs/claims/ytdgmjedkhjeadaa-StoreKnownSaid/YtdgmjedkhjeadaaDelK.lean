/- The library's contract of slices.Delete at a store's keys, laid at this program's numbers. Conditions: as the statement says. -/
import Derived.Shelf.SlicesE.Delete
import Derived.Test.YtdgmjedkhjeadaaProg
namespace Go.Proofs.Ytdgmjedkhjeadaa
open Go.Shelf
set_option linter.unusedVariables false
def sh_delK_ren : Go.Shelf.Ren := ⟨fun | 45 => 70 | n => n, fun | 22 => 57 | 23 => 66 | 3 => 3 | 4 => 4 | 0 => 0 | n => n, fun | n => n⟩
theorem sh_delK : Go.Proofs.SlLaysE.n45 Try.prog sh_delK_ren := {
  mixed := by kernel_rfl
  f45 := ⟨Try.f70.name, by decide, Try.func70.trans (congrArg some (by kernel_rfl))⟩
  t0 := Try.underlying0
  a0 := Try.isAgg0
  z0 := Try.sizeOf0
  v0 := Try.zeroValue0
  t3 := Try.underlying3
  a3 := Try.isAgg3
  z3 := Try.sizeOf3
  v3 := Try.zeroValue3
  t4 := Try.underlying4
  a4 := Try.isAgg4
  z4 := Try.sizeOf4
  v4 := Try.zeroValue4
  t22 := Try.underlying57
  a22 := Try.isAgg57
  z22 := Try.sizeOf57
  v22 := Try.zeroValue57
  a23 := Try.isAgg66
  z23 := Try.sizeOf66 }
end Go.Proofs.Ytdgmjedkhjeadaa
