/- The library's contract of slices.Delete at a store's keys, laid at this program's numbers. Conditions: as the statement says. -/
import Derived.Shelf.SlicesE.Delete
import Derived.Test.YtdgmjedkhjeadaaGreatProg
namespace Go.Proofs.YtdgmjedkhjeadaaGreat
open Go.Shelf
set_option linter.unusedVariables false
def sh_delK_ren : Go.Shelf.Ren := ⟨fun | 45 => 129 | n => n, fun | 22 => 113 | 23 => 121 | 3 => 3 | 4 => 4 | 0 => 0 | n => n, fun | n => n⟩
theorem sh_delK : Go.Proofs.SlLaysE.n45 Tryz.prog sh_delK_ren := {
  mixed := by kernel_rfl
  f45 := ⟨Tryz.f129.name, by decide, Tryz.func129.trans (congrArg some (by kernel_rfl))⟩
  t0 := Tryz.underlying0
  a0 := Tryz.isAgg0
  z0 := Tryz.sizeOf0
  v0 := Tryz.zeroValue0
  t3 := Tryz.underlying3
  a3 := Tryz.isAgg3
  z3 := Tryz.sizeOf3
  v3 := Tryz.zeroValue3
  t4 := Tryz.underlying4
  a4 := Tryz.isAgg4
  z4 := Tryz.sizeOf4
  v4 := Tryz.zeroValue4
  t22 := Tryz.underlying113
  a22 := Tryz.isAgg113
  z22 := Tryz.sizeOf113
  v22 := Tryz.zeroValue113
  a23 := Tryz.isAgg121
  z23 := Tryz.sizeOf121 }
end Go.Proofs.YtdgmjedkhjeadaaGreat
