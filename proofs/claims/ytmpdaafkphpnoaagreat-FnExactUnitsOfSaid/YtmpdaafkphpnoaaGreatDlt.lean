import Derived.Test.YtmpdaafkphpnoaaGreatRwsA
import Derived.Shelf.SlicesE.Delete
set_option linter.unusedVariables false
set_option linter.unusedSimpArgs false
namespace Go.Proofs.YtmpdaafkphpnoaaGreat
open Go.RowKit

def renDlt : Go.Shelf.Ren := ⟨fun | 45 => 140 | n => n, fun | 22 => 27 | 23 => 28 | n => n, fun | n => n⟩
theorem laysDlt : Go.Proofs.SlLaysE.n45 Tryz.prog renDlt := {
  mixed := by kernel_rfl
  f45 := ⟨Tryz.f140.name, by decide, Tryz.func140.trans (congrArg some (by kernel_rfl))⟩
  t0 := Tryz.underlying0
  a0 := Tryz.isAgg0
  z0 := Tryz.sizeOf0
  v0 := Tryz.zeroValue0
  t3 := Tryz.underlying3
  a3 := Tryz.isAgg3
  z3 := Tryz.sizeOf3
  v3 := Tryz.zeroValue3
  t4 := Tryz.underlying4
  a4 := Tryz.isAgg4
  z4 := Tryz.sizeOf4
  v4 := Tryz.zeroValue4
  t22 := Tryz.underlying27
  a22 := Tryz.isAgg27
  z22 := Tryz.sizeOf27
  v22 := Tryz.zeroValue27
  a23 := Tryz.isAgg28
  z23 := Tryz.sizeOf28
}
end Go.Proofs.YtmpdaafkphpnoaaGreat
