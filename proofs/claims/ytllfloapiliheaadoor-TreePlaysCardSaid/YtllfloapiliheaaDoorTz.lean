/- The library's TrailingZeros64 at this program. -/
import Derived.Shelf.Lays7
import Derived.Shelf.Spec.TrailingZeros
import Derived.Ground.Names7Prog
import Derived.Test.YtllfloapiliheaaDoorProg
namespace Go.Proofs.YtllfloapiliheaaDoor
open Go.Shelf
def Tryd.tz64_ren : Go.Shelf.Ren := ⟨fun | 29 => 54 | n => n, fun | 22 => 31 | 3 => 3 | 4 => 4 | 25 => 137 | 54 => 136 | 0 => 0 | 5 => 5 | n => n, fun | 1 => 0 | n => n⟩
theorem Tryd.tz64 : Go.Proofs.Lays7.n29 Tryd.prog Tryd.tz64_ren := {
  mixed := by kernel_rfl
  f29 := Tryd.func54.trans (congrArg some (by kernel_rfl))
  t0 := Tryd.underlying0
  a0 := Tryd.isAgg0
  z0 := Tryd.sizeOf0
  v0 := Tryd.zeroValue0
  i0 := by kernel_rfl
  t3 := Tryd.underlying3
  a3 := Tryd.isAgg3
  z3 := Tryd.sizeOf3
  v3 := Tryd.zeroValue3
  i3 := by kernel_rfl
  t4 := Tryd.underlying4
  a4 := Tryd.isAgg4
  z4 := Tryd.sizeOf4
  v4 := Tryd.zeroValue4
  i4 := by kernel_rfl
  t5 := Tryd.underlying5
  a5 := Tryd.isAgg5
  z5 := Tryd.sizeOf5
  v5 := Tryd.zeroValue5
  i5 := by kernel_rfl
  t22 := Tryd.underlying31
  a22 := Tryd.isAgg31
  z22 := Tryd.sizeOf31
  v22 := Tryd.zeroValue31
  i22 := by kernel_rfl
  t25 := Tryd.underlying137
  a25 := Tryd.isAgg137
  z25 := Tryd.sizeOf137
  v25 := Tryd.zeroValue137
  i25 := by kernel_rfl
  t54 := Tryd.underlying136
  a54 := Tryd.isAgg136
  z54 := Tryd.sizeOf136
  g1 := by kernel_rfl }
end Go.Proofs.YtllfloapiliheaaDoor
