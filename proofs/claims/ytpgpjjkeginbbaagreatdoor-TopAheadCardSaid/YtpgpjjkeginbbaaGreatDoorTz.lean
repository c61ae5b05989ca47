/- The library's TrailingZeros64 at this program. -/
import Derived.Shelf.Lays7
import Derived.Shelf.Spec.TrailingZeros
import Derived.Ground.Names7Prog
import Derived.Test.YtpgpjjkeginbbaaGreatDoorProg
namespace Go.Proofs.YtpgpjjkeginbbaaGreatDoor
open Go.Shelf
def Tryz.tz64_ren : Go.Shelf.Ren := ⟨fun | 29 => 100 | n => n, fun | 22 => 25 | 3 => 3 | 4 => 4 | 25 => 329 | 54 => 328 | 0 => 0 | 5 => 5 | n => n, fun | 1 => 0 | n => n⟩
theorem Tryz.tz64 : Go.Proofs.Lays7.n29 Tryz.prog Tryz.tz64_ren := {
  mixed := by kernel_rfl
  f29 := Tryz.func100.trans (congrArg some (by kernel_rfl))
  t0 := Tryz.underlying0
  a0 := Tryz.isAgg0
  z0 := Tryz.sizeOf0
  v0 := Tryz.zeroValue0
  i0 := by kernel_rfl
  t3 := Tryz.underlying3
  a3 := Tryz.isAgg3
  z3 := Tryz.sizeOf3
  v3 := Tryz.zeroValue3
  i3 := by kernel_rfl
  t4 := Tryz.underlying4
  a4 := Tryz.isAgg4
  z4 := Tryz.sizeOf4
  v4 := Tryz.zeroValue4
  i4 := by kernel_rfl
  t5 := Tryz.underlying5
  a5 := Tryz.isAgg5
  z5 := Tryz.sizeOf5
  v5 := Tryz.zeroValue5
  i5 := by kernel_rfl
  t22 := Tryz.underlying25
  a22 := Tryz.isAgg25
  z22 := Tryz.sizeOf25
  v22 := Tryz.zeroValue25
  i22 := by kernel_rfl
  t25 := Tryz.underlying329
  a25 := Tryz.isAgg329
  z25 := Tryz.sizeOf329
  v25 := Tryz.zeroValue329
  i25 := by kernel_rfl
  t54 := Tryz.underlying328
  a54 := Tryz.isAgg328
  z54 := Tryz.sizeOf328
  g1 := by kernel_rfl }
end Go.Proofs.YtpgpjjkeginbbaaGreatDoor
