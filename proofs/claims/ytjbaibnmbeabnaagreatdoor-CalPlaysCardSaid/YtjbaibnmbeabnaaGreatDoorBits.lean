/- math/bits: the functions that the program calls. -/
import Derived.Test.YtjbaibnmbeabnaaGreatDoorProg
import Derived.Test.YtjbaibnmbeabnaaGreatDoorMix
import Derived.Test.YtjbaibnmbeabnaaGreatDoorLaws
import Derived.Lib.Mul64
import Derived.Lib.Hide
import Derived.Laws.Externs
import Derived.Laws.MathBits
namespace Go.Proofs.YtjbaibnmbeabnaaGreatDoor.Bits
open Go.RowKit Go.Proofs

def M64 : Nat := 18446744073709551616

theorem maskN (a : Nat) (ha : a < 18446744073709551616) : bits .and .u64 (a : Int) 4294967295 = ((a % 4294967296 : Nat) : Int) := by
  rw [and_low32 a (by omega) (by omega)]; rfl
theorem divN (a : Nat) : (a : Int) / 4294967296 = ((a / 4294967296 : Nat) : Int) := rfl
theorem mulN (a b : Nat) : (a : Int) * (b : Int) = ((a * b : Nat) : Int) := (Int.natCast_mul a b).symm
theorem addN (a b : Nat) : (a : Int) + (b : Int) = ((a + b : Nat) : Int) := (Int.natCast_add a b).symm
theorem wrapN (a : Nat) (ha : a < 18446744073709551616) : IntKind.u64.wrap (a : Int) = (a : Int) := by rw [IntKind.wrap_u64]; omega
theorem wrapM (a : Nat) : IntKind.u64.wrap (a : Int) = ((a % 18446744073709551616 : Nat) : Int) := by rw [IntKind.wrap_u64]; omega

set_option maxHeartbeats 1000000
end Go.Proofs.YtjbaibnmbeabnaaGreatDoor.Bits
