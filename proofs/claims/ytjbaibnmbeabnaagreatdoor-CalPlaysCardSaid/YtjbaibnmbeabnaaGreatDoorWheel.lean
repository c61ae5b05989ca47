/- wheel: New, spot. -/
import Derived.Test.YtjbaibnmbeabnaaGreatDoorWheelCore
import Derived.Test.YtjbaibnmbeabnaaGreatDoorLen
import Derived.Test.YtjbaibnmbeabnaaGreatDoorClose
import Derived.Laws.Bits64b
namespace Go.Proofs.YtjbaibnmbeabnaaGreatDoor.Wheel
open Go.RowKit Go.Proofs BigFrame Heap
set_option maxHeartbeats 4000000
set_option maxRecDepth 1000000
/-- A wheel's cells, when it is made. -/
def zv (o : Nat) : Value := if isRow o then .slice none 0 0 else if o < 718 then .int .u64 0 else .int .i64 0
end Go.Proofs.YtjbaibnmbeabnaaGreatDoor.Wheel
