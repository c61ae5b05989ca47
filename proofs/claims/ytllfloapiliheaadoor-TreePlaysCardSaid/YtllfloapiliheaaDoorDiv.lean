/- math/bits: Div64. -/
import Derived.Test.YtllfloapiliheaaDoorLen
import Derived.Test.YtllfloapiliheaaDoorDivPlain
import Derived.Deep.DeepCutAuto
import Derived.Deep.CutBlock
namespace Go.Proofs.YtllfloapiliheaaDoor.Bits
open Go.RowKit Go.Proofs BigFrame
open Go.Proofs.YtllfloapiliheaaDoor.Div
set_option maxHeartbeats 1000000
set_option maxRecDepth 100000

end Go.Proofs.YtllfloapiliheaaDoor.Bits
