/- The loaded program's types are laid out. -/
import Derived.Test.YtjbaibnmbeabnaaGreatDoorProg
import Derived.Test.YtjbaibnmbeabnaaGreatDoorBase
import Derived.ProofKit
import Derived.KernelRfl
namespace Go.Proofs.YtjbaibnmbeabnaaGreatDoor
open Go.Proofs
theorem laid_out : laidOutB Tryz.prog = true := by kernel_rfl
end Go.Proofs.YtjbaibnmbeabnaaGreatDoor
