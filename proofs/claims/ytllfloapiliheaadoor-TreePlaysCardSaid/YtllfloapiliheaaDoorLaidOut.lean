/- The loaded program's types are laid out. -/
import Derived.Test.YtllfloapiliheaaDoorProg
import Derived.Test.YtllfloapiliheaaDoorBase
import Derived.ProofKit
import Derived.KernelRfl
namespace Go.Proofs.YtllfloapiliheaaDoor
open Go.Proofs
theorem laid_out : laidOutB Tryd.prog = true := by kernel_rfl
end Go.Proofs.YtllfloapiliheaaDoor
