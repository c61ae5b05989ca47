/- The loaded program's types are laid out. -/
import Derived.Test.YtjbaibnmbeabnaaDoorProg
import Derived.Test.YtjbaibnmbeabnaaDoorBase
import Derived.ProofKit
import Derived.KernelRfl
namespace Go.Proofs.YtjbaibnmbeabnaaDoor
open Go.Proofs
theorem laid_out : laidOutB Tryd.prog = true := by kernel_rfl
end Go.Proofs.YtjbaibnmbeabnaaDoor
