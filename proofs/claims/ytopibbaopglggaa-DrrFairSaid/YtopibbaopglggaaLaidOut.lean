/- The loaded program's types are laid out. -/
import Derived.Test.YtopibbaopglggaaProg
import Derived.Test.YtopibbaopglggaaBase
import Derived.ProofKit
import Derived.KernelRfl
namespace Go.Proofs.Ytopibbaopglggaa
open Go.Proofs
theorem laid_out : laidOutB Try.prog = true := by kernel_rfl
end Go.Proofs.Ytopibbaopglggaa
