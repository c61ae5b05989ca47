/- The loaded program's types are laid out. -/
import Derived.Test.YtgppbclgabdkoaaProg
import Derived.Test.YtgppbclgabdkoaaBase
import Derived.ProofKit
import Derived.KernelRfl
namespace Go.Proofs.Ytgppbclgabdkoaa
open Go.Proofs
theorem laid_out : laidOutB Try.prog = true := by kernel_rfl
end Go.Proofs.Ytgppbclgabdkoaa
