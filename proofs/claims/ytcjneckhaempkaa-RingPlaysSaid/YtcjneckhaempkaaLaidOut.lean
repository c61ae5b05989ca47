/- The loaded program's types are laid out. -/
import Derived.Test.YtcjneckhaempkaaProg
import Derived.Test.YtcjneckhaempkaaBase
import Derived.ProofKit
import Derived.KernelRfl
namespace Go.Proofs.Ytcjneckhaempkaa
open Go.Proofs
theorem laid_out : laidOutB Try.prog = true := by kernel_rfl
end Go.Proofs.Ytcjneckhaempkaa
