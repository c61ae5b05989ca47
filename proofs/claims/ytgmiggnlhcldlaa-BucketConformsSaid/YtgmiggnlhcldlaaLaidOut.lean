/- The loaded program's types are laid out. -/
import Derived.Test.YtgmiggnlhcldlaaProg
import Derived.Test.YtgmiggnlhcldlaaBase
import Derived.ProofKit
import Derived.KernelRfl
namespace Go.Proofs.Ytgmiggnlhcldlaa
open Go.Proofs
theorem laid_out : laidOutB Try.prog = true := by kernel_rfl
end Go.Proofs.Ytgmiggnlhcldlaa
