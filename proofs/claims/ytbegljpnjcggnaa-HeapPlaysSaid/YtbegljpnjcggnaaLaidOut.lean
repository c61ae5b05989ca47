/- The loaded program's types are laid out. -/
import Derived.Test.YtbegljpnjcggnaaProg
import Derived.Test.YtbegljpnjcggnaaBase
import Derived.ProofKit
import Derived.KernelRfl
namespace Go.Proofs.Ytbegljpnjcggnaa
open Go.Proofs
theorem laid_out : laidOutB Try.prog = true := by kernel_rfl
end Go.Proofs.Ytbegljpnjcggnaa
