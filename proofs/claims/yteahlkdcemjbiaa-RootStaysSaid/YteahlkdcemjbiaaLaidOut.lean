/- The loaded program's types are laid out. -/
import Derived.Test.YteahlkdcemjbiaaProg
import Derived.Test.YteahlkdcemjbiaaBase
import Derived.ProofKit
import Derived.KernelRfl
namespace Go.Proofs.Yteahlkdcemjbiaa
open Go.Proofs
theorem laid_out : laidOutB Try.prog = true := by kernel_rfl
end Go.Proofs.Yteahlkdcemjbiaa
