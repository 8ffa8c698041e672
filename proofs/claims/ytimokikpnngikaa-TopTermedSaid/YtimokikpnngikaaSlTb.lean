/- More closed facts of the program: which arrays are compared without a guard. -/
import Derived.Test.YtimokikpnngikaaSlTab
namespace Go.Proofs.Sl
open Go
theorem eg_46 : Try.prog.eqGuardType Try.prog.depth 46 = false := by kernel_rfl
theorem eg_88 : Try.prog.eqGuardType Try.prog.depth 88 = false := by kernel_rfl
end Go.Proofs.Sl
