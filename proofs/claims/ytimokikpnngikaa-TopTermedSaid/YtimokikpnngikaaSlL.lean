/- What every statement's row asks of the program. -/
import Derived.Test.YtimokikpnngikaaSlR
import Derived.Test.YtimokikpnngikaaSlTab
import Derived.ReadAgain
namespace Go.Proofs.Sl
open Go Go.ChangeShapes

theorem own : ownKnob Try.prog.godebug = none := by kernel_rfl
theorem kids : Kids Try.prog (· < Try.prog.types.size) := kids_rows (by kernel_rfl) (by kernel_rfl)
theorem full {t e : TypeId} (h : t < Try.prog.types.size) (hu : Try.prog.underlying t = some (.slice e)) : 0 < Try.prog.cellsOf e := slices_full_of Try.prog (by kernel_rfl) t e h hu
end Go.Proofs.Sl
