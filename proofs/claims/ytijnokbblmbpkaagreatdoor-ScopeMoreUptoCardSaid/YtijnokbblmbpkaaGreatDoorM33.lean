/-
  ScopeMore: fields and globals that nothing names change nothing, where they stand behind the others: nothing goes beside it.
-/
import Derived.Test.YtijnokbblmbpkaaGreatDoorM32
set_option linter.all false
namespace Go.Proofs.YtijnokbblmbpkaaGreatDoor
open Go Go.V Go.ChangeShapes Go.WideShapes Go.Deep
set_option maxRecDepth 100000
theorem Mx:false=Rows.scopeMoreUptoRow.goesBy Tryz.pinned.checked.prog:=by kernel_rfl
end Go.Proofs.YtijnokbblmbpkaaGreatDoor
