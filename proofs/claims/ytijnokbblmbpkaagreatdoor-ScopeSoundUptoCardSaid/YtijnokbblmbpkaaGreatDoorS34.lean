/-
  ScopeSound: each place that a part names lies within its unit's frame: nothing goes beside it.
-/
import Derived.Test.YtijnokbblmbpkaaGreatDoorS33
set_option linter.unusedSimpArgs false
set_option linter.unusedVariables false
namespace Go.Proofs.YtijnokbblmbpkaaGreatDoor
open Go Go.V Go.ChangeShapes Go.WideShapes Go.Deep
set_option maxRecDepth 100000
theorem sound_goes:false=Rows.scopeSoundUptoRow.goesBy Tryz.pinned.checked.prog:=by kernel_rfl
end Go.Proofs.YtijnokbblmbpkaaGreatDoor
