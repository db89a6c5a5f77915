/-
  A part of the proof.
-/
import Derived.Test.YtijnokbblmbpkaaGreatDoorU16
set_option linter.all false
set_option maxRecDepth 100000
namespace Go.Proofs.YtijnokbblmbpkaaGreatDoor
open Go Go.V Go.ChangeShapes Go.WideShapes Go.Deep
theorem LP:false=Rows.scopeNamesUptoRow.goesBy Tryz.pinned.checked.prog:=by kernel_rfl
end Go.Proofs.YtijnokbblmbpkaaGreatDoor
