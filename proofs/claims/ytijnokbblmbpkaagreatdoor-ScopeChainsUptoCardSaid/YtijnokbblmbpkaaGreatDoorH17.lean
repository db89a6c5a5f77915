/-
  A part of the proof.
-/
import Derived.Test.YtijnokbblmbpkaaGreatDoorH16
set_option linter.all false
set_option maxRecDepth 100000
namespace Go.Proofs.YtijnokbblmbpkaaGreatDoor
open Go Go.V Go.ChangeShapes Go.WideShapes Go.Deep
def ID:false=Rows.scopeChainsUptoRow.goesBy Tryz.pinned.checked.prog:=by kernel_rfl
end Go.Proofs.YtijnokbblmbpkaaGreatDoor
