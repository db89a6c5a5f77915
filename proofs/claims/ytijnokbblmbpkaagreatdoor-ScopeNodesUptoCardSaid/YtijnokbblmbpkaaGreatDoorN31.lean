/-
  ScopeNodes: every node is inlined, and leaves names open, just where the document says so: nothing goes beside it.
-/
import Derived.Test.YtijnokbblmbpkaaGreatDoorN30
set_option linter.all false
namespace Go.Proofs.YtijnokbblmbpkaaGreatDoor
open Go Go.V Go.ChangeShapes Go.WideShapes Go.Deep
set_option maxRecDepth 100000
theorem IA:false=Rows.scopeNodesUptoRow.goesBy Tryz.pinned.checked.prog:=by kernel_rfl
end Go.Proofs.YtijnokbblmbpkaaGreatDoor
