/-
  ScopeOpen: a method's names all stand for something just if each that it leaves open is a field or a global: nothing goes beside it.
-/
import Derived.Test.YtijnokbblmbpkaaGreatDoorS30
set_option linter.all false
namespace Go.Proofs.YtijnokbblmbpkaaGreatDoor
open Go Go.V Go.ChangeShapes Go.WideShapes Go.Deep
set_option maxRecDepth 100000
theorem LD:false=Rows.scopeOpenUptoRow.goesBy Tryz.pinned.checked.prog:=by kernel_rfl
end Go.Proofs.YtijnokbblmbpkaaGreatDoor
