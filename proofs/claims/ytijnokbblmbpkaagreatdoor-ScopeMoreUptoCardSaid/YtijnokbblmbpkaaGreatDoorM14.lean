/-
  The tree of the anchor's second text.
-/
import Derived.Test.YtijnokbblmbpkaaGreatDoorM13
set_option linter.all false
namespace Go.Proofs.YtijnokbblmbpkaaGreatDoor
open Go Go.V
set_option maxHeartbeats 3200000
set_option maxRecDepth 100000
theorem WZ(A:List kC):aw Tryz.prog 23 [.string txt2] [A] (fun v Post=>∃vs B,v=.tuple #[.agg vs.toArray,.agg #[.int .i64 0,.int .i64 0,.bool false]]/\Lg B m2 vs/\Post=[A,B]):=C1 (by kernel_rfl)
end Go.Proofs.YtijnokbblmbpkaaGreatDoor
