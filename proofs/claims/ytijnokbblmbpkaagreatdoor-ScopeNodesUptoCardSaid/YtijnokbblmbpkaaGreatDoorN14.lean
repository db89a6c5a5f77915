/-
  The tree of the anchor's second text.
-/
import Derived.Test.YtijnokbblmbpkaaGreatDoorN13
set_option linter.all false
namespace Go.Proofs.YtijnokbblmbpkaaGreatDoor
open Go Go.V
set_option maxHeartbeats 3200000
set_option maxRecDepth 100000
theorem We(A:List kB):ao Tryz.prog 23 [.string txt2] [A] (fun v Post=>∃vs B,v=.tuple #[.agg vs.toArray,.agg #[.int .i64 0,.int .i64 0,.bool false]]/\XK B m2 vs/\Post=[A,B]):=Br (by kernel_rfl)
end Go.Proofs.YtijnokbblmbpkaaGreatDoor
