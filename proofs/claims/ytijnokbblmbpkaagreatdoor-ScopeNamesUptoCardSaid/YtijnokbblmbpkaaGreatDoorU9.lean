/-
  A part of the proof.
-/
import Derived.Test.YtijnokbblmbpkaaGreatDoorU8
set_option linter.all false
set_option maxHeartbeats 3200000
set_option maxRecDepth 100000
namespace Go.Proofs.YtijnokbblmbpkaaGreatDoor
open Go Go.V
theorem m2_spec(A:List kC):au Tryz.prog 23 [.string txt2] [A] (λv Post=>∃vs B,v=.tuple #[.agg vs.toArray,.agg #[.int .i64 0,.int .i64 0,.bool false]]/\MH B m2 vs/\Post=[A,B]):=EK (by kernel_rfl)
end Go.Proofs.YtijnokbblmbpkaaGreatDoor
