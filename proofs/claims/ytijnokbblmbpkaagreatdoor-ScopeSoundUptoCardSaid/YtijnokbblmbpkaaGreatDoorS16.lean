/-
  The tree of the anchor's second text.
-/
import Derived.Test.YtijnokbblmbpkaaGreatDoorS15
set_option linter.unusedSimpArgs false
set_option linter.unusedVariables false
namespace Go.Proofs.YtijnokbblmbpkaaGreatDoor
open Go Go.V
set_option maxHeartbeats 3200000
set_option maxRecDepth 100000
theorem m2_spec(A:List kC):Fun Tryz.prog 23 [.string txt2] [A] (fun v Post=>∃vs B,v=.tuple #[.agg vs.toArray,.agg #[.int .i64 0,.int .i64 0,.bool false]]/\MdW B m2 vs/\Post=[A,B]):=rdM_sound (by kernel_rfl)
end Go.Proofs.YtijnokbblmbpkaaGreatDoor
