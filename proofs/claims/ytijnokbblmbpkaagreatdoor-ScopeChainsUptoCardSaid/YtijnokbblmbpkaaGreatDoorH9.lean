/-
  A part of the proof.
-/
import Derived.Test.YtijnokbblmbpkaaGreatDoorH8
set_option linter.all false
set_option maxHeartbeats 3200000
set_option maxRecDepth 100000
namespace Go.Proofs.YtijnokbblmbpkaaGreatDoor
open Go Go.V
def m2_spec(A):aq pg9 23 [.string txt2] [A] (λv dl=>∃vs B,v=.tuple #[.agg vs.toArray,.agg #[vi 0,vi 0,.bool false]]/\Nr B m2 vs/\dl=[A,B]):=Fg Zx9
end Go.Proofs.YtijnokbblmbpkaaGreatDoor
