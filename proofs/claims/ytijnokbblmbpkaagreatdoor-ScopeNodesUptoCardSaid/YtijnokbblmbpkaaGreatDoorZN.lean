/-
  ScopeNodes: every node is inlined, and leaves names open, just where the document says so: the card.
-/
import Derived.Test.YtijnokbblmbpkaaGreatDoorN31
set_option linter.all false
namespace Go.Proofs.YtijnokbblmbpkaaGreatDoor
open Go Go.V Go.ChangeShapes Go.WideShapes Go.Deep
set_option maxRecDepth 100000
section
theorem scopeNodes_card:Rows.ScopeNodesUptoCardSaid:=
 Claim7.holds_tied_plain_at .later [] _ _ _ _ tN (fun _ h=>by cases h) (by kernel_rfl) (fun _ h=>by cases h) scopeNodesUpto_row_tie rfl ⟨rfl,rfl⟩ (by kernel_rfl) rfl Ff IA
end
end Go.Proofs.YtijnokbblmbpkaaGreatDoor
