/-
  ScopeMore: fields and globals that nothing names change nothing, where they stand behind the others: the card.
-/
import Derived.Test.YtijnokbblmbpkaaGreatDoorM33
set_option linter.all false
namespace Go.Proofs.YtijnokbblmbpkaaGreatDoor
open Go Go.V Go.ChangeShapes Go.WideShapes Go.Deep
set_option maxRecDepth 100000
section
theorem scopeMore_card:Rows.ScopeMoreUptoCardSaid:=
 Claim7.holds_tied_plain_at .later [] _ _ _ _ Aj (fun _ h=>by cases h) (by kernel_rfl) (fun _ h=>by cases h) scopeMoreUpto_row_tie rfl ⟨rfl,rfl⟩ (by kernel_rfl) rfl Jv Mx
end
end Go.Proofs.YtijnokbblmbpkaaGreatDoor
