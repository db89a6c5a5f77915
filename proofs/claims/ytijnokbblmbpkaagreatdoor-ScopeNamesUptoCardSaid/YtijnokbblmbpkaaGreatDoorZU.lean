/-
  ScopeNames: what names are called does not matter: with all of them called otherwise the scope is the same, or the error: the card.
-/
import Derived.Test.YtijnokbblmbpkaaGreatDoorU17
set_option linter.all false
set_option maxRecDepth 100000
namespace Go.Proofs.YtijnokbblmbpkaaGreatDoor
open Go Go.V Go.ChangeShapes Go.WideShapes Go.Deep
section
theorem scopeNames_card:Rows.ScopeNamesUptoCardSaid:=
 Claim7.holds_tied_plain_at .later [] _ _ _ _ xO (λ_ h=>by cases h) (by kernel_rfl) (λ_ h=>by cases h) scopeNamesUpto_row_tie rfl ⟨rfl,rfl⟩ (by kernel_rfl) rfl I8 LP
end
end Go.Proofs.YtijnokbblmbpkaaGreatDoor
