/-
  ScopeChains: an error of scope.Resolve is a Failure with its place around the number of what is wrong. For every method and list of fields that is handed in, of the bulk that the form allows (the statement's tied card).
-/
import Derived.Test.YtijnokbblmbpkaaGreatDoorH17
set_option linter.all false
set_option maxRecDepth 100000
namespace Go.Proofs.YtijnokbblmbpkaaGreatDoor
open Go Go.V Go.ChangeShapes Go.WideShapes Go.Deep
section
theorem scopeChains_card:Rows.ScopeChainsUptoCardSaid:=
 Claim7.holds_tied_plain_at .later [] _ _ _ _ uT (λ_ h=>by cases h) Zx9 (λ_ h=>by cases h) scopeChainsUpto_row_tie rfl ⟨rfl,rfl⟩ Zx9 rfl Gg ID
end
end Go.Proofs.YtijnokbblmbpkaaGreatDoor
