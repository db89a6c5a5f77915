/-
  ScopeSound: each place that a part names lies within its unit's frame: the card.
-/
import Derived.Test.YtijnokbblmbpkaaGreatDoorS34
set_option linter.unusedSimpArgs false
set_option linter.unusedVariables false
namespace Go.Proofs.YtijnokbblmbpkaaGreatDoor
open Go Go.V Go.ChangeShapes Go.WideShapes Go.Deep
set_option maxRecDepth 100000
section
theorem scopeSound_card:Rows.ScopeSoundUptoCardSaid:=
 Claim7.holds_tied_plain_at .later [] _ _ _ _ scopeSound_over (fun _ h=>by cases h) (by kernel_rfl) (fun _ h=>by cases h) scopeSoundUpto_row_tie rfl ⟨rfl,rfl⟩ (by kernel_rfl) rfl sound_plain sound_goes
end
end Go.Proofs.YtijnokbblmbpkaaGreatDoor
