/-
  ScopeOpen: a method's names all stand for something just if each that it leaves open is a field or a global: the card.
-/
import Derived.Test.YtijnokbblmbpkaaGreatDoorS31
set_option linter.all false
namespace Go.Proofs.YtijnokbblmbpkaaGreatDoor
open Go Go.V Go.ChangeShapes Go.WideShapes Go.Deep
set_option maxRecDepth 100000
section
theorem scopeOpen_card:Rows.ScopeOpenUptoCardSaid:=
 Claim7.holds_tied_plain_at .later [] _ _ _ _ yp (fun _ h=>by cases h) (by kernel_rfl) (fun _ h=>by cases h) scopeOpenUpto_row_tie rfl ⟨rfl,rfl⟩ (by kernel_rfl) rfl ID LD
end
end Go.Proofs.YtijnokbblmbpkaaGreatDoor
