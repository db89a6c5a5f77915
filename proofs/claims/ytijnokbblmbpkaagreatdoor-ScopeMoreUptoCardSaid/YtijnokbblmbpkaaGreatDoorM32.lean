/-
  ScopeMore: fields and globals that nothing names change nothing, where they stand behind the others: the card.
-/
import Derived.Test.YtijnokbblmbpkaaGreatDoorM31
set_option linter.all false
namespace Go.Proofs.YtijnokbblmbpkaaGreatDoor
open Go Go.V Go.ChangeShapes Go.WideShapes Go.Deep
set_option maxRecDepth 100000
section
theorem Aj:Rows.ScopeMoreUptoSaid:=
 OpenClaim.holds_of_cond 10 cC rfl rfl rfl rfl rfl rfl rfl ⟨rfl,rfl,rfl,rfl,rfl⟩ rfl rfl rfl rfl rfl (by kernel_rfl) func10 Ju
  (of_decide_eq_true (by kernel_rfl)) (by unfold Func.isWrapper;first|(rw[if_pos (by decide+kernel)];kernel_rfl)|(rw[if_neg (by decide+kernel)];exact⟨rfl,rfl⟩))
  (fun os started H enc _ F=>by rw[OpenClaim.pre_eq_preRow];exact GW os started H enc F)
theorem Jv (f : FuncId) (fn : Func) (hf : Tryz.pinned.checked.prog.funcNamed "palaver/palaverlaw18.ScopeMore" = some f) (uF : Tryz.pinned.checked.prog.funcs[f]? = some fn) :
 true=Tryz.pinned.checked.prog.looks []/\∀(j:Nat) t,fn.params[j]? =some t->Tryz.pinned.checked.prog.wantsStandIn t=false:=by
 obtain rfl : f = 10 := X3 ((show Tryz.prog.funcNamed "palaver/palaverlaw18.ScopeMore" = some 10 by kernel_rfl).symm.trans hf) |>.symm
 obtain rfl:fn=cC:=(X3 (func10.symm.trans uF)).symm;refine⟨by kernel_rfl,fun j t ht=>?_⟩;rw[params10]at ht;have hm:t∈[25,22,22,9]:=by simpa using Array.mem_of_getElem? ht
 have au:[25,22,22,9].all (fun t=>Tryz.prog.wantsStandIn t==false)=true:=by kernel_rfl
 exact(show Tryz.prog.wantsStandIn t=false from by simpa using ve.1 au t hm)
end
end Go.Proofs.YtijnokbblmbpkaaGreatDoor
