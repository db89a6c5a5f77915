/-
  ScopeNodes: every node is inlined, and leaves names open, just where the document says so: the card.
-/
import Derived.Test.YtijnokbblmbpkaaGreatDoorN29
set_option linter.all false
namespace Go.Proofs.YtijnokbblmbpkaaGreatDoor
open Go Go.V Go.ChangeShapes Go.WideShapes Go.Deep
set_option maxRecDepth 100000
section
theorem tN:Rows.ScopeNodesUptoSaid:=
 OpenClaim.holds_of_cond 5 qX rfl rfl rfl rfl rfl rfl rfl ⟨rfl,rfl,rfl,rfl,rfl⟩ rfl rfl rfl rfl rfl (by kernel_rfl) func5 Fe
  (of_decide_eq_true (by kernel_rfl)) (by unfold Func.isWrapper;first|(rw[if_pos (by decide+kernel)];kernel_rfl)|(rw[if_neg (by decide+kernel)];exact⟨rfl,rfl⟩))
  (fun os started H enc _ F=>by rw[OpenClaim.pre_eq_preRow];exact C8 os started H enc F)
theorem Ff (f : FuncId) (fn : Func) (hf : Tryz.pinned.checked.prog.funcNamed "palaver/palaverlaw18.ScopeNodes" = some f) (tY : Tryz.pinned.checked.prog.funcs[f]? = some fn) :
 true=Tryz.pinned.checked.prog.looks []/\∀(j:Nat) t,fn.params[j]? =some t->Tryz.pinned.checked.prog.wantsStandIn t=false:=by
 obtain rfl : f = 5 := X0 ((show Tryz.prog.funcNamed "palaver/palaverlaw18.ScopeNodes" = some 5 by kernel_rfl).symm.trans hf) |>.symm
 obtain rfl:fn=qX:=(X0 (func5.symm.trans tY)).symm;refine⟨by kernel_rfl,fun j t ht=>?_⟩;rw[params5]at ht;have hm:t∈[72]:=by simpa using Array.mem_of_getElem? ht
 have ap:[72].all (fun t=>Tryz.prog.wantsStandIn t==false)=true:=by kernel_rfl
 exact(show Tryz.prog.wantsStandIn t=false from by simpa using vX.1 ap t hm)
end
end Go.Proofs.YtijnokbblmbpkaaGreatDoor
