/-
  ScopeOpen: a method's names all stand for something just if each that it leaves open is a field or a global: the card.
-/
import Derived.Test.YtijnokbblmbpkaaGreatDoorS29
set_option linter.all false
namespace Go.Proofs.YtijnokbblmbpkaaGreatDoor
open Go Go.V Go.ChangeShapes Go.WideShapes Go.Deep
set_option maxRecDepth 100000
section
theorem yp:Rows.ScopeOpenUptoSaid:=
 OpenClaim.holds_of_cond 9 rh rfl rfl rfl rfl rfl rfl rfl ⟨rfl,rfl,rfl,rfl,rfl⟩ rfl rfl rfl rfl rfl (by kernel_rfl) func9 IB
  (of_decide_eq_true (by kernel_rfl)) (by unfold Func.isWrapper;first|(rw[if_pos (by decide+kernel)];kernel_rfl)|(rw[if_neg (by decide+kernel)];exact⟨rfl,rfl⟩))
  (fun os started H enc _ F=>by rw[OpenClaim.pre_eq_preRow];exact Fy os started H enc F)
theorem ID (f : FuncId) (fn : Func) (hf : Tryz.pinned.checked.prog.funcNamed "palaver/palaverlaw18.ScopeOpen" = some f) (tY : Tryz.pinned.checked.prog.funcs[f]? = some fn) :
 true=Tryz.pinned.checked.prog.looks []/\∀(j:Nat) t,fn.params[j]? =some t->Tryz.pinned.checked.prog.wantsStandIn t=false:=by
 obtain rfl : f = 9 := Qx ((show Tryz.prog.funcNamed "palaver/palaverlaw18.ScopeOpen" = some 9 by kernel_rfl).symm.trans hf) |>.symm
 obtain rfl:fn=rh:=(Qx (func9.symm.trans tY)).symm;refine⟨by kernel_rfl,fun j t ht=>?_⟩;rw[params9]at ht;have hm:t∈[25,22,22]:=by simpa using Array.mem_of_getElem? ht
 have au:[25,22,22].all (fun t=>Tryz.prog.wantsStandIn t==false)=true:=by kernel_rfl
 exact(show Tryz.prog.wantsStandIn t=false from by simpa using vZ.1 au t hm)
end
end Go.Proofs.YtijnokbblmbpkaaGreatDoor
