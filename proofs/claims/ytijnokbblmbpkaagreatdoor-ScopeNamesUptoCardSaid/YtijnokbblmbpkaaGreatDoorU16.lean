/-
  A part of the proof.
-/
import Derived.Test.YtijnokbblmbpkaaGreatDoorU15
set_option linter.all false
set_option maxRecDepth 100000
namespace Go.Proofs.YtijnokbblmbpkaaGreatDoor
open Go Go.V Go.ChangeShapes Go.WideShapes Go.Deep
section
theorem xO:Rows.ScopeNamesUptoSaid:=
 OpenClaim.holds_of_cond 7 sZ rfl rfl rfl rfl rfl rfl rfl ⟨rfl,rfl,rfl,rfl,rfl⟩ rfl rfl rfl rfl rfl (by kernel_rfl) func7 I7
  (of_decide_eq_true (by kernel_rfl)) (by unfold Func.isWrapper;first|(rw[if_pos (by decide+kernel)];kernel_rfl)|(rw[if_neg (by decide+kernel)];exact⟨rfl,rfl⟩))
  (λg d H enc _ F=>by rw[OpenClaim.pre_eq_preRow];exact Gq g d H enc F)
theorem I8 (f : FuncId) (fn : Func) (h : Tryz.pinned.checked.prog.funcNamed "palaver/palaverlaw18.ScopeNames" = some f) (q : Tryz.pinned.checked.prog.funcs[f]? = some fn) :
 true=Tryz.pinned.checked.prog.looks []/\∀(j:Nat) t,fn.params[j]? =some t->Tryz.pinned.checked.prog.wantsStandIn t=false:=by
 obtain rfl : f = 7 := XC ((show Tryz.prog.funcNamed "palaver/palaverlaw18.ScopeNames" = some 7 by kernel_rfl).symm.trans h) |>.symm
 obtain rfl:fn=sZ:=(XC (func7.symm.trans q)).symm;refine⟨by kernel_rfl,λj t d=>?_⟩;rw[params7]at d;have m:t∈[25,22,22]:=by simpa using Array.mem_of_getElem? d
 have g:[25,22,22].all (λt=>Tryz.prog.wantsStandIn t==false)=true:=by kernel_rfl
 exact(show Tryz.prog.wantsStandIn t=false from by simpa using vg.1 g t m)
end
end Go.Proofs.YtijnokbblmbpkaaGreatDoor
