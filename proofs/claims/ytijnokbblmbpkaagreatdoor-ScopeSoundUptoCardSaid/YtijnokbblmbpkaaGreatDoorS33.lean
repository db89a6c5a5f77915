/-
  ScopeSound: each place that a part names lies within its unit's frame: the card.
-/
import Derived.Test.YtijnokbblmbpkaaGreatDoorS32
set_option linter.unusedSimpArgs false
set_option linter.unusedVariables false
namespace Go.Proofs.YtijnokbblmbpkaaGreatDoor
open Go Go.V Go.ChangeShapes Go.WideShapes Go.Deep
set_option maxRecDepth 100000
section
theorem scopeSound_over:Rows.ScopeSoundUptoSaid:=
 OpenClaim.holds_of_cond 8 fn8 rfl rfl rfl rfl rfl rfl rfl ⟨rfl,rfl,rfl,rfl,rfl⟩ rfl rfl rfl rfl rfl (by kernel_rfl) func8 sound_facts
  (of_decide_eq_true (by kernel_rfl)) (by unfold Func.isWrapper;first|(rw[if_pos (by decide+kernel)];kernel_rfl)|(rw[if_neg (by decide+kernel)];exact⟨rfl,rfl⟩))
  (fun os started H enc _ F=>by rw[OpenClaim.pre_eq_preRow];exact sound_lifted os started H enc F)
theorem sound_plain (f : FuncId) (fn : Func) (hf : Tryz.pinned.checked.prog.funcNamed "palaver/palaverlaw18.ScopeSound" = some f) (hfn : Tryz.pinned.checked.prog.funcs[f]? = some fn) :
 true=Tryz.pinned.checked.prog.looks []/\∀(j:Nat) t,fn.params[j]? =some t->Tryz.pinned.checked.prog.wantsStandIn t=false:=by
 obtain rfl : f = 8 := Qn ((show Tryz.prog.funcNamed "palaver/palaverlaw18.ScopeSound" = some 8 by kernel_rfl).symm.trans hf) |>.symm
 obtain rfl:fn=fn8:=(Qn (func8.symm.trans hfn)).symm;refine⟨by kernel_rfl,fun j t ht=>?_⟩;rw[params8]at ht;have hm:t∈[25,22,22]:=by simpa using Array.mem_of_getElem? ht
 have hall:[25,22,22].all (fun t=>Tryz.prog.wantsStandIn t==false)=true:=by kernel_rfl
 exact(show Tryz.prog.wantsStandIn t=false from by simpa using vX.1 hall t hm)
end
end Go.Proofs.YtijnokbblmbpkaaGreatDoor
