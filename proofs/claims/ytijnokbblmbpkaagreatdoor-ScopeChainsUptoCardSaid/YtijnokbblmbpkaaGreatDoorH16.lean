/-
  A part of the proof.
-/
import Derived.Test.YtijnokbblmbpkaaGreatDoorH15
set_option linter.all false
set_option maxRecDepth 100000
namespace Go.Proofs.YtijnokbblmbpkaaGreatDoor
open Go Go.V Go.ChangeShapes Go.WideShapes Go.Deep
section
def uT:Rows.ScopeChainsUptoSaid:=
 OpenClaim.holds_of_cond 6 tx rfl rfl rfl rfl rfl rfl rfl ⟨rfl,rfl,rfl,rfl,rfl⟩ rfl rfl rfl rfl rfl Zx9 func6 Gf
  (of_decide_eq_true Zx9) (by unfold Func.isWrapper;first|(rw[if_pos (by decide+kernel)];kernel_rfl)|(rw[if_neg (by decide+kernel)];exact⟨rfl,rfl⟩))
  (λg d H enc _ F=>by rw[OpenClaim.pre_eq_preRow];exact DE g d H enc F)
def Gg (f)(fn : Func)(m : Tryz.pinned.checked.prog.funcNamed "palaver/palaverlaw18.ScopeChains" = some f)(g : Tryz.pinned.checked.prog.funcs[f]? = some fn) :
 true=Tryz.pinned.checked.prog.looks []/\∀(j:Nat) t,fn.params[j]? =some t->Tryz.pinned.checked.prog.wantsStandIn t=false:=by
 obtain rfl : f = 6 := X8 ((show pg9.funcNamed "palaver/palaverlaw18.ScopeChains" = some 6 by kernel_rfl).symm.trans m) |>.symm
 obtain rfl:fn=tx:=(X8 (func6.symm.trans g)).symm;refine⟨by kernel_rfl,λj t d=>?_⟩;rw[params6]at d;have q:t∈[25,22]:=by simpa using Array.mem_of_getElem? d
 have h:[25,22].all (λt=>Tryz.prog.wantsStandIn t==false)=true:=by kernel_rfl
 exact(show pg9.wantsStandIn t=false from by simpa using vf.1 h t q)
end
end Go.Proofs.YtijnokbblmbpkaaGreatDoor
