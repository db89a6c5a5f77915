/-
  ScopeOpen: a method's names all stand for something just if each that it leaves open is a field or a global: the statement in its second form, and its card, for whatever is handed in of the bulk that the form allows.
-/
import Derived.Test.YtijnokbblmbpkaaGreatDoorS24
import Derived.Test.YtijnokbblmbpkaaGreatDoorS27
set_option linter.all false
namespace Go.Proofs.YtijnokbblmbpkaaGreatDoor
open Go Go.V Go.ChangeShapes Go.WideShapes Go.Deep
set_option maxRecDepth 100000
section
noncomputable def rh:Func:=(Tryz.prog.funcs[9]?).getD default
theorem func9:Tryz.prog.funcs[9]? =some rh:=by kernel_rfl
theorem params9:rh.params=#[25,22,22]:=by kernel_rfl
theorem Wt:rh.resultTypes=#[4]:=by kernel_rfl
theorem Av(H:Type)(enc:TypeId×Value->H)(W:World)(base:Nat)(args:Array Value)(ds gs:List (DataW H))(before:List MemPlace)
 (Ai:∀(j:Nat) t v,rh.params[j]? =some t->args[j]? =some v->Value.okWide Tryz.prog W .any base t v)
 (hW:DataW.Whole enc Tryz.prog rh.params.toList Rows.scopeOpenSpec.vars false W args.toList ds gs before) (hk:Rows.uptoSmall H (ds++gs)=true) (hL:laidMetH Tryz.prog Rows.scopeOpenUptoRow.laid W) (hS:W.ShapedOpen Tryz.prog):
 Calls Tryz.prog 9 args W fun e W'=>∃v,e=.returned v/\Rows.scopeOpenSpec.post enc Tryz.prog rh false true false false W args v W':=by
 have hW':=hW;obtain⟨p,q,hA,hV,rfl,hfz,_⟩:=hW;rw[params9]at hA Ai;obtain⟨v0,vs0,d0,ds0,p0,q0,cf,rfl,rfl,h0,r0⟩:=trodAll_cons hA;obtain⟨v1,vs1,d1,ds1,p1,q1,rfl,rfl,rfl,h1,r1⟩:=trodAll_cons r0;obtain⟨v2,vs2,d2,ds2,p2,q2,rfl,rfl,rfl,h2,r2⟩:=trodAll_cons r1;obtain⟨rfl,rfl,rfl⟩:=trodAll_nil r2;obtain rfl:args=#[v0,v1,v2]:=by cases args;simp_all
 obtain⟨rfl,rfl⟩:=trodVars_none hV;have hb:=of_decide_eq_true hk;simp only[vg,Rows.uptoBulkAll,Qd]at hb;refine glue (args:=[v0,v1,v2]) rfl Wt u4 rfl S0 (by rw[params9];simp) hW' (fun A Nv=>?_);obtain⟨cs0,rfl⟩:=Uw (Ai 0 25 v0 rfl rfl);obtain⟨n0,h0⟩:=h0;simp only[Value.cells]at h0;obtain⟨x0,hx0,hc0,_⟩:=rd_md Nv n0 cs0 _ (by show Rows.uptoBulk d0<=_;omega) h0 (fun b o h=>hfz b o (by simp[h]));obtain⟨F1,hF1⟩:=yM (Ai 1 22 v1 rfl rfl) h1 (by show Rows.uptoBulk d1<=_;omega) (fun b o h=>hfz b o (by simp[h])) Nv;obtain⟨F2,hF2⟩:=yM (Ai 2 22 v2 rfl rfl) h2 (by show Rows.uptoBulk d2<=_;omega) (fun b o h=>hfz b o (by simp[h])) Nv;exact uK A (χ hL Nv) (YH hL hS Nv) x0 cs0 hx0 hc0 F1 F2 v1 v2 hF1 hF2
theorem IE(os:Os){H:Type}(enc:TypeId×Value->H):∃places,DataW.whole enc Tryz.prog ((wW os).forCall (fun _ _=>0) ⟨#[],#[.agg #[.string ⟨#[]⟩,Nz,Nz,.int .i64 0,Nz],Nz,Nz],[]⟩).memory rh.params.toList Rows.scopeOpenSpec.vars false (#[.agg #[.string ⟨#[]⟩,Nz,Nz,.int .i64 0,Nz],Nz,Nz]:Array Value).toList 8=some ([.agg [.lit (.string []),.nil,.nil,.lit (.int .i64 0),.nil],.nil,.nil],[],places):=
 ⟨[],by kernel_rfl⟩
theorem P5(os:Os):laidMetH Tryz.prog Rows.scopeOpenUptoRow.laid ((wW os).forCall (fun _ _=>0) ⟨#[],#[.agg #[.string ⟨#[]⟩,Nz,Nz,.int .i64 0,Nz],Nz,Nz],[]⟩).memory:=
 laidMetH_of_parts (W2 os _) (by kernel_rfl)
theorem Fy(os:Os)(started:os.Started)(H:Type)(enc:TypeId×Value->H)(F:Stop.Interp):
 ReturnsInHanded {} Tryz.checked os 9 .any ((Rows.OpenSpec.upto Rows.scopeOpenSpec).preRow enc Tryz.prog rh Rows.scopeOpenUptoRow.domain false Rows.scopeOpenUptoRow.laid) (((Rows.OpenSpec.upto Rows.scopeOpenSpec).at F).post enc Tryz.prog rh false true false false):=by
 obtain⟨places,hx⟩:=IE os enc;refine returnsInHanded_of_row (C:=Tryz.checked) (s:=Rows.OpenSpec.upto Rows.scopeOpenSpec) own started (by kernel_rfl) func9
  (witZ (enc:=enc) (C:=Tryz.checked) (wW os) #[.agg #[.string ⟨#[]⟩,Nz,Nz,.int .i64 0,Nz],Nz,Nz] (wW_os os) (World.shaped_of_ZipB (by kernel_rfl) (by kernel_rfl)) (by kernel_rfl)
    (OpenSpec.preRow_of_cond 8 hx (by kernel_rfl) (fun k hk=>by cases hk;kernel_rfl) (by kernel_rfl) (P5 os))) ?_
 intro W base args ds gs before Ai hW _ fO _ hL hS _;exact Av H enc W base args ds gs before Ai hW (fO _ rfl) hL hS
end
end Go.Proofs.YtijnokbblmbpkaaGreatDoor
