/-
  ScopeMore: fields and globals that nothing names change nothing, where they stand behind the others: the statement in its second form, and its card, for whatever is handed in of the bulk that the form allows.
-/
import Derived.Test.YtijnokbblmbpkaaGreatDoorM25
import Derived.Test.YtijnokbblmbpkaaGreatDoorM29
set_option linter.all false
namespace Go.Proofs.YtijnokbblmbpkaaGreatDoor
open Go Go.V Go.ChangeShapes Go.WideShapes Go.Deep
set_option maxRecDepth 100000
section
noncomputable def cC:Func:=(Tryz.prog.funcs[10]?).getD default
theorem func10:Tryz.prog.funcs[10]? =some cC:=by kernel_rfl
theorem params10:cC.params=#[25,22,22,9]:=by kernel_rfl
theorem SG:cC.resultTypes=#[4]:=by kernel_rfl
theorem Bg(H:Type)(enc:TypeId×Value->H)(W:World)(base:Nat)(args:Array Value)(ds gs:List (DataW H))(before:List MemPlace)
 (x5:∀(j:Nat) t v,cC.params[j]? =some t->args[j]? =some v->Value.okWide Tryz.prog W .any base t v)
 (hW:DataW.Whole enc Tryz.prog cC.params.toList Rows.scopeMoreSpec.vars false W args.toList ds gs before) (hk:Rows.uptoSmall H (ds++gs)=true) (hL:laidMetH Tryz.prog Rows.scopeMoreUptoRow.laid W) (hS:W.ShapedOpen Tryz.prog):
 Calls Tryz.prog 10 args W fun e W'=>∃v,e=.returned v/\Rows.scopeMoreSpec.post enc Tryz.prog cC false true false false W args v W':=by
 have hW':=hW;obtain⟨p,q,hA,hV,rfl,hfz,_⟩:=hW;rw[params10]at hA x5;obtain⟨v0,vs0,d0,ds0,p0,q0,cp,rfl,rfl,h0,r0⟩:=trodAll_cons hA;obtain⟨v1,vs1,d1,ds1,p1,q1,rfl,rfl,rfl,h1,r1⟩:=trodAll_cons r0;obtain⟨v2,vs2,d2,ds2,p2,q2,rfl,rfl,rfl,h2,r2⟩:=trodAll_cons r1;obtain⟨v3,vs3,d3,ds3,p3,q3,rfl,rfl,rfl,h3,r3⟩:=trodAll_cons r2;obtain⟨rfl,rfl,rfl⟩:=trodAll_nil r3;obtain rfl:args=#[v0,v1,v2,v3]:=by cases args;simp_all
 obtain⟨rfl,rfl⟩:=trodVars_none hV;have hb:=of_decide_eq_true hk;simp only[vm,Rows.uptoBulkAll,Qj]at hb;refine glue (args:=[v0,v1,v2,v3]) rfl SG u4 rfl UL (by rw[params10];simp) hW' (fun A OY=>?_);obtain⟨cs0,rfl⟩:=W1 (x5 0 25 v0 rfl rfl);obtain⟨n0,h0⟩:=h0;simp only[Value.cells]at h0;obtain⟨x0,hx0,hc0,_⟩:=rd_md OY n0 cs0 _ (by show Rows.uptoBulk d0<=_;omega) h0 (fun b o h=>hfz b o (by simp[h]));obtain⟨F1,hF1⟩:=Aw (x5 1 22 v1 rfl rfl) h1 (by show Rows.uptoBulk d1<=_;omega) (fun b o h=>hfz b o (by simp[h])) OY;obtain⟨F2,hF2⟩:=Aw (x5 2 22 v2 rfl rfl) h2 (by show Rows.uptoBulk d2<=_;omega) (fun b o h=>hfz b o (by simp[h])) OY;obtain⟨s3,rfl,Me⟩:=S9 (x5 3 9 v3 rfl rfl) h3 (by show Rows.uptoBulk d3<=_;omega);exact xe A (lib_in hL OY) (Θ hL hS OY) x0 cs0 hx0 hc0 F1 F2 v1 v2 hF1 hF2 s3 Me
theorem Jw(os:Os){H:Type}(enc:TypeId×Value->H):∃places,DataW.whole enc Tryz.prog ((wW os).forCall (fun _ _=>0) ⟨#[],#[.agg #[.string ⟨#[]⟩,Nz,Nz,.int .i64 0,Nz],Nz,Nz,.string ⟨#[]⟩],[]⟩).memory cC.params.toList Rows.scopeMoreSpec.vars false (#[.agg #[.string ⟨#[]⟩,Nz,Nz,.int .i64 0,Nz],Nz,Nz,.string ⟨#[]⟩]:Array Value).toList 8=some ([.agg [.lit (.string []),.nil,.nil,.lit (.int .i64 0),.nil],.nil,.nil,.lit (.string [])],[],places):=
 ⟨[],by kernel_rfl⟩
theorem RW(os:Os):laidMetH Tryz.prog Rows.scopeMoreUptoRow.laid ((wW os).forCall (fun _ _=>0) ⟨#[],#[.agg #[.string ⟨#[]⟩,Nz,Nz,.int .i64 0,Nz],Nz,Nz,.string ⟨#[]⟩],[]⟩).memory:=
 laidMetH_of_parts (Yk os _) (by kernel_rfl)
theorem GW(os:Os)(started:os.Started)(H:Type)(enc:TypeId×Value->H)(F:Stop.Interp):
 ReturnsInHanded {} Tryz.checked os 10 .any ((Rows.OpenSpec.upto Rows.scopeMoreSpec).preRow enc Tryz.prog cC Rows.scopeMoreUptoRow.domain false Rows.scopeMoreUptoRow.laid) (((Rows.OpenSpec.upto Rows.scopeMoreSpec).at F).post enc Tryz.prog cC false true false false):=by
 obtain⟨places,hx⟩:=Jw os enc;refine returnsInHanded_of_row (C:=Tryz.checked) (s:=Rows.OpenSpec.upto Rows.scopeMoreSpec) own started (by kernel_rfl) func10
  (witZ (enc:=enc) (C:=Tryz.checked) (wW os) #[.agg #[.string ⟨#[]⟩,Nz,Nz,.int .i64 0,Nz],Nz,Nz,.string ⟨#[]⟩] (wW_os os) (World.shaped_of_ZipB (by kernel_rfl) (by kernel_rfl)) (by kernel_rfl)
    (OpenSpec.preRow_of_cond 8 hx (by kernel_rfl) (fun k hk=>by cases hk;kernel_rfl) (by kernel_rfl) (RW os))) ?_
 intro W base args ds gs before x5 hW _ gk _ hL hS _;exact Bg H enc W base args ds gs before x5 hW (gk _ rfl) hL hS
end
end Go.Proofs.YtijnokbblmbpkaaGreatDoor
