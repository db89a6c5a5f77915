/-
  ScopeNodes: every node is inlined, and leaves names open, just where the document says so: the statement in its second form, and its card, for whatever is handed in of the bulk that the form allows.
-/
import Derived.Test.YtijnokbblmbpkaaGreatDoorN27
set_option linter.all false
namespace Go.Proofs.YtijnokbblmbpkaaGreatDoor
open Go Go.V Go.ChangeShapes Go.WideShapes Go.Deep
set_option maxRecDepth 100000
section
noncomputable def qX:Func:=(Tryz.prog.funcs[5]?).getD default
theorem func5:Tryz.prog.funcs[5]? =some qX:=by kernel_rfl
theorem params5:qX.params=#[72]:=by kernel_rfl
theorem Xd:qX.resultTypes=#[4]:=by kernel_rfl
theorem x7(H:Type)(enc:TypeId×Value->H)(W:World)(base:Nat)(args:Array Value)(ds gs:List (DataW H))(before:List MemPlace)
 (ES:∀(j:Nat) t v,qX.params[j]? =some t->args[j]? =some v->Value.okWide Tryz.prog W .any base t v)
 (hW:DataW.Whole enc Tryz.prog qX.params.toList Rows.scopeNodesSpec.vars false W args.toList ds gs before) (hk:Rows.uptoSmall H (ds++gs)=true) (hL:laidMetH Tryz.prog Rows.scopeNodesUptoRow.laid W) (hS:W.ShapedOpen Tryz.prog):
 Calls Tryz.prog 5 args W fun e W'=>∃v,e=.returned v/\Rows.scopeNodesSpec.post enc Tryz.prog qX false true false false W args v W':=by
 have hW':=hW;obtain⟨p,q,hA,hV,rfl,hfz,_⟩:=hW;rw[params5]at hA ES;obtain⟨v0,vs0,d0,ds0,p0,q0,cu,rfl,rfl,h0,r0⟩:=trodAll_cons hA;obtain⟨rfl,rfl,rfl⟩:=trodAll_nil r0;obtain rfl:args=#[v0]:=by cases args;simp_all
 obtain⟨rfl,rfl⟩:=trodVars_none hV;have hb:=of_decide_eq_true hk;simp only[vd,Rows.uptoBulkAll,Qh]at hb;refine glue (args:=[v0]) rfl Xd u4 rfl T6 (by rw[params5];simp) hW' (fun A Uo=>?_);obtain⟨cs0,rfl⟩:=Fc (ES 0 72 v0 rfl rfl);obtain⟨n0,h0⟩:=h0;simp only[Value.cells]at h0;obtain⟨x0,hx0,hxb0⟩:=W9 bulkB nodT litT Uo 1048576 n0 cs0 _ (by show Rows.uptoBulk d0<=_;omega) (Qj _) h0 (fun b o h=>hfz b o (by simp[h]));simp only at hxb0;exact ti A (lib_in hL Uo) (Zn hL hS Uo) x0 cs0 hx0
theorem Fg(os:Os){H:Type}(enc:TypeId×Value->H):∃places,DataW.whole enc Tryz.prog ((wW os).forCall (fun _ _=>0) ⟨#[],#[.agg #[.int .u8 0,.string ⟨#[]⟩,.int .u8 0,.int .i64 0,.int .u64 0,.string ⟨#[]⟩,Nz,Nz,Nz,Nz,.int .i64 0]],[]⟩).memory qX.params.toList Rows.scopeNodesSpec.vars false (#[.agg #[.int .u8 0,.string ⟨#[]⟩,.int .u8 0,.int .i64 0,.int .u64 0,.string ⟨#[]⟩,Nz,Nz,Nz,Nz,.int .i64 0]]:Array Value).toList 8=some ([.agg [.lit (.int .u8 0),.lit (.string []),.agg [.lit (.int .u8 0),.lit (.int .i64 0),.lit (.int .u64 0),.lit (.string []),.nil],.nil,.nil,.nil,.lit (.int .i64 0)]],[],places):=
 ⟨[],by kernel_rfl⟩
theorem Mr(os:Os):laidMetH Tryz.prog Rows.scopeNodesUptoRow.laid ((wW os).forCall (fun _ _=>0) ⟨#[],#[.agg #[.int .u8 0,.string ⟨#[]⟩,.int .u8 0,.int .i64 0,.int .u64 0,.string ⟨#[]⟩,Nz,Nz,Nz,Nz,.int .i64 0]],[]⟩).memory:=
 laidMetH_of_parts (XD os _) (by kernel_rfl)
theorem C8(os:Os)(started:os.Started)(H:Type)(enc:TypeId×Value->H)(F:Stop.Interp):
 ReturnsInHanded {} Tryz.checked os 5 .any ((Rows.OpenSpec.upto Rows.scopeNodesSpec).preRow enc Tryz.prog qX Rows.scopeNodesUptoRow.domain false Rows.scopeNodesUptoRow.laid) (((Rows.OpenSpec.upto Rows.scopeNodesSpec).at F).post enc Tryz.prog qX false true false false):=by
 obtain⟨places,hx⟩:=Fg os enc;refine returnsInHanded_of_row (C:=Tryz.checked) (s:=Rows.OpenSpec.upto Rows.scopeNodesSpec) own started (by kernel_rfl) func5
  (witZ (enc:=enc) (C:=Tryz.checked) (wW os) #[.agg #[.int .u8 0,.string ⟨#[]⟩,.int .u8 0,.int .i64 0,.int .u64 0,.string ⟨#[]⟩,Nz,Nz,Nz,Nz,.int .i64 0]] (wW_os os) (World.shaped_of_ZipB (by kernel_rfl) (by kernel_rfl)) (by kernel_rfl)
    (OpenSpec.preRow_of_cond 8 hx (by kernel_rfl) (fun k hk=>by cases hk;kernel_rfl) (by kernel_rfl) (Mr os))) ?_
 intro W base args ds gs before ES hW _ fI _ hL hS _;exact x7 H enc W base args ds gs before ES hW (fI _ rfl) hL hS
end
end Go.Proofs.YtijnokbblmbpkaaGreatDoor
