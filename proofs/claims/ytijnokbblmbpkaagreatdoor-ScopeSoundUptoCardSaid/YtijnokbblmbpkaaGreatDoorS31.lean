/-
  ScopeSound: each place that a part names lies within its unit's frame: the statement in its second form, and its card, for whatever is handed in of the bulk that the form allows.
-/
import Derived.Test.YtijnokbblmbpkaaGreatDoorS30
set_option linter.unusedSimpArgs false
set_option linter.unusedVariables false
namespace Go.Proofs.YtijnokbblmbpkaaGreatDoor
open Go Go.V Go.ChangeShapes Go.WideShapes Go.Deep
set_option maxRecDepth 100000
section
noncomputable def fn8:Func:=(Tryz.prog.funcs[8]?).getD default
theorem func8:Tryz.prog.funcs[8]? =some fn8:=by kernel_rfl
theorem params8:fn8.params=#[25,22,22]:=by kernel_rfl
theorem result8:fn8.resultTypes=#[4]:=by kernel_rfl
theorem sound_contract(H:Type)(enc:TypeId×Value->H)(W:World)(base:Nat)(args:Array Value)(ds gs:List (DataW H))(before:List MemPlace)
 (hval:∀(j:Nat) t v,fn8.params[j]? =some t->args[j]? =some v->Value.okWide Tryz.prog W .any base t v)
 (hW:DataW.Whole enc Tryz.prog fn8.params.toList Rows.scopeSoundSpec.vars false W args.toList ds gs before) (hk:Rows.uptoSmall H (ds++gs)=true) (hL:laidMetH Tryz.prog Rows.scopeSoundUptoRow.laid W) (hS:W.ShapedOpen Tryz.prog):
 Calls Tryz.prog 8 args W fun e W'=>∃v,e=.returned v/\Rows.scopeSoundSpec.post enc Tryz.prog fn8 false true false false W args v W':=by
 have hW':=hW;obtain⟨p,q,hA,hV,rfl,hfz,_⟩:=hW;rw[params8]at hA hval;obtain⟨v0,vs0,d0,ds0,p0,q0,hargs,rfl,rfl,h0,r0⟩:=trodAll_cons hA;obtain⟨v1,vs1,d1,ds1,p1,q1,rfl,rfl,rfl,h1,r1⟩:=trodAll_cons r0;obtain⟨v2,vs2,d2,ds2,p2,q2,rfl,rfl,rfl,h2,r2⟩:=trodAll_cons r1;obtain⟨rfl,rfl,rfl⟩:=trodAll_nil r2;obtain rfl:args=#[v0,v1,v2]:=by cases args;simp_all
 obtain⟨rfl,rfl⟩:=trodVars_none hV;have hb:=of_decide_eq_true hk;simp only[vd,Rows.uptoBulkAll,QU]at hb;refine glue (args:=[v0,v1,v2]) rfl result8 u4 rfl closedP (by rw[params8];simp) hW' (fun A hA'=>?_);obtain⟨cs0,rfl⟩:=md_form (hval 0 25 v0 rfl rfl);obtain⟨n0,h0⟩:=h0;simp only[Value.cells]at h0;obtain⟨x0,hx0,_⟩:=rd_md hA' n0 cs0 _ (by show Rows.uptoBulk d0<=_;omega) h0 (fun b o h=>hfz b o (by simp[h]));obtain⟨F1,hF1⟩:=texts_form (hval 1 22 v1 rfl rfl) h1 (by show Rows.uptoBulk d1<=_;omega) (fun b o h=>hfz b o (by simp[h])) hA';obtain⟨F2,hF2⟩:=texts_form (hval 2 22 v2 rfl rfl) h2 (by show Rows.uptoBulk d2<=_;omega) (fun b o h=>hfz b o (by simp[h])) hA';exact ScopeSound_spec A (lib_in hL hA') (err_in hL hS hA') x0 cs0 hx0 F1 F2 v1 v2 hF1 hF2
theorem sound_reads(os:Os){H:Type}(enc:TypeId×Value->H):∃places,DataW.whole enc Tryz.prog ((wW os).forCall (fun _ _=>0) ⟨#[],#[.agg #[.string ⟨#[]⟩,.slice none 0 0,.slice none 0 0,.int .i64 0,.slice none 0 0],.slice none 0 0,.slice none 0 0],[]⟩).memory fn8.params.toList Rows.scopeSoundSpec.vars false (#[.agg #[.string ⟨#[]⟩,.slice none 0 0,.slice none 0 0,.int .i64 0,.slice none 0 0],.slice none 0 0,.slice none 0 0]:Array Value).toList 8=some ([.agg [.lit (.string []),.nil,.nil,.lit (.int .i64 0),.nil],.nil,.nil],[],places):=
 ⟨[],by kernel_rfl⟩
theorem sound_met(os:Os):laidMetH Tryz.prog Rows.scopeSoundUptoRow.laid ((wW os).forCall (fun _ _=>0) ⟨#[],#[.agg #[.string ⟨#[]⟩,.slice none 0 0,.slice none 0 0,.int .i64 0,.slice none 0 0],.slice none 0 0,.slice none 0 0],[]⟩).memory:=
 laidMetH_of_parts (wW_laid os _) (by kernel_rfl)
theorem sound_lifted(os:Os)(started:os.Started)(H:Type)(enc:TypeId×Value->H)(F:Stop.Interp):
 ReturnsInHanded {} Tryz.checked os 8 .any ((Rows.OpenSpec.upto Rows.scopeSoundSpec).preRow enc Tryz.prog fn8 Rows.scopeSoundUptoRow.domain false Rows.scopeSoundUptoRow.laid) (((Rows.OpenSpec.upto Rows.scopeSoundSpec).at F).post enc Tryz.prog fn8 false true false false):=by
 obtain⟨places,hx⟩:=sound_reads os enc;refine returnsInHanded_of_row (C:=Tryz.checked) (s:=Rows.OpenSpec.upto Rows.scopeSoundSpec) own started (by kernel_rfl) func8
  (witZ (enc:=enc) (C:=Tryz.checked) (wW os) #[.agg #[.string ⟨#[]⟩,.slice none 0 0,.slice none 0 0,.int .i64 0,.slice none 0 0],.slice none 0 0,.slice none 0 0] (wW_os os) (World.shaped_of_ZipB (by kernel_rfl) (by kernel_rfl)) (by kernel_rfl)
    (OpenSpec.preRow_of_cond 8 hx (by kernel_rfl) (fun k hk=>by cases hk;kernel_rfl) (by kernel_rfl) (sound_met os))) ?_
 intro W base args ds gs before hval hW _ hcond _ hL hS _;exact sound_contract H enc W base args ds gs before hval hW (hcond _ rfl) hL hS
end
end Go.Proofs.YtijnokbblmbpkaaGreatDoor
