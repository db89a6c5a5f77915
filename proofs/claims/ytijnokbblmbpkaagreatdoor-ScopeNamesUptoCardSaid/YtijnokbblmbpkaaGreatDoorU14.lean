/-
  A part of the proof.
-/
import Derived.Test.YtijnokbblmbpkaaGreatDoorU13
set_option linter.all false
set_option maxRecDepth 100000
namespace Go.Proofs.YtijnokbblmbpkaaGreatDoor
open Go Go.V Go.ChangeShapes Go.WideShapes Go.Deep
section
noncomputable def sZ:Func:=(Tryz.prog.funcs[7]?).getD default
theorem func7:Tryz.prog.funcs[7]? =some sZ:=by kernel_rfl
theorem params7:sZ.params=#[25,22,22]:=by kernel_rfl
theorem result7:sZ.resultTypes=#[4]:=by kernel_rfl
theorem Bt(H:Type)(enc:TypeId×Value->H)(W:World)(base:Nat)(args:Array Value)(ds O:List (DataW H))(d:List MemPlace)
 (D:∀(j:Nat) t v,sZ.params[j]? =some t->args[j]? =some v->Value.okWide Tryz.prog W .any base t v)
 (S:DataW.Whole enc Tryz.prog sZ.params.toList Rows.scopeNamesSpec.vars false W args.toList ds O d) (hk:Rows.uptoSmall H (ds++O)=true) (Q:laidMetH Tryz.prog Rows.scopeNamesUptoRow.laid W) (hS:W.ShapedOpen Tryz.prog):
 Calls Tryz.prog 7 args W λe X=>∃v,e=.returned v/\Rows.scopeNamesSpec.post enc Tryz.prog sZ false true false false W args v X:=by
 have K:=S;obtain⟨p,q,P,hV,rfl,g,_⟩:=S;rw[params7]at P D;obtain⟨N,vs0,Y,ds0,p0,q0,cE,rfl,rfl,E,r0⟩:=trodAll_cons P;obtain⟨F,vs1,Z,ds1,p1,q1,rfl,rfl,rfl,h1,r1⟩:=trodAll_cons r0;obtain⟨G,vs2,d2,ds2,p2,q2,rfl,rfl,rfl,h2,r2⟩:=trodAll_cons r1;obtain⟨rfl,rfl,rfl⟩:=trodAll_nil r2;obtain rfl:args=#[N,F,G]:=by cases args;simp_all
 obtain⟨rfl,rfl⟩:=trodVars_none hV;have hb:=of_decide_eq_true hk;simp only[vp,Rows.uptoBulkAll,Qp]at hb;refine glue (args:=[N,F,G]) rfl result7 u4 rfl ZQ (by rw[params7];simp) K (λA m=>?_);obtain⟨s,rfl⟩:=md_form (D 0 25 N rfl rfl);obtain⟨n0,E⟩:=E;simp only[Value.cells]at E;obtain⟨x0,M,L,_⟩:=rd_md m n0 s _ (by show Rows.uptoBulk Y<=_;omega) E (λb o h=>g b o (by simp[h]));obtain⟨T,I,B⟩:=xn (D 1 22 F rfl rfl) h1 (by show Rows.uptoBulk Z<=_;omega) (λb o h=>g b o (by simp[h])) m;obtain⟨U,J,C⟩:=xn (D 2 22 G rfl rfl) h2 (by show Rows.uptoBulk d2<=_;omega) (λb o h=>g b o (by simp[h])) m;exact xu A (lib_in Q m) (err_in Q hS m) x0 s M L T U F G I J B C
theorem I9(g:Os){H:Type}(enc:TypeId×Value->H):∃d,DataW.whole enc Tryz.prog ((wW g).forCall (λ_ _=>0) ⟨#[],#[.agg #[.string ⟨#[]⟩,Nz,Nz,.int .i64 0,Nz],Nz,Nz],[]⟩).memory sZ.params.toList Rows.scopeNamesSpec.vars false (#[.agg #[.string ⟨#[]⟩,Nz,Nz,.int .i64 0,Nz],Nz,Nz]:Array Value).toList 8=some ([.agg [.lit (.string []),.nil,.nil,.lit (.int .i64 0),.nil],.nil,.nil],[],d):=
 ⟨[],by kernel_rfl⟩
theorem Rk(d:Os):laidMetH Tryz.prog Rows.scopeNamesUptoRow.laid ((wW d).forCall (λ_ _=>0) ⟨#[],#[.agg #[.string ⟨#[]⟩,Nz,Nz,.int .i64 0,Nz],Nz,Nz],[]⟩).memory:=
 laidMetH_of_parts (wW_laid d _) (by kernel_rfl)
theorem Gq(os:Os)(d:os.Started)(H:Type)(enc:TypeId×Value->H)(F:Stop.Interp):
 ReturnsInHanded {} Tryz.checked os 7 .any ((Rows.OpenSpec.upto Rows.scopeNamesSpec).preRow enc Tryz.prog sZ Rows.scopeNamesUptoRow.domain false Rows.scopeNamesUptoRow.laid) (((Rows.OpenSpec.upto Rows.scopeNamesSpec).at F).post enc Tryz.prog sZ false true false false):=by
 obtain⟨h,E⟩:=I9 os enc;refine returnsInHanded_of_row (C:=Tryz.checked) (s:=Rows.OpenSpec.upto Rows.scopeNamesSpec) own d (by kernel_rfl) func7
  (witZ (enc:=enc) (C:=Tryz.checked) (wW os) #[.agg #[.string ⟨#[]⟩,Nz,Nz,.int .i64 0,Nz],Nz,Nz] (wW_os os) (World.shaped_of_ZipB (by kernel_rfl) (by kernel_rfl)) (by kernel_rfl)
    (OpenSpec.preRow_of_cond 8 E (by kernel_rfl) (λk D=>by cases D;kernel_rfl) (by kernel_rfl) (Rk os))) ?_
 intro W base args ds m g j B _ G _ q A _;exact Bt H enc W base args ds m g j B (G _ rfl) q A
end
end Go.Proofs.YtijnokbblmbpkaaGreatDoor
