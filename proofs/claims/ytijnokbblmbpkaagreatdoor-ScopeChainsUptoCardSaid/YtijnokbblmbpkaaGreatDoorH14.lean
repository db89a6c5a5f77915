/-
  A part of the proof.
-/
import Derived.Test.YtijnokbblmbpkaaGreatDoorH12
import Derived.Test.YtijnokbblmbpkaaGreatDoorH13
set_option linter.all false
set_option maxRecDepth 100000
namespace Go.Proofs.YtijnokbblmbpkaaGreatDoor
open Go Go.V Go.ChangeShapes Go.WideShapes Go.Deep
section
noncomputable def tx:Func:=(pg9.funcs[6]?).getD default
def func6:Tryz.prog.funcs[6]? =some tx:=by kernel_rfl
def params6:tx.params=#[25,22]:=by kernel_rfl
def result6:tx.resultTypes=#[4]:=by kernel_rfl
def x8(H:Type)(enc:TypeId×Value->H)(W base a5)(ds K:List (DataW H))(d:List MemPlace)(D:∀(j:Nat) t v,tx.params[j]? =some t->a5[j]? =some v->Value.okWide Tryz.prog W .any base t v)(N:DataW.Whole enc Tryz.prog tx.params.toList Rows.scopeChainsSpec.vars false W a5.toList ds K d)(hk:Rows.uptoSmall H (ds++K)=true)(M:laidMetH Tryz.prog Rows.scopeChainsUptoRow.laid W)(Y:W.ShapedOpen Tryz.prog):
 Calls pg9 6 a5 W λe P=>∃v,e=.returned v/\Rows.scopeChainsSpec.post enc pg9 tx false true false false W a5 v P:=by
 have F:=N;obtain⟨p,q,L,Z,rfl,m,_⟩:=N;rw[params6]at L D;obtain⟨J,vs0,Q,T,p0,q0,cN,rfl,rfl,B,r0⟩:=trodAll_cons L;obtain⟨C,vs1,S,U,p1,q1,rfl,rfl,rfl,X,r1⟩:=trodAll_cons r0;obtain⟨rfl,rfl,rfl⟩:=trodAll_nil r1;obtain rfl:a5=#[J,C]:=by cases a5;simp_all
 obtain⟨rfl,rfl⟩:=trodVars_none Z;have hb:=of_decide_eq_true hk;simp only[vm,Rows.uptoBulkAll,Qo]at hb;refine glue (a5:=[J,C]) rfl result6 u4 rfl ο (by rw[params6];simp) F (λA s=>?_);obtain⟨g,rfl⟩:=md_form (D 0 25 J rfl rfl);obtain⟨n0,B⟩:=B;simp only[Value.cells]at B;obtain⟨x0,I,G,_⟩:=rd_md s n0 g _ (by show Rows.uptoBulk Q<=_;omega) B (λb o h=>m b o (by simp[h]));obtain⟨O,E⟩:=Nb (D 1 22 C rfl rfl) X (by show Rows.uptoBulk S<=_;omega) (λb o h=>m b o (by simp[h])) s;exact tH A (lib_in M s) (err_in M Y s) x0 g I G O C E
def Gh(g:Os){H:Type}(enc:TypeId×Value->H):∃d,DataW.whole enc Tryz.prog ((wW g).forCall (λ_ _=>0) ⟨#[],#[.agg #[.string ⟨#[]⟩,Nz,Nz,.int .i64 0,Nz],Nz],[]⟩).memory tx.params.toList Rows.scopeChainsSpec.vars false (#[.agg #[.string ⟨#[]⟩,Nz,Nz,.int .i64 0,Nz],Nz]:Array Value).toList 8=some ([.agg [.lit (.string []),.nil,.nil,.lit (.int .i64 0),.nil],.nil],[],d):=
 ⟨[],by kernel_rfl⟩
def LD(d):laidMetH pg9 Rows.scopeChainsUptoRow.laid ((wW d).forCall (λ_ _=>0) ⟨#[],#[.agg #[.string ⟨#[]⟩,Nz,Nz,vi 0,Nz],Nz],[]⟩).memory:=
 laidMetH_of_parts (wW_laid d _) Zx9
def DE(os)(d:os.Started)(H:Type)(enc:TypeId×Value->H)(F:Stop.Interp):
 ReturnsInHanded {} Tryz.checked os 6 .any ((Rows.OpenSpec.upto Rows.scopeChainsSpec).preRow enc pg9 tx Rows.scopeChainsUptoRow.domain false Rows.scopeChainsUptoRow.laid) (((Rows.OpenSpec.upto Rows.scopeChainsSpec).at F).post enc pg9 tx false true false false):=by
 obtain⟨h,G⟩:=Gh os enc;refine returnsInHanded_of_row (C:=Tryz.checked) (s:=Rows.OpenSpec.upto Rows.scopeChainsSpec) own d Zx9 func6
  (witZ (enc:=enc) (C:=Tryz.checked) (wW os) #[.agg #[.string ⟨#[]⟩,Nz,Nz,vi 0,Nz],Nz] (wW_os os) (World.shaped_of_ZipB Zx9 Zx9) Zx9
    (OpenSpec.preRow_of_cond 8 G Zx9 (λk E=>by cases E;kernel_rfl) Zx9 (LD os))) ?_
 intro W base a5 ds q g j D _ m _ A B _;exact x8 H enc W base a5 ds q g j D (m _ rfl) A B
end
end Go.Proofs.YtijnokbblmbpkaaGreatDoor
