/-
  What a method that may be is made of: its nodes' kinds, kids and names.
-/
import Derived.Test.YtijnokbblmbpkaaGreatDoorS21
import Derived.Test.YtijnokbblmbpkaaGreatDoorS6
import Derived.Test.YtijnokbblmbpkaaGreatDoorS13
import Derived.Test.YtijnokbblmbpkaaGreatDoorS17
import Derived.Test.YtijnokbblmbpkaaGreatDoorS19
import Derived.Test.YtijnokbblmbpkaaGreatDoorS8
import Derived.Test.YtijnokbblmbpkaaGreatDoorS18
set_option linter.unusedSimpArgs false
set_option linter.unusedVariables false
namespace Go.V
open Go
theorem wA {b:Bool}{r:Rs}(h:kP b r≠none):b=true/\r≠none:=by
 unfold kP at h;split at h
 ·exact⟨by assumption,h⟩
 ·exact absurd rfl h
theorem many_ne {b:Bool}{r:Rs}(h:wo b r≠none):r≠none:=by
 rintro rfl;exact h rfl
theorem deeper_ne {r:Rs}(h:wV r≠none):r≠none:=by
 rintro rfl;exact h rfl
theorem both_ne {r q:Rs}(h:bothR r q≠none):r≠none/\q≠none:=by
 cases r with
 |none=>exact absurd rfl h
 |some a=>cases q with
  |none=>exact absurd rfl h
  |some b=>exact⟨(fun e=>by cases e),(fun e=>by cases e)⟩
theorem max_ne:∀{l:List Rs},wM l≠none->∀r∈l,r≠none:=by
 intro l
 induction l with
 |nil=>intro _ r hr;cases hr
 |cons x l ih=>
  intro h r hr;have h2:x≠none/\wM l≠none:=by
   cases x with
   |none=>exact absurd rfl h
   |some a=>
    refine⟨(fun e=>by cases e),fun e=>h ?_⟩;simp only[wM,e]
  rcases Q4.1 hr with rfl|hr
  ·exact h2.1
  ·exact ih h2.2 r hr
theorem part_ne {x:Nd}{p:Nat}{r:Rs}(h:partR x p r≠none):r≠none:=by
 unfold partR at h;have h2:=(wA h).2;split at h2
 ·exact deeper_ne h2
 ·exact h2
theorem value_ne {x:Nd}{p:Nat}{r:Rs}(h:jr x p r≠none):r≠none:=by
 unfold jr at h;exact part_ne (wA h).2
theorem first_ne {x:Nd}{s:ByteArray}{r:Rs}(h:firstR x s r≠none):r≠none:=by
 unfold firstR at h;split at h
 ·exact h
 ·exact value_ne h
theorem values_ne {p:Nat}:∀{l:List Nd},(∀r∈valuesR p l (zA l),r≠none)->∀y∈l,kO y≠none:=by
 intro l
 induction l with
 |nil=>intro _ y hy;cases hy
 |cons x l ih=>
  intro h y hy;simp only[zA,valuesR]at h;exact zD5
theorem msgs_ne:∀{l:List Nd},(∀r∈msgsR l (zA l),r≠none)->∀y∈l,kO y≠none:=by
 intro l
 induction l with
 |nil=>intro _ y hy;cases hy
 |cons x l ih=>
  intro h y hy;simp only[zA,msgsR]at h;rcases Q4.1 hy with rfl|hy
  ·exact(wA (h _ (Q6 ..))).2
  ·exact ih (fun r hr=>h r (Q5 _ hr)) y hy
theorem stmts_ne:∀{l:List Nd},(∀r∈zN l (zA l),r≠none)->∀y∈l,kO y≠none:=by
 intro l
 induction l with
 |nil=>intro _ y hy;cases hy
 |cons x l ih=>
  intro h y hy;cases l with
  |nil=>
   simp only[zA,zN]at h;obtain rfl:=QC.1 hy;have:=h _ (Q6 ..);split at this
   ·exact this
   ·exact value_ne this
  |cons z l=>
   simp only[zA,zN]at h;exact zD5
theorem args_ne {s:ByteArray}{l:List Nd}(h:argsR s l (zA l)≠none):∀y∈l,kO y≠none:=by
 unfold argsR at h;exact values_ne (max_ne (many_ne (wA h).2))
theorem names_ne {n:Nat}{l:List ByteArray}{r:Rs}(h:wn n l r≠none):(∀s∈l,wD s=true)/\r≠none:=by
 unfold wn at h;exact⟨vX.1 (wA h).1,many_ne (wA h).2⟩
theorem one_ne {l:List Nd}(h:(match l,zA l with|[x],[r]=>jr x 1 r|_,_=>none)≠none):l.length=1/\∀y∈l,kO y≠none:=by
 match l,h with
 |[],h=>exact absurd rfl h
 |[x],h=>
  simp only[zA]at h;refine⟨rfl,fun y hy=>?_⟩;obtain rfl:=QC.1 hy;exact value_ne h
 |_::_::_,h=>exact absurd rfl h
theorem nameS_ne {s:ByteArray}(h:nameS s=true):s≠e0:=by
 rintro rfl
 revert h;decide
theorem freeS_name {s:ByteArray}(h:wD s=true):nameS s=true:=by
 unfold wD at h;rw[vF]at h;exact h.2
structure NodeIs (k:Nat)(s:ByteArray)(args temps:List ByteArray)(kids:List Nd):Prop where
 kind:1<=k/\k<=9
 nokid:k=1∨k=2->kids=[]
 onekid:k=3∨k=9->kids.length=1
 send:k=4->0 < kids.length
 casc:k=5->2 < kids.length
 name:k=2∨k=3->nameS s=true
 free:k=3->wD s=true
 noargs:k≠7->args=[]/\temps=[]
 free2:k=7->(∀a∈args,wD a=true)/\∀a∈temps,wD a=true
 kidsD:∀y∈kids,kO y≠none
theorem node_is {k:Nat}{s:ByteArray}{lit:Lt}{args temps:List ByteArray}{kids:List Nd}{p:Int}(h:kO (.mk k s lit args temps kids p)≠none):NodeIs k s args temps kids:=by
 have hn:∀{l:List ByteArray},l.length=0->l=[]:=fun e=>vj e
 rw[kO]at h;unfold je at h;split at h
 ·obtain⟨h1,h2⟩:=wA h;simp only[decide_eq_true_eq]at h1;have hk:kids=[]:=vj h1.1;exact⟨Zo,fun _=>hk,Zo,Zo,Zo,Zo,Zo,fun _=>⟨hn h1.2.2.1,hn h1.2.2.2⟩,Zo,fun y hy=>by rw[hk]at hy;cases hy⟩
 split at h
 ·obtain⟨h1,h2⟩:=wA h;simp only[vF,decide_eq_true_eq]at h1;have hk:kids=[]:=vj h1.1.1.1;exact⟨Zo,fun _=>hk,Zo,Zo,Zo,fun _=>h1.1.2,Zo,fun _=>⟨hn h1.1.1.2.1,hn h1.1.1.2.2⟩,Zo,fun y hy=>by rw[hk]at hy;cases hy⟩
 split at h
 ·obtain⟨h1,h2⟩:=wA h;simp only[vF,decide_eq_true_eq]at h1;obtain⟨h3,h4⟩:=one_ne h2;exact⟨Zo,Zo,fun _=>h3,Zo,Zo,fun _=>freeS_name h1.2,fun _=>h1.2,fun _=>⟨hn h1.1.1.1,hn h1.1.1.2⟩,Zo,h4⟩
 split at h
 ·obtain⟨h1,h2⟩:=wA h;simp only[vF,decide_eq_true_eq]at h1
  match kids,h2 with
  |[],h2=>exact absurd rfl h2
  |x::l,h2=>
   simp only[zA]at h2;obtain⟨h3,h4⟩:=both_ne h2;refine⟨Zo,Zo,Zo,fun _=>by simp,Zo,Zo,Zo,fun _=>⟨hn h1.1.1.1,hn h1.1.1.2⟩,Zo,fun y hy=>?_⟩;rcases Q4.1 hy with rfl|hy
   ·exact first_ne h3
   ·exact args_ne h4 y hy
 split at h
 ·obtain⟨h1,h2⟩:=wA h;simp only[vF,decide_eq_true_eq]at h1;exact⟨Zo,Zo,Zo,Zo,Zo,Zo,Zo,fun _=>⟨hn h1.1.1,hn h1.1.2⟩,Zo,args_ne h2⟩
 split at h
 ·obtain⟨h1,h2⟩:=wA h;simp only[vF,decide_eq_true_eq]at h1
  match kids,h1,h2 with
  |[],_,h2=>exact absurd rfl h2
  |[_],_,h2=>exact absurd rfl h2
  |x::y::l,h1,h2=>
   simp only[zA]at h2;obtain⟨h3,h4⟩:=both_ne (many_ne h2);refine⟨Zo,Zo,Zo,Zo,fun _=>h1.1.2.2.2,Zo,Zo,fun _=>⟨hn h1.1.2.1,hn h1.1.2.2.1⟩,Zo,fun z hz=>?_⟩;rcases Q4.1 hz with rfl|hz
   ·exact first_ne h4
   ·exact msgs_ne (l:=y::l) (max_ne h3) z hz
 split at h
 ·obtain⟨h1,h2⟩:=wA h;obtain⟨h3,h4⟩:=names_ne h2;obtain⟨h5,h6⟩:=names_ne h4;exact⟨Zo,Zo,Zo,Zo,Zo,Zo,Zo,fun e=>absurd (by assumption) e,fun _=>⟨h3,h5⟩,stmts_ne (max_ne (deeper_ne h6))⟩
 split at h
 ·obtain⟨h1,h2⟩:=wA h;simp only[vF,decide_eq_true_eq]at h1;exact⟨Zo,Zo,Zo,Zo,Zo,Zo,Zo,fun _=>⟨hn h1.1.2.1,hn h1.1.2.2⟩,Zo,values_ne (max_ne (many_ne (deeper_ne h2)))⟩
 split at h
 ·obtain⟨h1,h2⟩:=wA h;simp only[vF,decide_eq_true_eq]at h1;obtain⟨h3,h4⟩:=one_ne h2;exact⟨Zo,Zo,fun _=>h3,Zo,Zo,Zo,Zo,fun _=>⟨hn h1.1.2.1,hn h1.1.2.2⟩,Zo,h4⟩
 ·exact absurd rfl h
theorem node_ind {Q:Nd->Prop}(hQ:∀k s lit args temps kids p,NodeIs k s args temps kids->(∀y∈kids,Q y)->Q (.mk k s lit args temps kids p)):∀x,kO x≠none->Q x:=by
 have key:∀(N:Nat) (x:Nd),x.size<=N->kO x≠none->Q x:=by
  intro N
  induction N with
  |zero=>intro x hx;have:=x.size_pos;omega
  |succ N ih=>
   intro x hx h;cases x with
   |mk k s lit args temps kids p=>
   simp only[Nd.size]at hx;have hi:=node_is h;exact hQ k s lit args temps kids p hi fun y hy=>ih y (by have:=Nd.sizes_mem hy;omega) (hi.kidsD y hy)
 exact fun x=>key _ x (QW _)
theorem NodeIs.okK {k:Nat}{s:ByteArray}{args temps:List ByteArray}{kids:List Nd}(h:NodeIs k s args temps kids):okK k kids=true:=by
 unfold V.okK;simp only[vF,vO,vK,decide_eq_true_eq,decide_eq_false_iff_not];refine⟨⟨⟨?_,?_⟩,h.kind⟩,?_⟩
 ·by_cases e:k=1∨k=2
  ·exact .inr (by rw[h.nokid e];rfl)
  ·exact .inl e
 ·by_cases e:k=5
  ·exact .inr (by have:=h.casc e;omega)
  ·exact .inl e
 ·by_cases e:k=4
  ·exact .inr (h.send e)
  ·exact .inl e
theorem okNs_of {l:List Nd}(h:∀y∈l,okN y=true):okNs l=true:=by
 induction l with
 |nil=>rfl
 |cons x r ih=>
  simp only[okNs,vF];exact⟨h x Zs,ih fun y hy=>h y (by simp[hy])⟩
theorem nodeD_ok:∀x,kO x≠none->x.w<=274877906944->okN x=true:=node_ind fun k s lit args temps kids p h hk hw=>by
 simp only[Nd.w]at hw;simp only[okN,vF,decide_eq_true_eq];exact⟨⟨h.okK,Zo⟩,okNs_of fun y hy=>hk y hy (by have:=Nd.ws_mem hy;omega)⟩
end Go.V
namespace Go.V
open Go
def refP(r:z7):Bool:=decide (0<=r.index)&&decide (0<=r.slot)&&decide (r.kind≠5/\r.kind≠6)&&decide (r.kind=8↔r.name≠e0)
mutual
def partP(n:Nat):PN->Bool
 |.mk k _ _ rs un _ kids=>rs.all refP&&(!decide (k=8)||decide (1<=un/\un < n))&&jk n kids
def jk(n:Nat):List PN->Bool
 |[]=>true
 |x::r=>partP n x&&jk n r
end
mutual
theorem partP_mono {n m:Nat}(h:n<=m):∀x:PN,partP n x=true->partP m x=true
 |.mk k s l rs u b kids,hx=>by
  simp only[partP,vF,vO,decide_eq_true_eq]at hx|-;exact⟨⟨hx.1.1,hx.1.2.imp_right fun k=>⟨k.1,Zo⟩⟩,partsP_mono h kids hx.2⟩
theorem partsP_mono {n m:Nat}(h:n<=m):∀l:List PN,jk n l=true->jk m l=true
 |[],_=>rfl
 |x::r,hx=>by
  simp only[jk,vF]at hx|-;exact⟨partP_mono h x hx.1,partsP_mono h r hx.2⟩
end
theorem partsP_mem {n:Nat}:∀{l:List PN},jk n l=true->∀x∈l,partP n x=true
 |y::r,h,x,hx=>by
  simp only[jk,vF]at h;rcases Q4.1 hx with rfl|hx
  ·exact h.1
  ·exact partsP_mem h.2 x hx
theorem partsP_of {n:Nat}:∀{l:List PN},(∀x∈l,partP n x=true)->jk n l=true
 |[],_=>rfl
 |x::r,h=>by
  simp only[jk,vF];exact⟨h x Zs,partsP_of fun y hy=>h y (by simp[hy])⟩
theorem partsP_supers {n:Nat}(b:Bool){l:List PN}(h:jk n l=true):jk n (wR b l)=true:=by
 cases l with
 |nil=>rfl
 |cons x r=>
  simp only[jk,vF]at h;simp only[wR,jk,vF];refine⟨h.1,partsP_of fun y hy=>?_⟩;obtain⟨z,hz,rfl⟩:=Q9.1 hy;have:=partsP_mem h.2 z hz;cases z;exact this
structure Pp (st:SSt):Prop where
 pos:0 < st.outer.length
 bd:∀l∈st.bodies,jk st.outer.length l=true
 ro:∀(i:Nat) o,st.outer[i]? =some o->0 < i->0<=o
theorem Pp.of {a b:SSt}(h:Pp a)(e1:b.bodies=a.bodies)(e2:b.outer=a.outer):Pp b:=⟨by rw[e2];exact h.pos,fun l hl=>by rw[e2];exact h.bd l (by rw[<- e1];exact hl),by rw[e2];exact h.ro⟩
theorem ref_outer(F G:List ByteArray)(st:SSt)(env:List Nat)(nm:ByteArray)(u:Nat)(p:Int)(put:Bool):(jv F G st env nm u p put).2.outer=st.outer:=by
 unfold jv;split
 ·rfl
 ·split
  ·simp only;split
   ·exact wrong_outer _ _ _
   ·rfl
  ·split
   ·rfl
   ·simp only;split
    ·rfl
    ·exact wrong_outer _ _ _
theorem rawP(v:Nat):refP (rawR v)=true:=by
 unfold refP rawR;simp only[vF,decide_eq_true_eq];refine⟨⟨⟨Zo,Zo⟩,Zo⟩,?_⟩;exact⟨fun e=>by omega,fun e=>absurd rfl e⟩
theorem refS_P(F G:List ByteArray)(st:SSt)(env:List Nat){nm:ByteArray}(u:Nat)(p:Int)(put:Bool)(hn:nm≠e0):refP (jv F G st env nm u p put).1=true:=by
 have h0:∀(k:Nat) (i:Nat),k≠5/\k≠6/\k≠8->refP ⟨k,i,0,e0⟩=true:=fun k i hk=>by
  unfold refP;simp only[vF,decide_eq_true_eq];refine⟨⟨⟨Zo,Zo⟩,hk.1,hk.2.1⟩,?_⟩;exact⟨fun e=>absurd e hk.2.2,fun e=>absurd rfl e⟩
 unfold jv;split
 ·have:=refK_ne nm;exact h0 (zW nm) 0 ⟨Zo,Zo,Zo⟩
 ·split
  ·exact rawP _
  ·split
   ·exact h0 7 _ ⟨Zo,Zo,Zo⟩
   ·unfold refP;simp only[vF,decide_eq_true_eq];exact⟨⟨⟨Zo,Zo⟩,Zo,Zo⟩,fun _=>hn,fun _=>trivial⟩
theorem pp_part(F G:List ByteArray):∀(N:Nat) (x:Nd),x.size<=N->kO x≠none->∀st env u,Pp st->
 (Pp (jD F G x st env u).2/\partP (jD F G x st env u).2.outer.length (jD F G x st env u).1=true)/\(Pp (inlS F G x st env u).2/\partP (inlS F G x st env u).2.outer.length (inlS F G x st env u).1=true):=by
 intro N
 induction N with
 |zero=>intro x hx;have:=x.size_pos;omega
 |succ N ih=>
  have hall:∀l:List Nd,Nd.sizes l<=N->(∀y∈l,kO y≠none)->∀st env u,Pp st->Pp (kR F G l st env u).2/\jk (kR F G l st env u).2.outer.length (kR F G l st env u).1=true:=by
   intro l
   induction l with
   |nil=>intro _ _ st env u h;rw[kR];exact⟨h,rfl⟩
   |cons x r ihl=>
    intro hl hd st env u h;simp only[Nd.sizes]at hl;rw[wE];obtain⟨h1,h2⟩:=(ih x Zo (hd x Zs) st env u h).1;obtain⟨h3,h4⟩:=ihl Zo (fun y hy=>hd y (by simp[hy])) _ env u h1;exact zDG
  have hspec:∀(s:ByteArray) (l:List Nd),Nd.sizes l<=N->(∀y∈l,kO y≠none)->∀i st env u,Pp st->
   Pp (ky F G s l i st env u).2.2/\jk (ky F G s l i st env u).2.2.outer.length (ky F G s l i st env u).1=true/\(ky F G s l i st env u).2.1.all refP=true/\Gr st (ky F G s l i st env u).2.2:=by
   intro s l
   induction l with
   |nil=>intro _ _ i st env u h;rw[ky];exact⟨h,rfl,rfl,Gr.refl _⟩
   |cons x r ihl=>
    intro hl hd i st env u h;simp only[Nd.sizes]at hl;obtain⟨g1,g2⟩:=gr_part F G N x Zo st env u;obtain⟨⟨h1,h2⟩,h3,h4⟩:=ih x Zo (hd x Zs) st env u h;cases hi:inlK s i with
    |true=>
     rw[specS_in _ _ _ _ _ _ _ _ _ hi];obtain⟨k1,k2,k3,k4⟩:=ihl Zo (fun y hy=>hd y (by simp[hy])) (i+1) _ env u h3;refine⟨k1,?_,?_,g2.trans k4⟩
     ·simp only[jk,vF];exact⟨partP_mono k4.outer.length_le _ h4,k2⟩
     ·simp only;split
      ·simp only[List.all_cons,vF];exact⟨rawP _,k3⟩
      ·exact k3
    |false=>
     rw[specS_out _ _ _ _ _ _ _ _ _ hi];obtain⟨k1,k2,k3,k4⟩:=ihl Zo (fun y hy=>hd y (by simp[hy])) (i+1) _ env u h1;refine⟨k1,?_,k3,g1.trans k4⟩;simp only[jk,vF];exact⟨partP_mono k4.outer.length_le _ h2,k2⟩
  intro x hx hd st env u h;cases x with
  |mk k s lit args temps kids p=>
  have hi:=node_is hd;simp only[Nd.size]at hx;have hk:Nd.sizes kids<=N:=by omega
  have plainCase:∀(n kk:Nat) (nm:ByteArray) (l0:Lt) (un:Int) (b:Bool) (ks:List PN),kk≠8->jk n ks=true->partP n (.mk kk nm l0 [] un b ks)=true:=fun n kk nm l0 un b ks hk hh=>by
   simp only[partP,List.all_nil,vR,vF,vO];exact⟨.inl (by rw[Zf hk];rfl),hh⟩
  have oneCase:∀(n kk:Nat) (r:z7) (ks:List PN),kk≠8->refP r=true->jk n ks=true->partP n (.mk kk e0 lt0 [r] 0 false ks)=true:=fun n kk r ks hk hr hh=>by
   simp only[partP,List.all_cons,List.all_nil,Bool.and_true,vF,vO];exact⟨⟨hr,.inl (by rw[Zf hk];rfl)⟩,hh⟩
  refine⟨?_,?_⟩
  ·cases hin:inlP k s kids with
   |true=>
    rw[partS_inl _ _ _ _ _ _ _ _ _ _ _ _ hin];obtain⟨k1,k2,k3,_⟩:=hspec s kids hk hi.kidsD 0 st env u h;refine⟨k1,?_⟩;simp only[partP,vF,vO];refine⟨⟨k3,.inl ?_⟩,k2⟩;have:speK s≠8:=by unfold speK;split <;> omega
    rw[Zf this];rfl
   |false=>
    obtain⟨a1,a2⟩:=hall kids hk hi.kidsD st env u h;by_cases h1:k=1
    ·rw[partS_1 _ _ _ _ _ _ _ _ _ _ _ _ hin h1];exact⟨h,plainCase _ _ _ _ _ _ _ Zo rfl⟩
    by_cases h2:k=2
    ·rw[partS_2 _ _ _ _ _ _ _ _ _ _ _ _ hin h2];exact⟨h.of (ref_bodies _ _ _ _ _ _ _ _) (ref_outer _ _ _ _ _ _ _ _),oneCase _ _ _ _ Zo (refS_P _ _ _ _ _ _ _ (nameS_ne (hi.name (.inl h2)))) rfl⟩
    by_cases h3:k=3
    ·rw[partS_3 _ _ _ _ _ _ _ _ _ _ _ _ hin h3];obtain⟨k3,k4⟩:=hall kids hk hi.kidsD (jv F G st env s u p true).2 env u (h.of (ref_bodies _ _ _ _ _ _ _ _) (ref_outer _ _ _ _ _ _ _ _));exact⟨k3,oneCase _ _ _ _ Zo (refS_P _ _ _ _ _ _ _ (nameS_ne (hi.name (.inr h3)))) k4⟩
    by_cases h7:k=7
    ·rw[partS_7 _ _ _ _ _ _ _ _ _ _ _ _ hin h7];simp only;rw[we];obtain⟨f1,f2,f3,f4⟩:=jR st.outer.length true true p args 0 (st.addU (u:Int) args.length) env;obtain⟨f5,f6,f7,f8⟩:=jR st.outer.length false true p temps 0 (kN st.outer.length true true p args 0 (st.addU (u:Int) args.length) env).1 (kN st.outer.length true true p args 0 (st.addU (u:Int) args.length) env).2;have hol:(inS args temps p st env (u:Int)).1.outer.length=st.outer.length+1:=by
      show(kN st.outer.length false true p temps 0 (kN st.outer.length true true p args 0 (st.addU (u:Int) args.length) env).1 (kN st.outer.length true true p args 0 (st.addU (u:Int) args.length) env).2).1.outer.length=_;rw[f5,f1];unfold SSt.addU;simp
     have hB:Pp (inS args temps p st env (u:Int)).1:=⟨Zo,fun l hl=>by
      have hl:l∈(kN st.outer.length false true p temps 0 (kN st.outer.length true true p args 0 (st.addU (u:Int) args.length) env).1 (kN st.outer.length true true p args 0 (st.addU (u:Int) args.length) env).2).1.bodies:=hl;rw[f7,f3]at hl;have hl:l∈st.bodies++[[]]:=hl;rcases Q1.1 hl with hl|hl
      ·exact partsP_mono Zo l (h.bd l hl)
      ·rw[QC.1 hl];rfl,fun i o hi hp=>by
      have hi:(kN st.outer.length false true p temps 0 (kN st.outer.length true true p args 0 (st.addU (u:Int) args.length) env).1 (kN st.outer.length true true p args 0 (st.addU (u:Int) args.length) env).2).1.outer[i]? =some o:=hi;rw[f5,f1]at hi;have hi:(st.outer++[(u:Int)])[i]? =some o:=hi;rw[V6]at hi;split at hi
      ·exact h.ro i o hi hp
      ·have:=(Vd.1 hi).1;simp only[Vu]at this;have e:i - st.outer.length=0:=by omega
       rw[e]at hi;obtain rfl:(u:Int)=o:=by simpa using hi
       omega⟩
     obtain⟨d5,d6⟩:=hall kids hk hi.kidsD (inS args temps p st env (u:Int)).1 (inS args temps p st env (u:Int)).2 st.outer.length hB;have gA:=(zK F G kids (inS args temps p st env (u:Int)).1 (inS args temps p st env (u:Int)).2 st.outer.length).outer.length_le;refine⟨⟨d5.pos,fun l hl=>?_,d5.ro⟩,?_⟩
     ·rcases List.mem_or_eq_of_mem_set hl with hl|rfl
      ·exact d5.bd l hl
      ·exact d6
     ·simp only[partP,List.all_nil,vR,vF,vO,decide_eq_true_eq];have:=h.pos;exact⟨.inr ⟨Zo,Zo⟩,rfl⟩
    by_cases h8:k=8
    ·rw[partS_8 _ _ _ _ _ _ _ _ _ _ _ _ hin h8];exact zDP
    by_cases h9:k=9
    ·rw[partS_9 _ _ _ _ _ _ _ _ _ _ _ _ hin h9];exact zDP
    by_cases h6:k=6
    ·rw[partS_6 _ _ _ _ _ _ _ _ _ _ _ _ hin h6];exact zDP
    by_cases h5:k=5
    ·rw[partS_5 _ _ _ _ _ _ _ _ _ _ _ _ hin h5];exact⟨a1,plainCase _ _ _ _ _ _ _ Zo (partsP_supers _ a2)⟩
    cases hs:jS kids with
    |true=>
     rw[partS_4s _ _ _ _ _ _ _ _ _ _ _ _ hin ⟨h1,h2,h3,h5,h6,h7,h8,h9⟩ hs];have ht:Nd.sizes kids.tail<=N:=by
      exact zC9
     obtain⟨k1,k2⟩:=hall kids.tail ht (fun y hy=>hi.kidsD y (List.mem_of_mem_tail hy)) st env u h;exact⟨k1,plainCase _ _ _ _ _ _ _ Zo k2⟩
    |false=>
     rw[partS_4 _ _ _ _ _ _ _ _ _ _ _ _ hin ⟨h1,h2,h3,h5,h6,h7,h8,h9⟩ hs];exact zDP
  ·rw[inlS_eq];obtain⟨f1,f2,f3,f4⟩:=jR u true false p args 0 st env;obtain⟨f5,f6,f7,f8⟩:=jR u false false p temps 0 (kN u true false p args 0 st env).1 (kN u true false p args 0 st env).2;obtain⟨d5,d6⟩:=hall kids hk hi.kidsD _ (kN u false false p temps 0 (kN u true false p args 0 st env).1 (kN u true false p args 0 st env).2).2 u (h.of (f7.trans f3) (f5.trans f1));refine⟨d5,?_⟩;simp only[partP,vF,vO];refine⟨⟨?_,.inl rfl⟩,d6⟩;rw[vX];intro r hr;obtain⟨v,_,rfl⟩:=Q9.1 hr;exact rawP v
theorem findIdx_mem {α:Type}[DecidableEq α]{l:List α}{x:α}(h:x∈l):∃i,i < l.length/\l.findIdx? (fun y=>decide (y=x))=some i:=by
 cases e:l.findIdx? (fun y=>decide (y=x))with
 |none=>
  rw[List.findIdx?_eq_none_iff]at e;have:=e x h;simp at this
 |some i=>
  obtain⟨h1,_⟩:=List.findIdx?_eq_some_iff_getElem.1 e;exact⟨i,h1,rfl⟩
theorem idxI_mem {α:Type}[DecidableEq α]{l:List α}{x:α}(h:x∈l):0<=idxI l x/\idxI l x < l.length:=by
 obtain⟨i,h1,h2⟩:=findIdx_mem h;unfold idxI;rw[h2];simp only;omega
theorem mem_locals {st:SSt}{u v:Nat}{r:Bool}:v∈st.locals u r↔v < st.vars.length/\st.unitOf v=u/\st.ownOf v < 0/\st.rem v=r:=by
 unfold SSt.locals;rw[Q7,QB];simp only[vF,decide_eq_true_eq,and_assoc]
def SSt.frame(st:SSt)(u:Nat):Int:=st.args.getD u 0+(st.copied u).length+(st.locals u false).length+(if 0 < (st.locals u true).length then 1 else 0)
theorem place_copied {st:SSt}{u:Nat}{t:Nat×Int}(hn:t.1≠u)(ht:t∈st.copied u):0<=st.place u t/\st.place u t < st.frame u:=by
 obtain⟨i,h1,h2⟩:=findIdx_mem ht;unfold SSt.place SSt.frame;rw[if_neg hn,h2];simp only;split <;> omega
theorem place_in {st:SSt}{u:Nat}{t:Nat×Int}(ht:(t.1=u/\t.2 < st.args.getD u 0/\(t.2 < 0->0 < (st.locals u true).length))∨(t.1≠u/\t∈st.copied u)):0<=st.place u t/\st.place u t < st.frame u:=by
 rcases ht with⟨h1,h2,h3⟩|⟨h1,h2⟩
 ·unfold SSt.place SSt.frame;rw[if_pos h1];by_cases c:0<=t.2
  ·rw[if_pos c];split <;> omega
  ·rw[if_neg c,if_pos (h3 Zo)];omega
 ·exact place_copied h1 h2
theorem Ph.known {st:SSt}(h:Ph st){i v:Nat}(hv:V.okv st i v=true):0<=(st.known i v).index/\(st.known i v).index < st.frame i/\0<=(st.known i v).slot/\((st.known i v).kind=5∨(st.known i v).kind=6)/\(st.known i v).name=e0:=by
 obtain⟨h1,h2⟩:=h.okv hv;obtain⟨k1,k2,k3⟩:=h.wf.var h1;unfold SSt.known;by_cases c:0<=st.ownOf v
 ·rw[if_pos c];have:=place_in (st:=st) (u:=i) (t:=(st.unitOf v,st.ownOf v)) (by
   by_cases e:st.unitOf v=i
   ·exact .inl ⟨e,by rw[<- e];exact k3,fun c2=>by simp only at c2;omega⟩
   ·rcases h2 with h2|h2
    ·exact absurd h2 e
    ·exact .inr ⟨e,h2.1⟩)
  exact⟨this.1,this.2,Zs,.inl rfl,rfl⟩
 rw[if_neg c];cases hr:st.rem v with
 |true=>
  simp only[if_true];have hm:v∈st.locals (st.unitOf v) true:=mem_locals.2 ⟨h1,rfl,Zo,hr⟩;have e1:st.ownOf v=-1:=by omega
  have:=place_in (st:=st) (u:=i) (t:=(st.unitOf v,-1)) (by
   by_cases e:st.unitOf v=i
   ·exact .inl ⟨e,by simp only;omega,fun _=>by rw[<- e];exact List.length_pos_of_mem hm⟩
   ·rcases h2 with h2|h2
    ·exact absurd h2 e
    ·rw[e1]at h2;exact .inr ⟨e,h2.1⟩)
  exact⟨this.1,this.2,(idxI_mem hm).1,.inr trivial,trivial⟩
 |false=>
  simp only[vI,if_false];have hu:st.unitOf v=i:=by
   rcases h2 with h2|h2
   ·exact h2
   ·have:=h2.2 Zo;rw[hr]at this;cases this
  have hm:v∈st.locals i false:=mem_locals.2 ⟨h1,hu,Zo,hr⟩;have:=idxI_mem hm;unfold SSt.frame;refine⟨Zo,?_,Zs,Zs,trivial⟩;split <;> omega
def liesR(n:Int)(r:z7):Bool:=!(decide (r.index < 0)||decide (r.slot < 0)||(decide (r.kind=5∨r.kind=6)&&decide (n<=r.index))||(decide (r.kind=8) !=decide (r.name≠e0)))
mutual
def liesP(n m:Int):PN->Bool
 |.mk k _ _ rs un _ kids=>rs.all (liesR n)&&!(decide (k=8)&&(decide (un < 1)||decide (m<=un)))&&liesPs n m kids
def liesPs(n m:Int):List PN->Bool
 |[]=>true
 |x::r=>liesP n m x&&liesPs n m r
end
theorem Ph.fix {st:SSt}(h:Ph st){i:Nat}{r:z7}(h1:refP r=true)(h2:(!decide (r.kind=99)||V.okv st i r.index.toNat)=true):liesR (st.frame i) (st.fix i r)=true:=by
 unfold refP at h1;simp only[vF,decide_eq_true_eq]at h1;obtain⟨⟨⟨h3,h4⟩,h5⟩,h6⟩:=h1;unfold SSt.fix;by_cases c:r.kind=99
 ·rw[if_pos c];rw[Zt c]at h2;simp only[Bool.not_true,vJ]at h2;obtain⟨k1,k2,k3,k4,k5⟩:=h.known h2;unfold liesR;simp only[vK,vN,vE,decide_eq_false_iff_not];refine⟨⟨⟨Zo,Zo⟩,.inr Zo⟩,?_⟩;rw[k5,Zf (show ¬(e0≠e0)from fun e=>e rfl),Zf (show ¬(st.known i r.index.toNat).kind=8 by omega)];rfl
 ·rw[if_neg c];unfold liesR;simp only[vK,vN,vE,decide_eq_false_iff_not];refine⟨⟨⟨Zo,Zo⟩,.inl Zo⟩,?_⟩;rw[decide_eq_decide.2 h6];cases decide (r.name≠e0) <;> rfl
mutual
theorem Ph.lies {st:SSt}(h:Ph st){i:Nat}:∀x:PN,partP st.outer.length x=true->rawIn (V.okv st i) x=true->liesP (st.frame i) st.outer.length (finS st i x)=true
 |.mk k s l rs u b kids,h1,h2=>by
  simp only[partP,rawIn,vF,vO,vX,decide_eq_true_eq]at h1 h2;simp only[finS,liesP,vF];refine⟨⟨?_,?_⟩,Ph.liess h kids h1.2 h2.2⟩
  ·rw[vX];intro r hr;obtain⟨z,hz,rfl⟩:=Q9.1 hr;exact h.fix (h1.1.1 z hz) (by rw[vO];exact h2.1 z hz)
  ·rcases h1.1.2 with e|e
   ·have:¬k=8:=by simpa using e
    rw[Zf this];rfl
   ·rw[Zf (show ¬u < 1 by omega),Zf (show ¬(st.outer.length:Int)<=u by omega)];simp
theorem Ph.liess {st:SSt}(h:Ph st){i:Nat}:∀l:List PN,jk st.outer.length l=true->jf (V.okv st i) l=true->liesPs (st.frame i) st.outer.length (finsS st i l)=true
 |[],_,_=>rfl
 |x::r,h1,h2=>by
  simp only[jk,jf,vF]at h1 h2;simp only[finsS,liesPs,vF];exact⟨Ph.lies h x h1.1 h2.1,Ph.liess h r h1.2 h2.2⟩
end
theorem unitR_frame(st:SSt)(u:Nat):(st.unitR u).frame=st.frame u:=by
 unfold wZ.frame SSt.unitR SSt.frame;simp only[Vp]
 congr 1
 by_cases c:0 < (st.locals u true).length
 ·rw[if_pos c,if_pos Zo]
 ·rw[if_neg c,if_neg Zo]
structure UnitOk (l:List wZ)(i:Nat)(x:wZ):Prop where
 args:0<=x.args
 locals:0<=x.locals
 outer:0 < i->0<=x.outer/\x.outer < i
 cop:∀r∈x.copied,r.kind=5/\0<=r.index/\∃(o:Nat) (y:wZ),x.outer=(o:Int)/\l[o]? =some y/\r.index < y.frame
 body:liesPs x.frame l.length x.body=true
theorem Ph.unit {st:SSt}(h:Ph st)(hp:Pp st){i:Nat}(hi:i < st.outer.length):UnitOk ((List.range st.outer.length).map st.unitR) i (st.unitR i):=by
 have hb:st.bodies[i]? =some (st.bodies.getD i []):=by
  rw[V5,Zg (by rw[h.wf.bl];exact hi)];rfl
 have hroot:0 < i->0<=st.outer.getD i (-1):=fun h0=>by
  have e:st.outer[i]? =some st.outer[i]:=Zg hi;rw[V5,e];exact hp.ro i _ e h0
 refine⟨by show(0:Int)<=(st.args.getD i 0:Nat);omega,by show(0:Int)<=((st.locals i false).length:Nat);omega,fun h0=>⟨hroot h0,h.wf.lowD i⟩,fun r hr=>?_,?_⟩
 ·obtain⟨t,ht,rfl⟩:=Q9.1 hr;obtain⟨k1,k2,k3,k4,k5,k6⟩:=h.copied_in hi ht;have hlow:=h.wf.lowD i;have hpl:=place_in (st:=st) (u:=(st.outer.getD i (-1)).toNat) (t:=t) (by
   by_cases e:t.1=(st.outer.getD i (-1)).toNat
   ·refine .inl ⟨e,by rw[<- e];exact k6,fun c=>by rw[<- e];exact h.vec_some ht c⟩
   ·rcases k2 with k2|k2
    ·exact absurd k2 e
    ·exact .inr ⟨e,k2⟩)
  refine⟨rfl,hpl.1,(st.outer.getD i (-1)).toNat,st.unitR (st.outer.getD i (-1)).toNat,?_,?_,?_⟩
  ·show st.outer.getD i (-1)=_;omega
  ·rw[Ve,List.getElem?_range Zo];rfl
  ·rw[unitR_frame];exact hpl.2
 ·rw[unitR_frame];have:=h.liess (i:=i) (st.bodies.getD i []) (hp.bd _ (Zv hb)) (h.bd i _ hb);rw[Vp,List.length_range];exact this
end Go.V
namespace Go.V
open Go
structure RootOk (st:SSt)(n:Nat)(args:Nat):Prop where
 ph:Ph st
 first:st.outer[0]? =some (-1)/\st.args[0]? =some args
 bw:Bw st n
 less:st.vars.length<=n/\st.uses.length<=n/\st.outer.length<=n
def cntM(args temps:List ByteArray)(kids:List Nd):Nat:=cntR args temps (jK kids)
theorem all_each(F G:List ByteArray):∀(l:List Nd) st env u,Ph st->u < st.outer.length->EnvOk st env u->Ph (kR F G l st env u).2/\jf (okv (kR F G l st env u).2 u) (kR F G l st env u).1=true:=by
 intro l
 induction l with
 |nil=>intro st env u h hu he;rw[kR];exact⟨h,rfl⟩
 |cons x r ih=>
  intro st env u h hu he;rw[wE];have g1:=(gr_part F G _ x (QW _) st env u).1;obtain⟨h1,h2⟩:=(ph_part F G _ x (QW _) st env u h hu he).1;obtain⟨h3,h4⟩:=ih _ env u h1 (QZ hu g1.outer.length_le) (he.gr g1 h.wf h1.wf hu);exact zD7
theorem all_bw(F G:List ByteArray)(M:Nat):∀(l:List Nd),jK l<=M->∀st env u,Bw st M->Bw (kR F G l st env u).2 M/\PN.ws (kR F G l st env u).1<=2*jK l:=by
 intro l
 induction l with
 |nil=>intro _ st env u h;rw[kR];exact⟨h,QW _⟩
 |cons x r ih=>
  intro hM st env u h;simp only[jK]at hM;rw[wE];obtain⟨h1,h2⟩:=(w_part F G M _ x (QW _) Zo st env u h).1;obtain⟨h3,h4⟩:=ih Zo _ env u h1;refine⟨h3,?_⟩;simp only[PN.ws,jK];omega
theorem all_less(F G:List ByteArray):∀(l:List Nd) st env u,zD st (kR F G l st env u).2 (jK l):=by
 intro l
 induction l with
 |nil=>intro st env u;rw[kR];exact zD.refl st
 |cons x r ih=>
  intro st env u;rw[wE];exact(less_part F G _ x (QW _) st env u).1.trans (ih _ env u)
theorem all_pp(F G:List ByteArray):∀(l:List Nd),(∀y∈l,kO y≠none)->∀st env u,Pp st->Pp (kR F G l st env u).2/\jk (kR F G l st env u).2.outer.length (kR F G l st env u).1=true:=by
 intro l
 induction l with
 |nil=>intro _ st env u h;rw[kR];exact⟨h,rfl⟩
 |cons x r ih=>
  intro hd st env u h;rw[wE];obtain⟨h1,h2⟩:=(pp_part F G _ x (QW _) (hd x Zs) st env u h).1;obtain⟨h3,h4⟩:=ih (fun y hy=>hd y (by simp[hy])) _ env u h1;exact zDG
theorem ph0:Ph st0:=⟨⟨rfl,rfl,fun i o h=>by simp[st0]at h,fun v x h=>by simp[st0]at h,fun q h=>by simp[st0]at h⟩,fun q h=>by simp[st0]at h,fun i l h=>by simp[st0]at h⟩
theorem root_ok(F G args temps:List ByteArray)(kids:List Nd):RootOk (rootS F G args temps kids) (cntM args temps kids) args.length:=by
 unfold rootS;rw[we];have hU:Ph (st0.addU (-1) args.length):=ph0.addU ⟨Zo,Zd⟩;obtain⟨d1,d2⟩:=ph_decl 0 true true 0 args 0 (st0.addU (-1) args.length) [] hU (Nat.zero_lt_one) (fun _=>by show 0+args.length<=args.length;omega) (fun v hv=>by cases hv);obtain⟨f1,f2,f3,f4⟩:=jR 0 true true 0 args 0 (st0.addU (-1) args.length) [];obtain⟨d3,d4⟩:=ph_decl 0 false true 0 temps 0 _ _ d1 (by rw[f1];exact Nat.zero_lt_one) (fun e=>by cases e) d2;obtain⟨f5,f6,f7,f8⟩:=jR 0 false true 0 temps 0 (kN 0 true true 0 args 0 (st0.addU (-1) args.length) []).1 (kN 0 true true 0 args 0 (st0.addU (-1) args.length) []).2;obtain⟨D,hD⟩:∃D,D=inS args temps 0 st0 [] (-1):=⟨_,rfl⟩;have hD1:Ph D.1:=by rw[hD];exact d3
 have hD2:EnvOk D.1 D.2 0:=by rw[hD];exact d4
 have hDo:D.1.outer=[-1]:=by rw[hD];exact f5.trans f1
 have hDa:D.1.args=[args.length]:=by rw[hD];exact f6.trans f2
 have hDb:D.1.bodies=[[]]:=by rw[hD];exact f7.trans f3
 have hDl:zD st0 D.1 (1+(args.length+temps.length)):=by
  rw[hD];exact(less_unit st0 (-1) args.length).trans ((wC _ _ _ _ _ _ _ _).trans (wC _ _ _ _ _ _ _ _))
 rw[<- hD];show RootOk ({(kR F G kids D.1 D.2 0).2 with bodies:=(kR F G kids D.1 D.2 0).2.bodies.set 0 (kR F G kids D.1 D.2 0).1}) _ _;obtain⟨h1,h2⟩:=all_each F G kids D.1 D.2 0 hD1 (by rw[hDo];decide) hD2;have g:=zK F G kids D.1 D.2 0;obtain⟨b1,b2⟩:=all_bw F G (cntM args temps kids) kids (by unfold cntM cntR;omega) D.1 D.2 0 ⟨fun l hl=>by
  rw[hDb,QC]at hl;rw[hl];exact Qf _,fun a ha=>by
  rw[hDa,QC]at ha;rw[ha];unfold cntM cntR;omega⟩
 have hL:=hDl.trans (all_less F G kids D.1 D.2 0);refine⟨h1.body 0 h2,⟨?_,?_⟩,⟨fun l hl=>?_,b1.ar⟩,?_⟩
 ·obtain⟨t,ht⟩:=g.outer;show(kR F G kids D.1 D.2 0).2.outer[0]? =_;rw[<- ht,hDo];rfl
 ·obtain⟨t,ht⟩:=g.args;show(kR F G kids D.1 D.2 0).2.args[0]? =_;rw[<- ht,hDa];rfl
 ·rcases List.mem_or_eq_of_mem_set hl with hl|rfl
  ·exact b1.bd l hl
  ·unfold cntM cntR;omega
 ·obtain⟨l1,l2,l3⟩:=hL;have e1:st0.vars.length=0:=rfl;have e2:st0.uses.length=0:=rfl;have e3:st0.outer.length=0:=rfl;unfold cntM cntR;exact⟨by show(kR F G kids D.1 D.2 0).2.vars.length<=_;omega,by show(kR F G kids D.1 D.2 0).2.uses.length<=_;omega,by show(kR F G kids D.1 D.2 0).2.outer.length<=_;omega⟩
theorem root_pp(F G args temps:List ByteArray)(kids:List Nd)(hk:∀y∈kids,kO y≠none):Pp (rootS F G args temps kids):=by
 unfold rootS;rw[we];obtain⟨f1,f2,f3,f4⟩:=jR 0 true true 0 args 0 (st0.addU (-1) args.length) [];obtain⟨f5,f6,f7,f8⟩:=jR 0 false true 0 temps 0 (kN 0 true true 0 args 0 (st0.addU (-1) args.length) []).1 (kN 0 true true 0 args 0 (st0.addU (-1) args.length) []).2;obtain⟨D,hD⟩:∃D,D=inS args temps 0 st0 [] (-1):=⟨_,rfl⟩;have hDo:D.1.outer=[-1]:=by rw[hD];exact f5.trans f1
 have hDb:D.1.bodies=[[]]:=by rw[hD];exact f7.trans f3
 rw[<- hD];show Pp ({(kR F G kids D.1 D.2 0).2 with bodies:=(kR F G kids D.1 D.2 0).2.bodies.set 0 (kR F G kids D.1 D.2 0).1});obtain⟨h1,h2⟩:=all_pp F G kids hk D.1 D.2 0 ⟨by rw[hDo];decide,fun l hl=>by
  rw[hDb,QC]at hl;rw[hl];rfl,fun i o hi hp=>by
  rw[hDo]at hi;have:=(Vd.1 hi).1;simp only[Vu]at this;omega⟩
 refine⟨h1.pos,fun l hl=>?_,h1.ro⟩;rcases List.mem_or_eq_of_mem_set hl with hl|rfl
 ·exact h1.bd l hl
 ·exact h2
theorem RootOk.copied0 {st:SSt}{n a:Nat}(h:RootOk st n a):st.copied 0=[]:=by
 have h1:=h.first.1
 have hl:=(Vd.1 h1).1;have:st.outer.getD 0 (-1)=-1:=by rw[V5,h1];rfl
 unfold SSt.copied;rw[h.ph.wf.line Zo,this];rfl
end Go.V
namespace Go.V
open Go
instance(s:ByteArray)(l:List ByteArray):Decidable (s∈l):=decidable_of_iff (l.any (fun t=>decide (t=s))=true) (by
 rw[vY];exact⟨fun⟨t,h1,h2⟩=>of_decide_eq_true h2 ▸ h1,fun h=>⟨s,h,Zt rfl⟩⟩)
mutual
def frN(seen out:List ByteArray):Nd->List ByteArray
 |.mk k s _ args temps kids _=>frNs (if k=7 then seen++args++temps else seen) (if(k=2∨k=3)/\zW s=0/\s∉seen/\s∉out then out++[s]else out) kids
def frNs(seen out:List ByteArray):List Nd->List ByteArray
 |[]=>out
 |x::r=>frNs seen (frN seen out x) r
end
end Go.V
namespace Go.V
open Go
end Go.V
namespace Go.V
open Go
section
variable (st:SSt)
end
end Go.V
namespace Go.V
open Go
theorem isSl_addr {w n:Nat}{v:Value}{xs sp:List Value}(h:jC w v n xs sp)(hn:0 < n):∃b o c,v=.slice (some ⟨b,o,none⟩) n c/\n<=c/\∀ys zs,slA v ys zs=kA b o (ys++zs):=by
 cases h with
 |@mk b o _ c _ _ h1 h2 h3=>exact⟨b,o,c,rfl,h3,fun _ _=>rfl⟩
 |nil=>omega
def wH(b:Bool)(rows:List (List Value))(j:Nat):List (List Value):=rows.mapIdx fun i r=>if 1<=i/\i<=j then r.set 9 (.bool b)else r
theorem wk {b:Bool}{rows:List (List Value)}{j i:Nat}{r:List Value}(h:rows[i]? =some r):(wH b rows j)[i]? =some (if 1<=i/\i<=j then r.set 9 (.bool b)else r):=by
 unfold wH;rw[List.getElem?_mapIdx,h];rfl
theorem jz(b:Bool)(rows:List (List Value))(j:Nat):(wH b rows j).length=rows.length:=by unfold wH;simp
theorem setRows_0(b:Bool)(rows:List (List Value)):wH b rows 0=rows:=by
 apply vm;intro i;cases h:rows[i]? with
 |none=>
  rw[Vc]at h|-;rw[jz];exact h
 |some r=>rw[wk h,if_neg Zo]
theorem setRows_w {b:Bool}{rows:List (List Value)}{j w:Nat}(h:∀r∈rows,r.length=w):∀r∈wH b rows j,r.length=w:=by
 intro r hr;obtain⟨i,hi⟩:=Vg hr;cases h0:rows[i]? with
 |none=>
  rw[Vc]at h0;have:=(Vd.1 hi).1;rw[jz]at this;omega
 |some r0=>
  rw[wk h0]at hi;have:=h r0 (Zv h0);rw[<- Qn hi];split
  ·rw[Vt];exact this
  ·exact this
theorem setRows_step {b:Bool}{rows:List (List Value)}{j:Nat}{r:List Value}(h:rows[j+1]? =some r):(wH b rows j).set (j+1) (r.set 9 (.bool b))=wH b rows (j+1):=by
 apply vm;intro i;rw[Vh];by_cases e:j+1=i
 ·subst e;rw[if_pos rfl,if_pos (by rw[jz];exact(Vd.1 h).1),wk h,if_pos Zo]
 ·rw[if_neg e];cases h0:rows[i]? with
  |none=>
   have key:∀m,(wH b rows m)[i]? =none:=fun m=>by
    rw[Vc]at h0|-;rw[jz];exact h0
   rw[key,key]
  |some r0=>
   rw[wk h0,wk h0];by_cases c:1<=i/\i<=j
   ·rw[if_pos c,if_pos Zo]
   ·rw[if_neg c,if_neg Zo]
theorem flat_set {w:Nat}:∀{rows:List (List Value)},(∀r∈rows,r.length=w)->∀{j c:Nat} {r:List Value} {u:Value},rows[j]? =some r->c < w->rows.flatten.set (j*w+c) u=(rows.set j (r.set c u)).flatten:=by
 intro rows
 induction rows with
 |nil=>intro _ j c r u h;simp at h
 |cons x l ih=>
  intro hw j c r u hj hc;have hx:=hw x Zs;cases j with
  |zero=>
   obtain rfl:x=r:=by simpa using hj
   rw[vz,Qg,Qe,List.set_append_left _ _ Zo];rfl
  |succ j=>
   have h2:=ih (fun r hr=>hw r (by simp[hr])) (j:=j) (c:=c) (r:=r) (u:=u) (by simpa using hj) hc;rw[vz,List.set_append_right _ _ (by rw[hx,Nat.succ_mul];omega),hx];have e:(j+1)*w+c - w=j*w+c:=by rw[Nat.succ_mul];omega
   rw[e,h2];rfl
theorem flat_len {w:Nat}:∀{rows:List (List Value)},(∀r∈rows,r.length=w)->rows.flatten.length=rows.length*w:=by
 intro rows
 induction rows with
 |nil=>intro _;simp
 |cons x l ih=>
  intro h;rw[vz,Vj,ih (fun r hr=>h r (by simp[hr])),h x Zs,Vl,Nat.succ_mul];omega
theorem NRd.super {T:List kC}{qs:List Nat}{x:PN}{ws:List Value}(h:NRd T qs x ws)(b:Bool):NRd T qs (x.setSuper b) (ws.set 9 (.bool b)):=by
 cases h with
 |@mk k nm lit refs unit sup kids lv rv vv a c bk o us hl hr hv ok hz ha hm hs=>
  have h5:=hl.len
  match lv,h5,hl with
  |[v1,v2,v3,v4,v5],_,hl=>exact .mk (sup:=b) hl hr hv ok hz ha hm hs
theorem nrows_supers {T:List kC}{qs:List Nat}{l:List PN}{rows:List (List Value)}(h:z9 T qs l rows)(b:Bool):z9 T qs (wR b l) (wH b rows (l.length - 1)):=by
 cases l with
 |nil=>
  have:rows=[]:=vj h.len;subst this;exact z9.nil T qs
 |cons x l=>
  refine⟨?_,setRows_w h.w,fun i y r hy hr=>?_⟩
  ·rw[jz,h.len];simp[wR]
  ·cases h0:rows[i]? with
   |none=>
    rw[Vc]at h0;have:=(Vd.1 hr).1;rw[jz]at this;omega
   |some r0=>
    rw[wk h0]at hr;have hil:=(Vd.1 h0).1;rw[h.len,Vl]at hil;cases i with
    |zero=>
     obtain rfl:x=y:=by simpa[wR]using hy
     rw[if_neg Zo]at hr;rw[<- Qn hr];exact h.rd 0 x r0 rfl h0
    |succ i=>
     rw[if_pos ⟨Zo,by rw[Vl];omega⟩]at hr;rw[<- Qn hr];simp only[wR,V9,Ve]at hy;obtain⟨z,hz,rfl⟩:=Qk.1 hy;exact(h.rd (i+1) z r0 (by simpa using hz) h0).super b
theorem allS_len(F G:List ByteArray):∀(l:List Nd) st env u,(kR F G l st env u).1.length=l.length:=by
 intro l
 induction l with
 |nil=>intro st env u;rw[kR];rfl
 |cons x r ih=>intro st env u;rw[wE];simp only[Vl,ih]
theorem supers_len(b:Bool)(l:List PN):(wR b l).length=l.length:=by cases l <;> simp[wR]
end Go.V
namespace Go.V
open Go
theorem Wf.line_next {st:SSt}(h:Wf st):∀(k u:Nat),u<=st.outer.length->∀x,(st.line u)[k]? =some x->(st.line u)[k+1]? =if st.outer.getD x (-1) < 0 then none else some (st.outer.getD x (-1)).toNat:=by
 intro k
 induction k with
 |zero=>
  intro u hu x hx;have hl:=h.lowD u;rw[h.line hu]at hx|-;obtain rfl:u=x:=by simpa using hx
  rw[V9];split
  ·rfl
  ·rw[h.line Zo];rfl
 |succ k ih=>
  intro u hu x hx;have hl:=h.lowD u;rw[h.line hu]at hx|-;rw[V9]at hx|-;split at hx
  ·simp at hx
  ·rename_i c;rw[if_neg c];exact ih _ Zo x hx
theorem Wf.line_lt {st:SSt}(h:Wf st){u:Nat}(hu:u < st.outer.length):∀w∈st.line u,w < st.outer.length:=fun w hw=>by
 have:=h.line_le u Zo w hw;omega
def SSt.around(st:SSt)(u:Nat):List Nat:=(st.line u).drop 1
def curQ(U:List UC)(l:List Nat)(d:Nat):Value:=match l[d]? with|some x=>kE (qU U x)|none=>.pointer none
theorem around_get(st:SSt)(u d:Nat):(st.around u)[d]? =(st.line u)[d+1]?:=by
 unfold SSt.around;rw[Va,Nat.add_comm]
theorem qU_get {U:List UC}{x:Nat}{w:UC}(h:U[x]? =some w):qU U x=w.q:=by unfold qU;rw[h];rfl
theorem RepL.outerQ {st:SSt}{L:Nat}{U:List UC}{V:List VCl}(h:RepL st L U V){i:Nat}{u:UC}(hu:U[i]? =some u):kK u.outer=curQ U (st.around i) 0:=by
 have hil:i < st.outer.length:=by have:=(Vd.1 hu).1;rw[h.ul]at this;exact this
 have hlow:=h.wf.lowD i;have h0:(st.line i)[0]? =some i:=by rw[h.wf.line Zo];rfl
 have hn:=h.wf.line_next 0 i Zo i h0;rw[h.ou i u hu];unfold curQ;rw[around_get,hn];by_cases c:st.outer.getD i (-1) < 0
 ·rw[if_pos c,if_pos c];rfl
 ·rw[if_neg c,if_neg c];obtain⟨w,hw⟩:∃w,U[(st.outer.getD i (-1)).toNat]? =some w:=⟨_,Zg (by rw[h.ul];omega)⟩;rw[hw];simp only[qU_get hw];rfl
theorem RepL.outerN {st:SSt}{L:Nat}{U:List UC}{V:List VCl}(h:RepL st L U V){i d x:Nat}{w:UC}(hi:i < st.outer.length)(hd:(st.around i)[d]? =some x)(hw:U[x]? =some w):kK w.outer=curQ U (st.around i) (d+1):=by
 rw[around_get]at hd;have hn:=h.wf.line_next (d+1) i Zo x hd;have hxl:=h.wf.line_lt hi x (Zv hd);have hlow:=h.wf.lowD x;rw[h.ou x w hw];unfold curQ;rw[around_get,hn];by_cases c:st.outer.getD x (-1) < 0
 ·rw[if_pos c,if_pos c];rfl
 ·rw[if_neg c,if_neg c];obtain⟨w',hw'⟩:∃w',U[(st.outer.getD x (-1)).toNat]? =some w':=⟨_,Zg (by rw[h.ul];omega)⟩;rw[hw'];simp only[qU_get hw'];rfl
theorem upsO_len(o:List Int):∀n u,(upsO o n u).length<=n:=by
 intro n
 induction n with
 |zero=>intro u;simp[upsO]
 |succ n ih=>
  intro u;simp only[upsO];split
  ·simp
  ·have:=ih (o.getD u.toNat (-1));rw[Vl];omega
theorem around_len(st:SSt)(u:Nat):(st.around u).length<=st.outer.length:=by
 have:=upsO_len st.outer (st.outer.length+1) u;unfold SSt.around SSt.line;rw[Vm];omega
def SSt.copK(st:SSt)(u k:Nat):List (Nat×Int):=((st.around u).reverse.take k).flatMap fun o=>(st.things o).filter (st.need u)
theorem copK_all(st:SSt)(u:Nat){k:Nat}(h:(st.around u).length<=k):st.copK u k=st.copied u:=by
 unfold SSt.copK SSt.copied SSt.around;rw[QR (by rw[List.length_reverse];exact h)]
theorem copK_succ(st:SSt){u k o:Nat}(h:(st.around u).reverse[k]? =some o):st.copK u (k+1)=st.copK u k++(st.things o).filter (st.need u):=by
 unfold SSt.copK;have hl:=(Vd.1 h).1;rw[QO,h];simp
theorem things_get(st:SSt){o m:Nat}(h:m < st.args.getD o 0+1):(st.things o)[m]? =some (o,(m:Int) - 1):=by
 unfold SSt.things;rw[Ve,List.getElem?_range h];rfl
theorem things_len(st:SSt)(o:Nat):(st.things o).length=st.args.getD o 0+1:=by unfold SSt.things;simp
theorem filt_succ {α:Type}{l:List α}{p:α->Bool}{m:Nat}{x:α}(h:l[m]? =some x):(l.take (m+1)).filter p=(l.take m).filter p++(if p x=true then [x]else []):=by
 rw[QO,h,vp];simp only[Option.toList_some]
 congr 1
 by_cases c:p x=true
 ·rw[if_pos c,vq,if_pos c];rfl
 ·rw[if_neg c,vq,if_neg c];rfl
theorem copied_len {st:SSt}{u M:Nat}(h:∀j,st.args.getD j 0<=M):(st.copied u).length<=(st.around u).length*(M+1):=by
 have key:∀l:List Nat,(l.flatMap fun o=>(st.things o).filter (st.need u)).length<=l.length*(M+1):=by
  exact zBY
 have:=key (st.around u).reverse;rw[List.length_reverse]at this;exact this
theorem copK_len {st:SSt}{u M k:Nat}(h:∀j,st.args.getD j 0<=M):(st.copK u k).length<=(st.around u).length*(M+1):=by
 have key:∀l:List Nat,(l.flatMap fun o=>(st.things o).filter (st.need u)).length<=l.length*(M+1):=by
  exact zBY
 have h1:=key ((st.around u).reverse.take k);have h2:((st.around u).reverse.take k).length<=(st.around u).length:=by
  have:=List.length_take_le' k (st.around u).reverse;rw[List.length_reverse]at this;exact this
 exact QY h1 (Qc _ h2)
theorem flat_focus2 {α β:Type}(f:α->List β){l:List α}{i:Nat}{x:α}(h:l[i]? =some x):∃R,(∀y,((l.set i y).flatMap f).Perm (f y++R))/\∀(k:Nat) z,k≠i->l[k]? =some z->∀a∈f z,a∈R:=by
 induction l generalizing i with
 |nil=>simp at h
 |cons a l ih=>
  cases i with
  |zero=>
   refine⟨l.flatMap f,fun y=>by simp,fun k z hk hz b hb=>?_⟩;cases k with
   |zero=>exact absurd rfl hk
   |succ k=>exact Q8.2 ⟨z,Zv (by simpa using hz),hb⟩
  |succ i=>
   obtain⟨R,hR,hm⟩:=ih (i:=i) (by simpa using h);refine⟨f a++R,fun y=>?_,fun k z hk hz b hb=>?_⟩
   ·simp only[List.set_cons_succ,List.flatMap_cons];refine(vU _ (hR y)).trans ?_;exact zAS
   ·cases k with
    |zero=>
     obtain rfl:a=z:=by simpa using hz
     exact Zw _ hb
    |succ k=>exact Q3 _ (hm k z Zo (by simpa using hz) b hb)
theorem wk_cop2 {U:List UC}{V:List VCl}{i:Nat}{u:UC}(hu:U[i]? =some u):∃R,(WK U V).Perm ([.obj u.nb (.map u.es u.cl)]++(kA u.q 7 [u.cv]++(slA u.cv (u.cop.flatMap jN) u.csp++R)))/\
 (∀c' v' p',(WK (U.set i {u with cop:=c',cv:=v',csp:=p'}) V).Perm ([.obj u.nb (.map u.es u.cl)]++(kA u.q 7 [v']++(slA v' (c'.flatMap jN) p'++R))))/\
 (∀(k:Nat) z,k≠i->U[k]? =some z->∀a∈z.atoms,a∈R)/\kC.own u.q 9∈R/\∀a∈kA u.q 0 [.int .i64 u.args,.int .i64 u.locals,.int .i64 u.vector,kK u.outer,.int .i64 u.num,u.tv,.map (some u.nb)],a∈R:=by
 obtain⟨RU,h1,hm⟩:=flat_focus2 UC.atoms hu;obtain⟨X,hX⟩:∃X,X=(kC.own u.q 9::(kA u.q 0 [.int .i64 u.args,.int .i64 u.locals,.int .i64 u.vector,kK u.outer,.int .i64 u.num,u.tv,.map (some u.nb)]++(kA u.q 8 [u.body]++slA u.tv (u.temps.map fun b=>kK (some b)) u.tsp))):=⟨_,rfl⟩;have hA:∀c' v' p',({u with cop:=c',cv:=v',csp:=p'}:UC).atoms.Perm (([.obj u.nb (.map u.es u.cl)]++(kA u.q 7 [v']++slA v' (c'.flatMap jN) p'))++X):=fun c' v' p'=>by
  unfold UC.atoms UC.row;rw[hX];have e:kA u.q 0 [.int .i64 u.args,.int .i64 u.locals,.int .i64 u.vector,kK u.outer,.int .i64 u.num,u.tv,.map (some u.nb),v',u.body]=kA u.q 0 [.int .i64 u.args,.int .i64 u.locals,.int .i64 u.vector,kK u.outer,.int .i64 u.num,u.tv,.map (some u.nb)]++(kA u.q 7 [v']++kA u.q 8 [u.body]):=rfl;simp only;rw[e];generalize kA u.q 0 [.int .i64 u.args,.int .i64 u.locals,.int .i64 u.vector,kK u.outer,.int .i64 u.num,u.tv,.map (some u.nb)]=A;generalize kA u.q 7 [v']=B;generalize kA u.q 8 [u.body]=C;generalize slA u.tv (u.temps.map fun b=>kK (some b)) u.tsp=D;generalize slA v' (c'.flatMap jN) p'=E;generalize kC.obj u.nb (.map u.es u.cl)=o;generalize kC.own u.q 9=w;simp only[vZ,vf];have k1:(A++(B++(C++(D++(E++[o]))))).Perm (o::(B++(E++(A++(C++D))))):=by
   refine List.Perm.trans (l₂:=(A++(B++(C++(D++E))))++[o]) (by simp only[vZ];exact vW _) ?_;refine QH.trans (List.Perm.cons o ?_);refine(QI A B _).trans (vU _ ?_);refine List.Perm.trans (l₂:=(A++(C++D))++E) (by simp only[vZ];exact vW _) ?_;exact QH
  refine(List.Perm.cons w k1).trans ?_;refine(List.Perm.swap _ _ _).trans (List.Perm.cons o ?_);refine List.Perm.trans (l₂:=[w]++(B++(E++(A++(C++D))))) (vW _) ?_;refine(QI _ B _).trans (vU _ ?_);exact(QI _ E _)
 have key:∀c' v' p',(WK (U.set i {u with cop:=c',cv:=v',csp:=p'}) V).Perm ([.obj u.nb (.map u.es u.cl)]++(kA u.q 7 [v']++(slA v' (c'.flatMap jN) p'++(X++(RU++V.flatMap VCl.atoms))))):=fun c' v' p'=>by
  unfold WK;refine(vV _ ((h1 _).trans (vV _ (hA c' v' p')))).trans ?_;simp only[vZ];exact vW _
 refine⟨X++(RU++V.flatMap VCl.atoms),?_,key,fun k z hk hz a ha=>Q3 _ (Zw _ (hm k z hk hz a ha)),Zw _ (by rw[hX];exact Q6 ..),fun a ha=>Zw _ (by rw[hX];exact Q5 _ (Zw _ ha))⟩;have:=key u.cop u.cv u.csp;have e1:U.set i {u with cop:=u.cop,cv:=u.cv,csp:=u.csp}=U:=wi hu
 rwa [e1]at this
theorem cntT_step(st:SSt){l:List Nat}{j v:Nat}(h:l[j]? =some v)(r:Bool):zc st (l.take (j+1)) r=zc st (l.take j) r+(if st.rem v=r then 1 else 0):=by
 unfold zc;rw[filt_succ h,Vj];by_cases c:st.rem v=r
 ·rw[if_pos (Zt c),if_pos c];rfl
 ·rw[if_neg (by simpa using c),if_neg c];rfl
section
variable {P:Program} {n:Nat} {Γ:Env} {H:SH} {Z:List PanicEntry->Env->SH->Prop} {K:Env->SH->Prop} {rs:List RO} {d:Option Nat}
theorem st_mlenth {m:Operand}{b c:Nat}{es:Array MapEntry}{l:List ((Nat×Int)×Int)}(hm:ev Γ m=some (.map (some b)))(ho:HasO H b (.map es c))(hl:ThM es.toList l)
 (h:VO P n rs (putE d (.int .i64 l.length) Γ) H Z K):VO P n (⟨d,none,.mlen m⟩::rs) Γ H Z K:=by
 refine VO.read rfl rfl (fun ρ hρ=>⟨_,rfl,fun F w hs=>?_⟩) h;rw[hρ _ _ hm];have hg:=run_getObj_of (P:=P) ho.mem hs;have hlen:es.size=l.length:=by
  have:=congrArg List.length hl;simpa using this
 simp[jy,hg,hlen]
end
end Go.V
namespace Go.Proofs.YtijnokbblmbpkaaGreatDoor
open Go Go.V
set_option maxHeartbeats 3200000
set_option maxRecDepth 100000
noncomputable def thF0:Field:=((Tryz.prog.fieldsOf 217)[0]?).getD default
noncomputable def thF1:Field:=((Tryz.prog.fieldsOf 217)[1]?).getD default
noncomputable def i206:TypeInfo:=(Tryz.prog.info? 206).getD default
noncomputable def i3:TypeInfo:=(Tryz.prog.info? 3).getD default
theorem thP:ThP Tryz.prog 217 199 206:=
 ⟨⟨thF0,thF1,by kernel_rfl,by kernel_rfl,by kernel_rfl,by decide+kernel,by decide+kernel,by kernel_rfl,by kernel_rfl⟩,⟨i206,by kernel_rfl,by decide+kernel⟩,by kernel_rfl,by kernel_rfl,⟨3,i3,by kernel_rfl,by kernel_rfl,by kernel_rfl⟩⟩
theorem u124:Tryz.prog.underlying 124=some (.pointer 206):=by kernel_rfl
theorem i206_eq:Tryz.prog.info? 206=some i206:=by kernel_rfl
theorem i206_ne:i206.size≠0:=by decide+kernel
theorem used_spec(st:SSt)(U:List UC)(Vs:List VCl)(hR:RepS st U Vs)(i v:Nat)(u:UC)(y:VCl)(hu:U[i]? =some u)(hy:Vs[v]? =some y)(hl:st.unitOf v∈st.line i)(hb:st.uses.length < 1073741824):
 Fun Tryz.prog 232 [kE u.q,kE y.q] [WK U Vs] (fun r Post=>∃U' Vs',(r=.tuple #[]/\RepS (st.use i v) U' Vs'/\U'.map UC.q=U.map UC.q/\U'.map UC.body=U.map UC.body/\Vs'.map VCl.q=Vs.map VCl.q)/\Post=[WK U' Vs']):=by
 have hwf:=hR.wf;have hil:i < st.outer.length:=by have:=(Vd.1 hu).1;rw[hR.ul]at this;exact this
 have hvl:v < st.vars.length:=by have:=(Vd.1 hy).1;rw[hR.vl]at this;exact this
 obtain⟨x,hx⟩:∃x,st.vars[v]? =some x:=⟨_,Zg hvl⟩;have huo:st.unitOf v=x.unit:=by unfold SSt.unitOf;rw[hx];rfl
 have hoo:st.ownOf v=x.own:=by unfold SSt.ownOf;rw[hx];rfl
 obtain⟨⟨w,hw,hyw⟩,hya,hyf,hyr,hys⟩:=hR.vn v x y hx hy;have hown:=(hwf.vu v x hx).2;have hq1:w.q=u.q->x.unit=i:=fun e=>RepG.q_inj hR hw hu e
 have hly:wF (WK U Vs) w.q:=wk_lies hw;have hlu:wF (WK U Vs) u.q:=wk_lies hu;have m0:kC.cell y.q 0 (kE w.q)∈WK U Vs:=wk_memv hy _ (kI.2 ⟨0,_,by unfold VCl.row;rw[hyw];rfl,rfl⟩);have m1:kC.cell y.q 1 (.int .i64 x.own)∈WK U Vs:=wk_memv hy _ (kI.2 ⟨1,_,by unfold VCl.row;rw[hya];rfl,rfl⟩);refine Fun.intro low232 (by simp[n232]) ?_;generalize hB:WK U Vs=B at hly hlu m0 m1|-;refine GOH ?_;refine st_eqp u124 i206_eq i206_ne Zr Zr (hlu.more Zs) (hly.more Zs) ?_;refine GOH ?_;by_cases he:u.q=w.q
 ·rw[Zt he];refine GOH ?_;refine kG (Post:=[B]) (.inr rfl) .nil ⟨U,Vs,⟨rfl,?_,rfl,rfl,rfl⟩,by rw[hB]⟩ ZI;have e1:i=st.unitOf v:=by rw[huo];exact(hq1 he.symm).symm
  refine RepG.congr (hR.useS hil hvl) (fun j t=>?_) (fun k=>?_) (fun k=>?_)
  ·rw[need_use,hwf.way_here Zo e1];simp
  ·rw[rem_use];by_cases e:v=k
   ·subst e;simp[<- e1]
   ·simp[e]
  ·show st.uses.length<=(st.uses++[(i,v)]).length;rw[Vj];omega
 rw[Zf he];refine GOH ?_;have hne:i≠st.unitOf v:=fun e=>he (by
  rw[huo]at e;rw[<- e,hu]at hw;rw[Qn hw])
 have hrem:∀k,(st.use i v).rem k=(st.rem k||(decide (v=k)&&decide (x.own < 0))):=fun k=>by
  rw[rem_use];by_cases e:v=k
  ·subst e;rw[hoo,show decide (st.unitOf v≠i)=true from Zt (fun e=>hne e.symm),Bool.and_true]
  ·simp[e]
 by_cases ho:x.own < 0
 ·rw[show decide (x.own < 0)=true from Zt ho];obtain⟨R,hp,hr⟩:=wk_remote (U:=U) hy;rw[<- hB];refine VC.imp (H:=[WK U Vs]) (H':=[kA y.q 3 [.bool y.remote],R]) (Imp.perm (by simpa using hp)) ?_;refine GOH ?_;obtain⟨Vs2,hVs2⟩:∃Vs2,Vs2=Vs.set v {y with remote:=true}:=⟨_,rfl⟩;refine VC.imp (H':=[WK U Vs2]) (Imp.perm (by rw[hVs2];simpa using(hr true).symm)) ?_;have hy2:Vs2[v]? =some {y with remote:=true}:=by rw[hVs2,Vh];simp[(Vd.1 hy).1]
  obtain⟨y2,hy2,hyq2,hyu2,hya2⟩:∃y2,Vs2[v]? =some y2/\y2.q=y.q/\y2.unit=y.unit/\y2.arg=y.arg:=⟨_,hy2,rfl,rfl,rfl⟩;have hvq2:Vs2.map VCl.q=Vs.map VCl.q:=by
   rw[hVs2,List.map_set];exact wi (by rw[Ve,hy];rfl)
  obtain⟨rf2,hrf2⟩:∃rf2:Nat->Bool,rf2=fun k=>st.rem k||decide (v=k):=⟨_,rfl⟩
  have hrem2:∀k,(st.use i v).rem k=rf2 k:=fun k=>by rw[hrem,hrf2];simp[ho]
  have hR2:RepG st (doneF st v []) rf2 (fun k=>st.uses.length+(if k∈([]:List Nat)then 1 else 0)) U Vs2:=by
   rw[hVs2,hrf2];exact(RepG.far hR hy).congr (fun k t=>doneF_nil st v k t) (fun k=>rfl) (fun k=>by simp)
  clear hVs2 hrf2 hr;exact zA0
 ·rw[show decide (x.own < 0)=false from Zf ho];refine GOH ?_;obtain⟨Vs2,hVs2⟩:∃Vs2,Vs2=Vs:=⟨_,rfl⟩;rw[<- hB];refine VC.imp (H':=[WK U Vs2]) (Imp.perm (by rw[hVs2])) ?_;obtain⟨y2,hy2,hyq2,hyu2,hya2⟩:∃y2,Vs2[v]? =some y2/\y2.q=y.q/\y2.unit=y.unit/\y2.arg=y.arg:=⟨_,by rw[hVs2];exact hy,rfl,rfl,rfl⟩;have hvq2:Vs2.map VCl.q=Vs.map VCl.q:=by rw[hVs2]
  obtain⟨rf2,hrf2⟩:∃rf2:Nat->Bool,rf2=st.rem:=⟨_,rfl⟩;have hrem2:∀k,(st.use i v).rem k=rf2 k:=fun k=>by rw[hrem,hrf2];simp[ho]
  have hR2:RepG st (doneF st v []) rf2 (fun k=>st.uses.length+(if k∈([]:List Nat)then 1 else 0)) U Vs2:=by
   rw[hVs2,hrf2];exact RepG.congr hR (fun k t=>doneF_nil st v k t) (fun k=>rfl) (fun k=>by simp)
  clear hVs2 hrf2;exact zA0
end Go.Proofs.YtijnokbblmbpkaaGreatDoor
namespace Go.Proofs.YtijnokbblmbpkaaGreatDoor
open Go Go.V
set_option maxHeartbeats 3200000
set_option maxRecDepth 100000
def revL(l:List Nat):List (Nat×Nat):=(List.range l.length).reverse.map fun i=>(i,l.getD i 0)
theorem revL_len(l:List Nat):(revL l).length=l.length:=by unfold revL;simp
theorem revL_get {l:List Nat}{d k:Nat}(h:d+k+1=l.length):(revL l)[d]? =some (k,l.getD k 0):=by
 unfold revL;rw[Ve,List.getElem?_reverse (by rw[List.length_range];omega),List.length_range,List.getElem?_range Zo];have e:l.length - 1 - d=k:=by omega
 rw[e];rfl
theorem back_iter(q:Nat)(l:List Nat)(v:Value)(L:List kC)(hL:wK L v l)(hl:l.length < 1073741824):
 Iter Tryz.prog (.func (.func 210) #[] #[kE q]) (fun x:Nat×Nat=>[vi x.1,kE x.2]) [kA q 0 [v],L] [] (fun full=>full=revL l):=by
 intro y J SP hy A hA;obtain⟨a,c,rfl,hp⟩:=hL;refine FunV.of_fun (first:=#[]) (cap:=#[kE q]) ?_;show Fun Tryz.prog 210 [y,kE q] _ _;refine Fun.intro low210 (by simp[n210]) ?_;simp only[CNx];refine GOH ?_;refine VC.loop (α:=Nat×List kC) (Γf:=fun s=>[(0,y),(1,kE q),(3,.int .i64 ((l.length:Int) - 1 - s.1))]) (Hf:=fun s=>[kA q 0 [.slice a l.length c],L,s.2]) (I:=fun s=>s.1<=l.length/\J ((revL l).take s.1) s.2) (μ:=fun s=>l.length - s.1) (0,A) ⟨Qf _,by simpa using hA⟩ (by simp only[Int.natCast_zero,Int.sub_zero];exact SUx) ZI ?_
 rintro⟨d,A1⟩ ⟨hd,hJ⟩
 simp only at hd hJ;dsimp only;refine GOH ?_;by_cases hlt:d < l.length;rotate_left
 ·rw[show decide ((0:Int)<=(l.length:Int) - 1 - (d:Int))=false from Zf Zo];refine GOH ?_;have hfull:(revL l).take d=revL l:=QR (by rw[revL_len];omega);rw[hfull]at hJ;exact kG (Post:=[A1]) (.inl rfl) .nil ⟨rfl,.inl ⟨revL l,A1,rfl,hJ,rfl⟩⟩ ZI
 obtain⟨k,hk⟩:∃k,d+k+1=l.length:=⟨l.length - 1 - d,Zo⟩;have hke:(l.length:Int) - 1 - (d:Int)=(k:Int):=by omega
 rw[hke];rw[show decide ((0:Int)<=(k:Int))=true from Zt Zo];have hg:=revL_get hk;obtain⟨x,hx⟩:∃x,l[k]? =some x:=⟨_,Zg Zo⟩;obtain⟨b,o,rfl,hc⟩:=hp k x hx;have hgx:l.getD k 0=x:=by rw[V5,hx];rfl
 rw[hgx]at hg;have hcc:kC.cell b (o+k) (kE x)∈L:=hc;refine GOH ?_;have hok:OkC (fun full=>full=revL l) ((revL l).take d++[(k,x)]):=⟨(revL l).drop (d+1),by
  have hdl:d < (revL l).length:=by rw[revL_len];exact hlt
  have e:=(Vd.1 hg).2;rw[vZ,List.singleton_append,<- e,<- vh hdl,QP]⟩
 refine st_callV Zr (hy ((revL l).take d) (k,x) A1 hok hJ) Zr ZP (fun v Post hv=>?_);rcases hv with⟨rfl,A',hA',rfl⟩|⟨rfl,B',hB',rfl⟩
 ·simp only[CNx];refine GOH ?_;have ht:(revL l).take (d+1)=(revL l).take d++[(k,x)]:=by rw[QO,hg];rfl
  refine⟨(d+1,A'),⟨by show d+1<=l.length;omega,by simp only[ht];exact hA'⟩,by simp only;omega,by simp only;rw[show(l.length:Int) - 1 - ((d+1:Nat):Int)=(k:Int) - 1 by omega];exact SUx,ZI⟩
 ·exact zDM
theorem back_spec(v:Value)(L:List kC)(hv:v.cells.toList=[v]):Fun Tryz.prog 173 [v] [L] (fun r Post=>∃q,r=.func (.func 210) #[] #[kE q]/\Post=[kA q 0 [v],L]):=by
 refine Fun.intro low173 (by simp[n173]) ?_;refine GOH ?_;refine kd Zr (fun q=>?_);rw[hv];refine GOH ?_;exact kG (Post:=[kA q 0 [v],L]) (.inr rfl) (.tmp Zr .nil) ⟨q,rfl,rfl⟩ ZI
end Go.Proofs.YtijnokbblmbpkaaGreatDoor
