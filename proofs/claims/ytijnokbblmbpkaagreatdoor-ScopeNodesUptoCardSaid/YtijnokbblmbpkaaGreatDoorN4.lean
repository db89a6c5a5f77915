/-
  The orders that a region's edges allow; a region that draws its order, walked in the orders that matter.
-/
import Derived.Test.YtijnokbblmbpkaaGreatDoorN3
set_option linter.all false
namespace Go.V
open Go
def Jk(l:List Nat)(x y:Nat):Prop:=x∈l/\y∈l/\l.idxOf x < l.idxOf y
theorem dE {a x:Nat}{l:List Nat}(h:a≠x):List.idxOf x (a::l)=List.idxOf x l+1:=by
 rw[List.idxOf_cons,show(a==x)=false from beq_eq_false_iff_ne.2 h];rfl
theorem Jk.trans {l:List Nat}{x y z:Nat}(h:Jk l x y)(k:Jk l y z):Jk l x z:=⟨h.1,k.2.1,Nat.lt_trans h.2.2 k.2.2⟩
theorem Jk.sub {x y:Nat}:∀{l:List Nat},Jk l x y->[x,y].Sublist l:=by
 intro l
 induction l with
 |nil=>rintro⟨h,_⟩;simp at h
 |cons a l ih=>
  rintro⟨h1,h2,h3⟩
  by_cases ex:a=x
  ·subst ex;refine List.Sublist.cons_cons _ (List.singleton_sublist.2 ?_);rcases Q9.1 h2 with rfl|h
   ·simp at h3
   ·exact h
  ·refine List.Sublist.cons _ (ih ?_);have hx:x∈l:=by rcases Q9.1 h1 with rfl|h;exact absurd rfl ex;exact h
   have ey:a≠y:=by
    rintro rfl
    simp[List.idxOf_cons]at h3
   have hy:y∈l:=by rcases Q9.1 h2 with rfl|h;exact absurd rfl ey;exact h
   refine⟨hx,hy,?_⟩;rw[dE ex,dE ey]at h3;omega
theorem uD {x y:Nat}:∀{l:List Nat},l.Nodup->[x,y].Sublist l->Jk l x y:=by
 intro l
 induction l with
 |nil=>intro _ h;cases h
 |cons a l ih=>
  intro hn h;have JX:=QL.1 hn;cases h with
  |cons _ h=>
   obtain⟨h1,h2,h3⟩:=ih JX.2 h;have ex:a≠x:=by rintro rfl;exact JX.1 h1
   have ey:a≠y:=by rintro rfl;exact JX.1 h2
   exact⟨by simp[h1],by simp[h2],by rw[dE ex,dE ey];omega⟩
  |cons_cons _ h=>
   have hy:y∈l:=List.singleton_sublist.1 h;have ey:x≠y:=by rintro rfl;exact JX.1 hy
   exact⟨Zs,by simp[hy],by rw[dE ey];simp⟩
section
variable {ops:Array Oper}
def jX(ops:Array Oper)(gf t:Nat)(listed:Array Bool):List Nat:=Region.linearise.go .any ops gf t listed []
theorem IX(gf t:Nat)(listed:Array Bool):jX ops (gf+1) t listed=
 match(Region.ready .any ops listed)[t % (Region.ready .any ops listed).length]? with
 |some i=>i::jX ops gf (t / (Region.ready .any ops listed).length) (listed.setIfInBounds i true)
 |none=>[]:=by
 unfold jX;simp only[Region.linearise.go];change (match(Region.ready .any ops listed)[t % (Region.ready .any ops listed).length]? with
  |some i=>Region.linearise.go .any ops gf (t / (Region.ready .any ops listed).length) (listed.setIfInBounds i true) [i]
  |none=>[].reverse)=_
 split
 ·rw[linearise_go_acc];simp
 ·simp
def we(ops:Array Oper):Bool:=ops.toList.zipIdx.all fun(o,i)=>o.after.all fun e=>!Region.binds .any e||e.on < i
theorem eS(h:we ops=true){i:Nat}{o:Oper}(ho:ops[i]? =some o){e:Edge}(he:e∈o.after)(hb:Region.binds .any e=true):e.on < i:=by
 simp only[we,vX]at h;have hm:(o,i)∈ops.toList.zipIdx:=by
  rw[List.mem_zipIdx_iff_getElem?];simpa using ho
 have h2:=Array.all_eq_true_iff_forall_mem.1 (h _ hm) e he;simpa[hb]using h2
def om(ops:Array Oper)(listed:Array Bool):List Nat:=(List.range ops.size).filter fun i=>!listed.getD i true
theorem RZ(h:we ops=true){listed:Array Bool}(hs:listed.size=ops.size)(hu:om ops listed≠[]):Region.ready .any ops listed≠[]:=by
 obtain⟨i,hi,hmin⟩:∃i,i∈om ops listed/\∀j,j < i->j∉om ops listed:=by
  obtain⟨k,hk⟩:=List.exists_mem_of_ne_nil _ hu;have:∀n,∀k,k<=n->k∈om ops listed->∃i,i∈om ops listed/\∀j,j < i->j∉om ops listed:=by
   intro n
   induction n with
   |zero=>intro k S9 hk;exact⟨k,hk,fun j hj=>by omega⟩
   |succ n ih=>
    intro k S9 hk;by_cases hex:∃j,j < k/\j∈om ops listed
    ·obtain⟨j,hj,JQ⟩:=hex;exact ih j Zo JQ
    ·exact⟨k,hk,fun j hj JQ=>hex ⟨j,hj,JQ⟩⟩
  exact this k k (Qj _) hk
 intro he;have:i∈Region.ready .any ops listed:=by
  simp only[om,QC,QG,vL]at hi;rw[mem_ready];obtain⟨o,ho⟩:∃o,ops[i]? =some o:=⟨ops[i],by simp[hi.1]⟩;refine⟨hi.2,o,ho,fun e hee hb=>?_⟩;have aI:=eS h ho hee hb;have:=hmin e.on aI;simp only[om,QC,QG,vL,not_and,Bool.not_eq_false]at this;have h2:=this Zo;have oN:e.on < listed.size:=by omega
  simpa[oN]using h2
 rw[he]at this;cases this
theorem zc(hb:we ops=true):∀(gf t:Nat) (listed:Array Bool),listed.size=ops.size->(om ops listed).length<=gf->
 (jX ops gf t listed).Nodup/\(∀i,i∈jX ops gf t listed↔i∈om ops listed)/\
 ∀i∈jX ops gf t listed,∀o,ops[i]? =some o->∀e∈o.after,Region.binds .any e=true->listed.getD e.on false=true∨Jk (jX ops gf t listed) e.on i:=by
 intro gf
 induction gf with
 |zero=>
  intro t listed hs hl;have tF:om ops listed=[]:=List.length_eq_zero_iff.1 Zo;have:jX ops 0 t listed=[]:=by simp[jX,Region.linearise.go]
  rw[this,tF];simp
 |succ gf ih=>
  intro t listed hs hl;rw[IX];cases hr:(Region.ready .any ops listed)[t % (Region.ready .any ops listed).length]? with
  |none=>
   have tF:om ops listed=[]:=by
    by_cases hu:om ops listed=[]
    ·exact hu
    ·have cF:=RZ hb hs hu;have aI:t % (Region.ready .any ops listed).length < (Region.ready .any ops listed).length:=Nat.mod_lt _ (List.length_pos_iff.2 cF);rw[Zg aI]at hr;cases hr
   simp[tF]
  |some i=>
   have hi:=Zv hr;obtain⟨hi0,o,ho,hedge⟩:=mem_ready.1 hi;have bf:i < ops.size:=(v8.1 ho).1;have hiu:i∈om ops listed:=by simp only[om,QC,QG,vL];exact⟨bf,hi0⟩
   have xz:∀j,(listed.setIfInBounds i true).getD j true=if j=i then true else listed.getD j true:=by
    intro j;by_cases e:j=i
    ·subst e;simp[hs,bf]
    ·rw[getD_set_ne true (Ne.symm e)];simp[e]
   have bM:∀j,j∈om ops (listed.setIfInBounds i true)↔j∈om ops listed/\j≠i:=by
    intro j;simp only[om,QC,QG,vL,xz];by_cases e:j=i <;> simp[e]
   have hlen:(om ops (listed.setIfInBounds i true)).length<=gf:=by
    have hp:(om ops (listed.setIfInBounds i true)).Perm ((om ops listed).erase i):=by
     have nd:(om ops listed).Nodup:=QM.filter _;refine(QP (QM.filter _) (nd.erase i)).2 (fun j=>?_);rw[nd.mem_erase_iff];rw[show(j∈List.filter (fun k=>!(listed.setIfInBounds i true).getD k true) (List.range ops.size))↔_ from bM j];exact And.comm
    have:=hp.length_eq;rw[List.length_erase_of_mem hiu]at this;have nR:0 < (om ops listed).length:=List.length_pos_of_mem hiu;omega
   obtain⟨n1,n2,n3⟩:=ih (t / (Region.ready .any ops listed).length) (listed.setIfInBounds i true) (by simp[hs]) hlen;have ε:i∉jX ops gf (t / (Region.ready .any ops listed).length) (listed.setIfInBounds i true):=fun h=>((bM i).1 ((n2 i).1 h)).2 rfl
   refine⟨QL.2 ⟨ε,n1⟩,fun j=>?_,fun j hj o' xw e he S5=>?_⟩
   ·rw[Q9,n2,bM];constructor
    ·rintro(rfl|h);exact hiu;exact h.1
    ·intro h;by_cases e:j=i;exact .inl e;exact .inr ⟨h,e⟩
   ·rcases Q9.1 hj with rfl|JQ
    ·rw[ho]at xw;cases xw;exact .inl (hedge e he S5)
    ·have JR:i≠j:=fun e=>ε (e ▸ JQ)
     rcases n3 j JQ o' xw e he S5 with h|h
     ·by_cases ei:e.on=i
      ·right;exact⟨by simp[ei],by simp[JQ],by rw[ei,dE JR];simp⟩
      ·left;rw[getD_set_ne false (Ne.symm ei)]at h;exact h
     ·right;have ei:i≠e.on:=fun e'=>ε (e' ▸ h.1)
      exact⟨by simp[h.1],by simp[JQ],by rw[dE ei,dE JR];have:=h.2.2;omega⟩
inductive NB (ops:Array Oper):Nat->Nat->Prop where
 |Oi {i:Nat} {o:Oper} {e:Edge}:ops[i]? =some o->e∈o.after->Region.binds .any e=true->NB ops e.on i
 |step {i j:Nat} {o:Oper} {e:Edge}:ops[i]? =some o->e∈o.after->Region.binds .any e=true->NB ops j e.on->NB ops j i
def ry(s:List Nat)(l:List Nat):List Nat:=l.foldl (fun s x=>if s.contains x then s else x::s) s
theorem xS {x:Nat}:∀{l s:List Nat},x∈ry s l->x∈s∨x∈l:=by
 intro l
 induction l with
 |nil=>intro s h;exact .inl h
 |cons a l ih=>
  intro s h;simp only[ry,List.foldl_cons]at h;rcases ih (s:=if s.contains a then s else a::s) h with h|h
  ·split at h
   ·exact .inl h
   ·rcases Q9.1 h with rfl|h
    ·exact .inr Zs
    ·exact .inl h
  ·exact .inr (by simp[h])
def pI(acc:List (List Nat))(o:Oper):List Nat:=
 o.after.toList.foldl (fun s e=>if Region.binds .any e then ry (ry s [e.on]) (acc.getD e.on [])else s) []
def NX:List Oper->List (List Nat)->List (List Nat)
 |[],acc=>acc
 |o::r,acc=>NX r (acc++[pI acc o])
def gD(ops:Array Oper):List (List Nat):=NX ops.toList []
theorem yX {acc:List (List Nat)}{k:Nat}{o:Oper}(ho:ops[k]? =some o)(Ut:∀j x,x∈acc.getD j []->NB ops x j){x:Nat}(hx:x∈pI acc o):NB ops x k:=by
 unfold pI at hx;have:∀(l:List Edge) (s:List Nat),(∀e∈l,e∈o.after)->(∀x∈s,NB ops x k)->∀x∈l.foldl (fun s e=>if Region.binds .any e then ry (ry s [e.on]) (acc.getD e.on [])else s) s,NB ops x k:=by
  intro l
  induction l with
  |nil=>intro s _ hs x hx;exact hs x hx
  |cons e l ih=>
   intro s hl hs x hx;simp only[List.foldl_cons]at hx;refine ih _ (fun e he=>hl e (by simp[he])) (fun y hy=>?_) x hx;split at hy
   ·rename_i hb;rcases xS hy with hy|hy
    ·rcases xS hy with hy|hy
     ·exact hs y hy
     ·rw[QI.1 hy];exact .Oi ho (hl e Zs) hb
    ·exact .step ho (hl e Zs) hb (Ut _ _ hy)
   ·exact hs y hy
 exact this o.after.toList [] (fun e he=>by simpa using he) (fun _ h=>by cases h) x hx
theorem DQ:∀(l:List Oper) (acc:List (List Nat)),(∀j,l[j]? =ops[acc.length+j]?)->(∀j x,x∈acc.getD j []->NB ops x j)->∀j x,x∈(NX l acc).getD j []->NB ops x j:=by
 intro l
 induction l with
 |nil=>intro acc _ h;exact h
 |cons o l ih=>
  intro acc hl Ut;refine ih (acc++[pI acc o]) (fun j=>?_) (fun j x hx=>?_)
  ·have:=hl (j+1);simp only[Vb]at this;rw[this];simp;congr 1;omega
  ·by_cases e:j < acc.length
   ·rw[V8,VV e,<- V8]at hx;exact Ut j x hx
   ·rw[V8,Va Zo]at hx;by_cases e2:j - acc.length=0
    ·rw[e2]at hx;have hj:j=acc.length:=by omega
     subst hj;have h0:=hl 0;simp at h0 hx;exact yX h0.symm Ut hx
    ·have:([pI acc o]:List (List Nat))[j - acc.length]? =none:=by
      rw[Ve];simp;omega
     rw[this]at hx;simp at hx
theorem il {x j:Nat}(h:x∈(gD ops).getD j []):NB ops x j:=DQ ops.toList [] Zs Zs j x h
theorem tT(hb:we ops=true){gf t:Nat}(hf:ops.size<=gf){x y:Nat}(h:NB ops x y):y < ops.size->Jk (jX ops gf t (Array.replicate ops.size false)) x y:=by
 have hu:om ops (Array.replicate ops.size false)=List.range ops.size:=by
  exact zAW
 obtain⟨s1,s2,s3⟩:=zc hb gf t (Array.replicate ops.size false) Zs (by rw[hu];simpa using hf);have Oi:∀{i:Nat} {o:Oper} {e:Edge},ops[i]? =some o->e∈o.after->Region.binds .any e=true->Jk (jX ops gf t (Array.replicate ops.size false)) e.on i:=by
  intro i o e ho he S5;have hi:i < ops.size:=(v8.1 ho).1;rcases s3 i ((s2 i).2 (by rw[hu];simpa using hi)) o ho e he S5 with h|h
  ·have:e.on < ops.size:=Nat.lt_trans (eS hb ho he S5) hi;simp[this]at h
  ·exact h
 induction h with
 |Oi ho he S5=>intro _;exact Oi ho he S5
 |step ho he S5 _ ih=>
  intro hi;exact(ih (Nat.lt_trans (eS hb ho he S5) hi)).trans (Oi ho he S5)
def xE(x:Nat):List Nat->List (List Nat)
 |[]=>[[x]]
 |y::r=>(x::y::r)::(xE x r).map (y::·)
def Fp:List Nat->List (List Nat)
 |[]=>[[]]
 |x::r=>(Fp r).flatMap (xE x)
theorem Ir {x:Nat}(l1 l2:List Nat):l1++x::l2∈xE x (l1++l2):=by
 induction l1 with
 |nil=>cases l2 <;> simp[xE]
 |cons a l1 ih=>simp only[vf,xE,Q9,QE];right;exact⟨_,ih,rfl⟩
theorem rY:∀{d s:List Nat},s.Perm d->s∈Fp d:=by
 intro d
 induction d with
 |nil=>intro s h;rw[List.perm_nil.1 h];simp[Fp]
 |cons x d ih=>
  intro s h;have hx:x∈s:=h.mem_iff.2 Zs;obtain⟨l1,l2,rfl⟩:=List.append_of_mem hx;have:=ih (List.Perm.cons_inv ((QR (a:=x) (l₁:=l1) (l₂:=l2)).symm.trans h));simp only[Fp,QD];exact⟨_,this,Ir l1 l2⟩
def TZ(x y:Nat):List Nat->Bool
 |[]=>false
 |z::r=>if z=x then r.contains y else TZ x y r
theorem N2 {x y:Nat}:∀{l:List Nat},TZ x y l=true->[x,y].Sublist l:=by
 intro l
 induction l with
 |nil=>intro h;cases h
 |cons z r ih=>
  intro h;simp only[TZ]at h;split at h
  ·rename_i e;subst e;exact List.Sublist.cons_cons _ (List.singleton_sublist.2 (by simpa using h))
  ·exact List.Sublist.cons _ (ih h)
def zS(p:Nat->Nat->Bool):List Nat->Bool
 |[]=>true
 |x::r=>r.all (p x)&&zS p r
theorem Ao {p:Nat->Nat->Bool}:∀{l:List Nat},zS p l=true->l.Pairwise fun x y=>p x y=true:=by
 intro l
 induction l with
 |nil=>intro _;exact .nil
 |cons x r ih=>
  intro h;simp only[zS,vF,vX]at h;exact .cons h.1 (ih h.2)
theorem E1 {n:Nat}:∀{o:List Nat},o.Nodup->(∀x∈o,x < n)->o.length=n->∀{x},x < n->x∈o:=by
 induction n with
 |zero=>intro o _ _ _ x hx;omega
 |succ n ih=>
  intro o hn aI hlen x hx;have bM:n∈o:=by
   refine Classical.byContradiction fun bQ=>?_
   have h2:∀x∈o,x < n:=fun y hy=>by
    have:=aI y hy;have:y≠n:=fun e=>bQ (e ▸ hy)
    omega
   have key:∀(m:Nat) (l:List Nat),l.Nodup->(∀y∈l,y < m)->l.length<=m:=by
    intro m
    induction m with
    |zero=>intro l _ h;cases l with|nil=>simp|cons a l=>exact absurd (h a Zs) Zo
    |succ m ihm=>
     intro l hl hb;have:=ihm (l.erase m) (hl.erase m) (fun y hy=>by
      have h1:=hb y (List.mem_of_mem_erase hy);have h2:y≠m:=fun e=>by rw[e]at hy;exact(hl.mem_erase_iff.1 hy).1 rfl
      omega)
     by_cases hm:m∈l
     ·rw[List.length_erase_of_mem hm]at this;omega
     ·rw[List.erase_of_not_mem hm]at this;omega
   have:=key n o hn h2;omega
  by_cases e:x=n
  ·exact e ▸ bM
  ·have:=ih (o:=o.erase n) (hn.erase n) (fun y hy=>by
    have h1:=aI y (List.mem_of_mem_erase hy);have h2:y≠n:=fun e=>by rw[e]at hy;exact(hn.mem_erase_iff.1 hy).1 rfl
    omega) (by rw[List.length_erase_of_mem bM];omega) (x:=x) Zo
   exact List.mem_of_mem_erase this
instance:Inhabited RO:=⟨⟨none,none,.og⟩⟩
def mV(rs:List (RO×Oper))(x y:Nat):Bool:=match rs[x]?,rs[y]? with|some a,some b=>indep b a|_,_=>false
def nodupB:List Nat->Bool
 |[]=>true
 |x::r=>!r.contains x&&nodupB r
theorem sV:∀{l:List Nat},nodupB l=true->l.Nodup:=by
 intro l
 induction l with
 |nil=>intro _;exact .nil
 |cons x r ih=>
  intro h;simp only[nodupB,vF,vL]at h;exact QL.2 ⟨by simpa using h.1,ih h.2⟩
def D8(both:Bool)(rs:List (RO×Oper))(an:List (List Nat))(n:Nat):List Nat:=
 (List.range n).filter fun x=>(List.range n).any fun y=>x !=y&&!(an.getD x []).contains y&&!(an.getD y []).contains x&&!(if both then mV rs x y&&mV rs y x else mV rs x y||mV rs y x)
def eT(both:Bool)(rs:List (RO×Oper))(ops:Array Oper)(orders:List (List Nat)):Bool:=
 let an:=gD ops
 let n:=ops.size
 let d:=D8 both rs an n
 we ops&&nodupB d&&orders.all (fun o=>o.length==n&&nodupB o&&o.all (·< n))&&
 (Fp d).all fun s=>!(zS (fun x y=>!(an.getD x []).contains y) s)||orders.any fun o=>zS (fun x y=>mV rs x y||(an.getD y []).contains x||TZ x y s) o
def oF(rs:List (RO×Oper))(ops:Array Oper)(orders:List (List Nat)):Bool:=eT false rs ops orders||eT true rs ops orders
theorem Jw {both:Bool}{P:Program}{n:Nat}{rs:List (RO×Oper)}{orders:List (List Nat)}{Q:Act->World->Prop}{a:Act}{w:World}(hlen:rs.length=ops.size)(hX:∀(i:Nat) x,rs[i]? =some x->Good P n ops x)
 (hc:eT both rs ops orders=true) (h:∀o∈orders,eK P wD Q (o.map fun i=>rs.getD i default) a w) (t:Nat):
 eK P wD Q ((jX ops ops.size t (Array.replicate ops.size false)).map fun i=>rs.getD i default) a w:=by
 simp only[eT,vF]at hc;obtain⟨⟨⟨hb,hd⟩,ho⟩,hp⟩:=hc;have hu:om ops (Array.replicate ops.size false)=List.range ops.size:=by
  exact zAW
 obtain⟨s1,s2,_⟩:=zc hb ops.size t (Array.replicate ops.size false) Zs (by rw[hu];simp);generalize hl:jX ops ops.size t (Array.replicate ops.size false)=l at s1 s2|-;have Uu:∀{x y:Nat},y < ops.size->x∈(gD ops).getD y []->Jk l x y:=fun hy hx=>hl ▸ tT hb (Qj _) (il hx) hy
 have bM:∀i,i∈l↔i < ops.size:=fun i=>by rw[s2,hu];simp
 generalize S6:D8 both rs (gD ops) ops.size=d at hd hp;have ZT:∀x∈d,x < ops.size:=by
  exact zCR
 have EO:(l.filter (d.contains ·)).Perm d:=by
  exact zBE
 have ap:=vX.1 hp _ (rY EO);simp only[vO,vL,vY]at ap;have EM:zS (fun x y=>!((gD ops).getD x []).contains y) (l.filter (d.contains ·))=true:=by
  exact zAE
 rcases ap with ap|⟨o,Nn,HL⟩
 ·rw[EM]at ap;cases ap
 have xw:=vX.1 ho o Nn;simp only[vF,beq_iff_eq,vX,decide_eq_true_eq]at xw;obtain⟨⟨o1,o2⟩,o3⟩:=xw;have cg:o.Perm l:=by
  exact zAL
 refine reorder (P:=P) (n:=n) (ops:=ops) l o cg s1 (fun i hi=>?_) ?_ (h o Nn)
 ·have bO:=(bM i).1 hi;have:rs[i]? =some (rs.getD i default):=by
   rw[V8];have aI:i < rs.length:=by omega
   simp[aI]
  exact hX i _ this
 ·exact zAQ
theorem cover {P:Program}{n:Nat}{rs:List (RO×Oper)}{orders:List (List Nat)}{Q:Act->World->Prop}{a:Act}{w:World}(hlen:rs.length=ops.size)(hX:∀(i:Nat) x,rs[i]? =some x->Good P n ops x)
 (hc:oF rs ops orders=true) (h:∀o∈orders,eK P wD Q (o.map fun i=>rs.getD i default) a w) (t:Nat):
 eK P wD Q ((jX ops ops.size t (Array.replicate ops.size false)).map fun i=>rs.getD i default) a w:=by
 unfold oF at hc;rcases vP.1 hc with hc|hc
 ·exact Jw hlen hX hc h t
 ·exact Jw hlen hX hc h t
end
abbrev Env:=List (Nat×Value)
abbrev SH:=List (List kB)
def look:Env->Nat->Option Value
 |[],_=>none
 |(s,v)::r,t=>if s=t then some v else look r t
def ev(Γ:Env):Operand->Option Value
 |.tmp t=>look Γ t
 |.const v=>some v
 |.global g=>some (.pointer (some ⟨g,0,none⟩))
 |.func f=>some (.func (.func f) #[] #[])
def gN(Γ:Env):List Operand->Option (List Value)
 |[]=>some []
 |x::r=>match ev Γ x,gN Γ r with
  |some v,some l=>some (v::l)
  |_,_=>none
structure jl (n:Nat)(Γ:Env)(a:Act):Prop where
 size:a.tmps.size=n
 slots:∀t v,look Γ t=some v->a.tmps[t]? =some v
def Sub(Γ Δ:Env):Prop:=∀t v,look Δ t=some v->look Γ t=some v
theorem jl.sub {n:Nat}{Γ Δ:Env}{a:Act}(h:jl n Γ a)(s:Sub Γ Δ):jl n Δ a:=⟨h.size,fun t v e=>h.slots t v (s t v e)⟩
theorem jl.put {n:Nat}{Γ:Env}{a:Act}(h:jl n Γ a){d:Nat}(hd:d < n)(v:Value):jl n ((d,v)::Γ) (a.put (some d) v):=by
 refine⟨by simp[Act.put,h.size],fun t u e=>?_⟩;simp only[look]at e;split at e
 ·rename_i ON;subst ON;cases e;simp[Act.put,h.size,hd]
 ·rename_i cF;simp only[Act.put,vB cF];exact h.slots t u e
theorem jl.ev {n:Nat}{Γ:Env}{a:Act}(h:jl n Γ a){x:Operand}{v:Value}(e:ev Γ x=some v):a.eval x=v:=by
 cases x with
 |tmp t=>simp only[V.ev]at e;simp[Act.eval,Array.getD_eq_getD_getElem?,h.slots t v e]
 |const u=>simpa[V.ev,Act.eval]using e
 |global g=>simpa[V.ev,Act.eval]using e
 |func f=>simpa[V.ev,Act.eval]using e
theorem jl.gN {n:Nat}{Γ:Env}{a:Act}(h:jl n Γ a):∀{l:List Operand} {vs:List Value},gN Γ l=some vs->l.map a.eval=vs:=by
 intro l
 induction l with
 |nil=>intro vs e;simp[V.gN]at e;subst e;rfl
 |cons x r ih=>
  intro vs e;simp only[V.gN]at e;split at e
  ·rename_i v l hv hl;cases e;simp[h.ev hv,ih hl]
  ·cases e
def ak(d:Option Nat)(v:Value)(Γ:Env):Env:=match d with|some d=>(d,v)::Γ|none=>Γ
theorem jl.ak {n:Nat}{Γ:Env}{a:Act}(h:jl n Γ a){d:Option Nat}(hd:∀t,d=some t->t < n)(v:Value):jl n (V.ak d v Γ) (a.put d v):=by
 cases d with
 |none=>exact h
 |some d=>exact h.put (hd d rfl) v
def rp(P:Program)(n:Nat)(rs:List RO)(l:List (RO×Oper)):Prop:=l.map (·.1)=rs/\∀x∈l,∃ops,dJ P n ops x.2=some x.1
theorem jY(a:Act)(d:Option Nat)(v:Value):(a.put d v).defers=a.defers:=by cases d <;> rfl
def VO(P:Program)(n:Nat)(rs:List RO)(Γ:Env)(H:SH)(Z:List PanicEntry->Env->SH->Prop)(K:Env->SH->Prop):Prop:=
 ∀l,rp P n rs l->∀a w F (ZZ:Exit->Act->World->Prop) (Q:Act->World->Prop),jl n Γ a->Sat w (H.flatten++F)->
  (∀a' w' aw H',K aw H'->jl n aw a'->a'.defers=a.defers->Sat w' (H'.flatten++F)->ki w w'->Q a' w')->
  (∀ch a' w' aw H',Z ch aw H'->jl n aw a'->a'.defers=a.defers->Sat w' (H'.flatten++F)->ki w w'->ZZ (.panic ch) a' w')->eK P ZZ Q l a w
def ao(P:Program)(f:Nat)(args:List Value)(bq:SH)(Q:Value->SH->Prop):Prop:=
 jo P f=true/\∀F w,Sat w (bq.flatten++F)->
  Calls P f args.toArray w fun e w'=>∃v Post,e=.returned v/\Q v Post/\Sat w' (Post.flatten++F)/\ki w w'
def cz(H bq R:SH):Prop:=H.flatten.Perm (bq.flatten++R.flatten)
section
variable {P:Program} {n:Nat} {rs:List RO} {Γ Δ:Env} {H:SH} {Z:List PanicEntry->Env->SH->Prop} {K:Env->SH->Prop}
theorem VO.nil(h:K Γ H):VO P n [] Γ H Z K:=by
 intro l hl a w F ZZ Q ha hs hq hz;obtain rfl:l=[]:=by simpa using hl.1
 exact hq a w Γ H h ha rfl hs (.refl w)
theorem VO.sub(s:Sub Γ Δ)(h:VO P n rs Δ H Z K):VO P n rs Γ H Z K:=fun l hl a w F ZZ Q ha hs hq hz=>h l hl a w F ZZ Q (ha.sub s) hs hq hz
theorem VO.perm {H':SH}(p:H.flatten.Perm H'.flatten)(h:VO P n rs Γ H' Z K):VO P n rs Γ H Z K:=fun l hl a w F ZZ Q ha hs hq hz=>h l hl a w F ZZ Q ha (hs.perm (p.append_right F)) hq hz
theorem VO.mono {K':Env->SH->Prop}(h:VO P n rs Γ H Z K)(hk:∀Γ H,K Γ H->K' Γ H):VO P n rs Γ H Z K':=fun l hl a w F ZZ Q ha hs hq hz=>h l hl a w F ZZ Q ha hs (fun a' w' aw H' k=>hq a' w' aw H' (hk _ _ k)) hz
theorem wz {r:RO}{l:List (RO×Oper)}(h:rp P n (r::rs) l):∃o l',l=(r,o)::l'/\rp P n rs l'/\∃ops,dJ P n ops o=some r:=by
 obtain⟨h1,h2⟩:=h;cases l with
 |nil=>simp at h1
 |cons x l=>
  simp at h1;obtain⟨rfl,h1⟩:=h1;exact⟨x.2,l,rfl,⟨h1,fun y hy=>h2 y (by simp[hy])⟩,h2 x Zs⟩
theorem VO.pure {d:Option Nat}{r:R}{v:Value}(hp:kf r=true)(hv:∀ρ:Operand->Value,(∀x u,ev Γ x=some u->ρ x=u)->kR ρ r=some v)(h:VO P n rs (ak d v Γ) H Z K):VO P n (⟨d,none,r⟩::rs) Γ H Z K:=by
 intro l hl a w F ZZ Q ha hs hq hz;obtain⟨o,l',rfl,qZ,ops,ho⟩:=wz hl;obtain⟨g1,g2,g3,g4⟩:=jG ho;show jx P ZZ (_,o) (eK P ZZ Q l') a w;unfold jx;simp only[jD,hp,if_true];exact⟨v,hv a.eval (fun x u e=>ha.ev e),h l' qZ _ w F ZZ Q (ha.ak g3 v) hs (fun a2 w2 cr H2 k1 k2 k3 k4 k5=>hq a2 w2 cr H2 k1 k2 (k3.trans (jY ..)) k4 k5) (fun ch a2 w2 cr H2 k1 k2 k3 k4 k5=>hz ch a2 w2 cr H2 k1 k2 (k3.trans (jY ..)) k4 k5)⟩
theorem VO.read {d:Option Nat}{r:R}{v:Value}(hp:kf r=false)(hr:jE r=true)(hv:∀ρ:Operand->Value,(∀x u,ev Γ x=some u->ρ x=u)->∃s,w7 ρ r=some s/\∀F w,Sat w (H.flatten++F)->s.run P w=.ok (.value v) w)
 (h:VO P n rs (ak d v Γ) H Z K):VO P n (⟨d,none,r⟩::rs) Γ H Z K:=by
 intro l hl a w F ZZ Q ha hs hq hz;obtain⟨o,l',rfl,qZ,ops,ho⟩:=wz hl;obtain⟨g1,g2,g3,g4⟩:=jG ho;show jx P ZZ (_,o) (eK P ZZ Q l') a w;unfold jx;obtain⟨s,h1,h2⟩:=hv a.eval (fun x u e=>ha.ev e);simp only[jD,hp,hr,if_true,vJ,if_false];exact⟨s,v,h1,fun w2 e2=>h2 F w2 (hs.ext e2),h l' qZ _ w F ZZ Q (ha.ak g3 v) hs (fun a2 w2 cr H2 k1 k2 k3 k4 k5=>hq a2 w2 cr H2 k1 k2 (k3.trans (jY ..)) k4 k5) (fun ch a2 w2 cr H2 k1 k2 k3 k4 k5=>hz ch a2 w2 cr H2 k1 k2 (k3.trans (jY ..)) k4 k5)⟩
theorem pL {w:World}(o:Obj):Ext w {w with heap:=w.heap.push o}:=fun i x h=>by
 have hl:=(v8.1 h).1;show(w.heap.push o)[i]? =_;rw[Array.getElem?_push,if_neg (Nat.ne_of_lt hl)];exact h
theorem Ho {w:World}{a:Addr}{n:Nat}(h:w.heap.size<=a.block):∀{w':World},Ext w w'->Ext w (w'.freeze a n):=by
 intro w' e i o hi;have hl:=(v8.1 hi).1;unfold World.freeze;split
 ·exact e _ _ hi
 ·have:=e _ _ hi;simp only[vA,this,if_neg (show ¬a.block=i by omega)]
theorem fO {w w':World}{c:Array Value}{t:TypeId}{f:Nat->Next}{nx:Next}(h:(do let b <- Go.newObj (.cells c t);pure (f b):Sem Next).run P w=.ok nx w'):nx=f w.heap.size/\Ext w w':=by
 simp only[Go.newObj,Sem.run_bind,Sem.run,Sem.run_pure,Result.andThen_ok]at h;cases h;exact⟨rfl,pL _⟩
theorem F8 {w w':World}{t:TypeId}{s:ByteArray}{v:Value}(h:(Conv.stringToBytes t s).run P w=.ok v w'):Ext w w':=by
 unfold Conv.stringToBytes at h;rw[Sem.run_bind]at h;obtain⟨cap,w1,h1,h2⟩:=kw h;have e1:w1.heap=w.heap:=by
  simp only[Go.choose,Sem.run]at h1;split at h1 <;> (cases h1;rfl)
 have x1:Ext w w1:=fun i o e=>by rw[e1];exact e
 refine x1.trans ?_;rw[Sem.run_bind]at h2;obtain⟨a,w2,h3,h4⟩:=kw h2;have X5:a=⟨w1.heap.size,0,none⟩/\w2={w1 with heap:=w1.heap.push (.cells (s.data.map (fun b=>Value.int .u8 b.toNat)++Array.replicate (cap - s.size) (.int .u8 0)) t)}:=by
  simp only[newRow,Go.newObj,Sem.run_bind,Sem.run,Sem.run_pure,Result.andThen_ok]at h3;cases h3;exact⟨rfl,rfl⟩
 obtain⟨rfl,rfl⟩:=X5;rw[Sem.run_bind]at h4;obtain⟨_,w3,h5,h6⟩:=kw h4;rw[Sem.run_pure]at h6;cases h6;unfold markStringish at h5;rw[Sem.run_bind]at h5;simp only[Go.shape,Sem.run,Result.andThen_ok]at h5;split at h5
 ·simp only[Go.freeze,Sem.run]at h5;cases h5;exact Ho (Qj _) (pL _)
 ·rw[Sem.run_pure]at h5;cases h5;exact pL _
theorem CZ {P:Program}{a:Addr}:∀(k i:Nat) (acc:Array Value) (w1:World) (r:Array Value) (w2:World),(loadCellsFrom a i k acc).run P w1=.ok r w2->w2=w1:=by
 exact zBB
theorem oJ {P:Program}{size n:Nat}{x:Value}{w w':World}{c:Array Value}(h:(Builtin.firstCells size n x).run P w=.ok c w'):w'=w:=by
 unfold Builtin.firstCells at h;split at h
 ·exact CZ _ _ _ _ _ _ h
 ·rw[Sem.run_pure]at h;cases h;rfl
 ·rw[Sem.run_pure]at h;cases h;rfl
 ·simp[stuck,Sem.run]at h
theorem PY {ρ:Operand->Value}{r:R}{s:Sem Next}{w w':World}{nx:Next}(aG:∀u,ρ (.const u)=u)(hn:mi r=true)(hs:w7 ρ r=some s)(h:s.run P w=.ok nx w'):∃u,nx=.value u/\Ext w w':=by
 cases r
 case append t size bytes zero sx x=>
  have e:sx=.const Nz :=by
   unfold mi at hn;split at hn <;> first|(rename_i e;cases e;done)|(rename_i e;cases e;rfl)|cases hn
  subst e;simp only[w7,aG,X1]at hs;subst hs;cases hm:cR (ρ x)with
  |none=>rw[hm]at h;simp[stuck,Sem.run]at h
  |some m=>
   rw[hm]at h;simp only at h;split at h
   ·rw[Sem.run_bind]at h;obtain⟨c,w1,h1,h2⟩:=kw h;rw[oJ h1]at h2;simp only[Sem.run_bind,Sem.run_pure,Result.andThen_ok]at h2;cases h2;exact⟨_,rfl,.refl _⟩
   ·split at h
    ·simp[stuck,Sem.run]at h
    ·rw[Sem.run_bind]at h;obtain⟨cap,w1,h1,h2⟩:=kw h;have e1:w1.heap=w.heap:=by
      simp only[Go.choose,Sem.run]at h1;split at h1 <;> (cases h1;rfl)
     have x1:Ext w w1:=fun i o e=>by rw[e1];exact e
     rw[Sem.run_bind]at h2;obtain⟨old,w2,h3,h4⟩:=kw h2;rw[oJ h3]at h4;rw[Sem.run_bind]at h4;obtain⟨new,w3,h5,h6⟩:=kw h4;rw[oJ h5]at h6;obtain⟨rfl,e⟩:=fO h6;exact⟨_,rfl,x1.trans e⟩
 all_goals simp only[mi]at hn
 all_goals first|(cases hn;done)|skip
 all_goals (simp only[w7,X1]at hs;subst hs)
 case alloc=>obtain⟨rfl,e⟩:=fO h;exact⟨_,rfl,e⟩
 case box=>obtain⟨rfl,e⟩:=fO h;exact⟨_,rfl,e⟩
 case lJ=>
  split at h
  ·obtain⟨rfl,e⟩:=fO h;exact⟨_,rfl,e⟩
  ·simp[stuck,Sem.run]at h
 case og=>
  simp only[Go.newObj,Sem.run_bind,Sem.run,Sem.run_pure,Result.andThen_ok]at h;cases h;exact⟨_,rfl,pL _⟩
 case s2b=>
  split at h
  ·rw[Sem.run_bind]at h;obtain⟨v,w1,h1,h2⟩:=kw h;rw[Sem.run_pure]at h2;cases h2;exact⟨_,rfl,F8 h1⟩
  ·simp[stuck,Sem.run]at h
theorem VO.act {d:Option Nat}{r:R}(hp:kf r=false)(hr:jE r=false)
 (hv:∀ρ:Operand->Value,(∀x u,ev Γ x=some u->ρ x=u)->∃s,w7 ρ r=some s/\az P s H.flatten fun nx L=>∃v H',(nx=.value v∨(nx=.skip/\v=undef))/\L.Perm H'.flatten/\VO P n rs (ak d v Γ) H' Z K):
 VO P n (⟨d,none,r⟩::rs) Γ H Z K:=by
 intro l hl a w F ZZ Q ha hs hq hz;obtain⟨o,l',rfl,qZ,ops,ho⟩:=wz hl;obtain⟨g1,g2,g3,g4⟩:=jG ho;show jx P ZZ (_,o) (eK P ZZ Q l') a w;unfold jx;obtain⟨s,h1,h2⟩:=hv a.eval (fun x u e=>ha.ev e);simp only[jD,hp,hr,if_true,vJ,if_false];obtain⟨nx,w',L,bI,⟨v,H',hnx,hL,hvo⟩,DD,hk⟩:=h2 F w hs;have O1:=rZ (zf a) g1 h1 bI;refine⟨fun hn=>?_,?_⟩
 ·obtain⟨u,hu,ZY⟩:=PY (zf a) hn h1 bI;exact⟨u,w',by rw[O1,hu],ZY⟩
 have fin:eK P ZZ Q l' (a.put o.dst v) w':=by
  rw[<- g2];exact hvo l' qZ _ w' F ZZ Q (ha.ak g3 v) (DD.perm (hL.append_right F)) (fun a2 w2 cr H2 k1 k2 k3 k4 k5=>hq a2 w2 cr H2 k1 k2 (k3.trans (jY ..)) k4 (hk.trans k5)) (fun ch a2 w2 cr H2 k1 k2 k3 k4 k5=>hz ch a2 w2 cr H2 k1 k2 (k3.trans (jY ..)) k4 (hk.trans k5))
 rcases hnx with rfl|⟨rfl,rfl⟩
 ·simpa only[yS,O1,jg]using fin
 ·simpa only[yS,O1,jg]using fin
theorem VO.Tv {d:Option Nat}{r:R}(hp:kf r=false)(hr:jE r=false)
 (hv:∀ρ:Operand->Value,(∀x u,ev Γ x=some u->ρ x=u)->∃s,w7 ρ r=some s/\az P s H.flatten fun nx L=>∃v H' X,(nx=.value v∨(nx=.skip/\v=undef))/\L.Perm (List.flatten H'++X)/\VO P n rs (ak d v Γ) H' Z K):
 VO P n (⟨d,none,r⟩::rs) Γ H Z K:=by
 refine VO.act hp hr (fun ρ aG=>?_);obtain⟨s,h1,h2⟩:=hv ρ aG;refine⟨s,h1,fun F w hs=>?_⟩;obtain⟨nx,w',L,k1,⟨v,H',X,k2,k3,k4⟩,k5,k6⟩:=h2 F w hs;refine⟨nx,w',H'.flatten,k1,⟨v,H',k2,.refl _,k4⟩,?_,k6⟩;have:=k5.perm (k3.append_right F);exact zEG
theorem zC {f:Nat}{args:Array Value}{w:World}(h:jo P f=true):(callFunc f args).run P w=.ok (.enter f args) w:=by
 unfold jo at h;split at h
 ·rename_i fn hf;simp only[vF,bne_iff_ne]at h;obtain⟨c,hc⟩:=Qw.1 h.2;simp[callFunc,hf,h.1,hc]
 ·cases h
theorem Kx {o:Oper}{a:Act}{w:World}{f:Nat}{args:List Value}{next:Act->World->Prop}{ZZ:Exit->Act->World->Prop}(he:(execOp a.eval o).run P w=.ok (.enter f args.toArray) w)
 (h:Calls P f args.toArray w fun e w'=>(∃v,e=.returned v/\next (a.put o.dst v) w')∨(∃ch,e=.panicked ch/\ZZ (.panic ch) a w')):yS P o a w next ZZ:=by
 simp only[yS,he,jg];refine h.mono ?_
 rintro e w' (⟨v,rfl,hn⟩|⟨ch,rfl,hn⟩)
 ·exact hn
 ·exact hn
theorem VO.N8 {d:Option Nat}{r:R}{f:Nat}{args:List Value}{bq R:SH}{Q:Value->SH->Prop}(hp:kf r=false)(hr:jE r=false)(hnw:mi r=false)
 (hx:∀(a:Act) (w:World) (o:Oper),(∀x u,ev Γ x=some u->a.eval x=u)->kz P o.op=some r->(execOp a.eval o).run P w=.ok (.enter f args.toArray) w)
 (hf:ao P f args bq Q) (hs:cz H bq R) (h:∀v Post,Q v Post->VO P n rs (ak d v Γ) (Post++R) Z K):VO P n (⟨d,none,r⟩::rs) Γ H Z K:=by
 intro l hl a w F ZZ Q' ha fC hq hz;obtain⟨o,l',rfl,qZ,ops,ho⟩:=wz hl;obtain⟨g1,g2,g3,g4⟩:=jG ho;show jx P ZZ (_,o) (eK P ZZ Q' l') a w;unfold jx;simp only[jD,hp,hr,if_true,vJ,if_false];refine⟨fun e=>(by rw[hnw]at e;cases e),?_⟩;refine Kx (hx a w o (fun x u e=>ha.ev e) g1) ?_;have xy:Sat w (bq.flatten++(R.flatten++F)):=by
  exact zD9
 refine(hf.2 (R.flatten++F) w xy).mono ?_
 rintro e w' ⟨v,Post,rfl,hQ,DD,hk⟩
 refine .inl ⟨v,rfl,?_⟩;exact zBM
theorem pZ {op:Op}{f:Nat}{xs:List Operand}(h:kz P op=some (.call f xs)):∃c,op=.call c/\c.callee=.value (.func f)/\c.args.toList=xs/\jo P f=true:=by
 cases op
 case call c=>
  refine⟨c,rfl,?_⟩;obtain⟨callee,args,NZ⟩:=c;simp only[kz]at h;split at h
  ·split at h
   ·rename_i hc;cases h;exact⟨rfl,rfl,hc⟩
   ·cases h
  ·cases h
  all_goals (repeat' split at h)
  all_goals first
   |(cases h;done)
   |(simp only[Qx]at h;obtain⟨_,_,h⟩:=h;cases h;done)
 all_goals (exfalso;try simp only[kz]at h)
 all_goals (repeat' split at h)
 all_goals first
  |(cases h;done)
  |(simp only[Qx]at h;obtain⟨_,_,h⟩:=h;cases h;done)
theorem Bg {op:Op}{x:Operand}{xs:List Operand}(h:kz P op=some (.pK x xs)):∃c,op=.call c/\c.callee=.value x/\c.args.toList=xs:=by
 cases op
 case call c=>
  refine⟨c,rfl,?_⟩;obtain⟨callee,args,NZ⟩:=c;simp only[kz]at h;split at h
  ·split at h
   ·cases h
   ·cases h
  ·cases h;exact⟨rfl,rfl⟩
  all_goals (repeat' split at h)
  all_goals first
   |(cases h;done)
   |(simp only[Qx]at h;obtain⟨_,_,h⟩:=h;cases h;done)
 all_goals (exfalso;try simp only[kz]at h)
 all_goals (repeat' split at h)
 all_goals first
  |(cases h;done)
  |(simp only[Qx]at h;obtain⟨_,_,h⟩:=h;cases h;done)
theorem VO.call {d:Option Nat}{f:Nat}{xs:List Operand}{args:List Value}{bq R:SH}{Q:Value->SH->Prop}(hf:ao P f args bq Q)(he:gN Γ xs=some args)(hs:cz H bq R)
 (h:∀v Post,Q v Post->VO P n rs (ak d v Γ) (Post++R) Z K):VO P n (⟨d,none,.call f xs⟩::rs) Γ H Z K:=by
 refine VO.N8 rfl rfl rfl (fun a w o ha hl=>?_) hf hs h;obtain⟨c,h1,h2,h3,h4⟩:=pZ hl;have hm:xs.map a.eval=args:=by
  have:∀{l:List Operand} {vs:List Value},gN Γ l=some vs->l.map a.eval=vs:=by
   intro l
   induction l with
   |nil=>intro vs e;simp[gN]at e;subst e;rfl
   |cons x r ih=>
    intro vs e;simp only[gN]at e;split at e
    ·rename_i v l hv hl;cases e;simp[ha _ _ hv,ih hl]
    ·cases e
  exact this he
 have cu:(c.args.map a.eval)=args.toArray:=by
  exact zEM
 simp[execOp,h1,resolve,h2,Act.eval,Deferred.ofValue,invoke,cu,zC h4]
end
inductive IC where
 |skip
 |lE (rs:List RO) (aP:List Nat)
 |draw (ri:List (List RO)) (aP:List Nat)
 |seq (a b:IC)
 |cond (c:Operand) (a b:IC)
 |block (id:Nat) (b:IC)
 |loop (b:IC)
 |exit (id:Nat)
 |ret
 |gp (g:Operand) (ps:List Nat) (G9 b:IC)
 |free (rs:List RO) (an:List (List Nat)) (aP:List Nat)
 |scope (b:IC)
 |label (l:Nat)
def zY(P:Program)(n:Nat)(ops:Array Oper):List Oper->Option (List RO)
 |[]=>some []
 |o::r=>match dJ P n ops o,zY P n ops r with
  |some x,some l=>some (x::l)
  |_,_=>none
def wk(P:Program)(n:Nat)(kp:Nat->List Nat)(od:Nat->List (List Nat)):Code->Option IC
 |.skip=>some .skip
 |.region id ops false=>(zY P n ops ops.toList).map fun rs=>.lE rs (kp id)
 |.region id ops true=>
  match zY P n ops ops.toList with
  |some rs=>if(od id).isEmpty then(if P.follows .mixedOrders&&we ops then some (.free rs (gD ops) (kp id))else none)else
   if P.follows .mixedOrders&&oF (rs.zip ops.toList) ops (od id)then some (.draw ((od id).map fun o=>o.map fun i=>rs.getD i default) (kp id))else none
  |none=>none
 |.seq a b=>match wk P n kp od a,wk P n kp od b with
  |some x,some y=>some (.seq x y)
  |_,_=>none
 |.cond c a b=>match wk P n kp od a,wk P n kp od b with
  |some x,some y=>some (.cond c x y)
  |_,_=>none
 |.block id b=>(wk P n kp od b).map (IC.block id)
 |.loop b=>(wk P n kp od b).map IC.loop
 |.exit id=>some (.exit id)
 |.ret=>some .ret
 |.rangeFunc g ps x b=>match wk P n kp od x,wk P n kp od b with
  |some x,some y=>if ps.all (·< n)then some (.gp g ps.toList x y)else none
  |_,_=>none
 |.scope b=>(wk P n kp od b).map IC.scope
 |.label l=>some (.label l)
 |_=>none
def YX(P:Program)(n:Nat)(kp:Nat->List Nat)(od:Nat->List (List Nat)):IC->Code->Prop
 |.skip,code=>code=.skip
 |.lE rs aP,code=>∃id ops,code=.region id ops false/\zY P n ops ops.toList=some rs/\aP=kp id
 |.draw ri aP,code=>∃id ops rs,code=.region id ops true/\zY P n ops ops.toList=some rs/\P.follows .mixedOrders=true/\oF (rs.zip ops.toList) ops (od id)=true/\ri=((od id).map fun o=>o.map fun i=>rs.getD i default)/\aP=kp id
 |.free rs an aP,code=>∃id ops,code=.region id ops true/\zY P n ops ops.toList=some rs/\P.follows .mixedOrders=true/\we ops=true/\an=gD ops/\aP=kp id
 |.seq x y,code=>∃a b,code=.seq a b/\wk P n kp od a=some x/\wk P n kp od b=some y
 |.cond c x y,code=>∃a b,code=.cond c a b/\wk P n kp od a=some x/\wk P n kp od b=some y
 |.block id x,code=>∃a,code=.block id a/\wk P n kp od a=some x
 |.loop x,code=>∃a,code=.loop a/\wk P n kp od a=some x
 |.exit id,code=>code=.exit id
 |.ret,code=>code=.ret
 |.gp g ps x y,code=>∃qs a b,code=.rangeFunc g qs a b/\qs.toList=ps/\(∀t∈ps,t < n)/\wk P n kp od a=some x/\wk P n kp od b=some y
 |.scope x,code=>∃a,code=.scope a/\wk P n kp od a=some x
 |.label l,code=>code=.label l
theorem jV {P:Program}{n:Nat}{kp:Nat->List Nat}{od:Nat->List (List Nat)}{code:Code}{c:IC}(h:wk P n kp od code=some c):YX P n kp od c code:=by
 cases code with
 |skip=>simp only[wk]at h;cases h;rfl
 |region id ops b=>
  cases b
  ·simp only[wk,Qx]at h;obtain⟨rs,h1,rfl⟩:=h;exact⟨id,ops,rfl,h1,rfl⟩
  ·simp only[wk]at h;split at h
   case h_2=>cases h
   rename_i rs h1;split at h
   ·split at h
    case isFalse=>cases h
    rename_i hc;simp only[vF]at hc;cases h;exact⟨id,ops,rfl,h1,hc.1,hc.2,rfl,rfl⟩
   split at h
   case isFalse=>cases h
   rename_i hc;simp only[vF]at hc;cases h;exact⟨id,ops,rs,rfl,h1,hc.1,hc.2,rfl,rfl⟩
 |seq a b=>
  exact zEA
 |cond q a b=>
  exact zEA
 |block id b=>
  exact zCZ
 |loop b=>
  exact zCZ
 |exit id=>simp only[wk]at h;cases h;rfl
 |ret=>simp only[wk]at h;cases h;rfl
 |rangeFunc g ps a b=>
  simp only[wk]at h;split at h
  case h_2=>cases h
  rename_i x y h1 h2;split at h
  case isFalse=>cases h
  rename_i hp;cases h;exact⟨ps,a,b,rfl,rfl,fun t ht=>by have:=Array.all_eq_true_iff_forall_mem.1 hp t (by simpa using ht);simpa using this,h1,h2⟩
 |scope b=>
  exact zCZ
 |label l=>simp only[wk]at h;cases h;rfl
 |_=>simp only[wk]at h;cases h
def aJ:List Nat->Env->Env
 |[],_=>[]
 |t::r,Γ=>match look Γ t with
  |some v=>(t,v)::aJ r Γ
  |none=>aJ r Γ
theorem nH(k:List Nat)(Γ:Env):Sub Γ (aJ k Γ):=by
 induction k with
 |nil=>intro t v h;simp[aJ,look]at h
 |cons s r ih=>
  intro t v h;simp only[aJ]at h;split at h
  ·rename_i u hu;simp only[look]at h;split at h
   ·rename_i e;subst e;cases h;exact hu
   ·exact ih t v h
  ·exact ih t v h
def oC(r:Nat):Deferred:={target:=.collected r,args:=#[]}
def marks(X:List Nat):List kB:=X.map fun r=>.obj r (.deferred (some []))
def Rnd(ρ:Option Nat)(F:List kB):Prop:=∀l,ρ=some l->∃r,kB.obj l (.loop r)∈F
theorem Rnd.more {ρ:Option Nat}{F F':List kB}(h:Rnd ρ F)(hf:∀x∈F,x∈F'):Rnd ρ F':=fun l e=>let⟨r,hr⟩:=h l e;⟨r,hf _ hr⟩
def VC(P:Program)(n:Nat)(c:IC)(Γ:Env)(H:SH)(Q:Exit->Env->SH->Prop):Prop:=
 ∀ρ kp od code,wk P n kp od code=some c->∀a w F (QQ:Exit->Act->World->Prop),Rnd ρ F->jl n Γ a->Sat w (H.flatten++F)->
  (∀e a' w' aw H' X,Q e aw H'->jl n aw a'->a'.defers=X.map oC++a.defers->Sat w' (H'.flatten++(F++marks X))->ki w w'->QQ e a' w')->code.wpIn (yW ρ) 0 P QQ a w
def aj(H H':SH):Prop:=∃R,cz H H' R
theorem aj.refl(H:SH):aj H H:=⟨[],by simp[cz]⟩
theorem Sat.imp {w:World}{H H':SH}{F:List kB}(h:aj H H')(hs:Sat w (H.flatten++F)):Sat w (H'.flatten++F):=by
 obtain⟨R,hR⟩:=h;have:=hs.perm (hR.append_right F);exact zEG
def bt(K:Env->SH->Prop)(Q:Exit->Env->SH->Prop):Exit->Env->SH->Prop
 |.normal,Γ,H=>K Γ H
 |e,Γ,H=>Q e Γ H
def bb(id:Nat)(Q:Exit->Env->SH->Prop):Exit->Env->SH->Prop
 |.exit i,Γ,H=>if i=id then Q .normal Γ H else Q (.exit i) Γ H
 |e,Γ,H=>Q e Γ H
section
variable {P:Program} {n:Nat} {Γ Δ:Env} {H:SH} {Q Q':Exit->Env->SH->Prop}
theorem LM(X Y:List Nat):marks (X++Y)=marks X++marks Y:=by simp[marks]
theorem Sat.marks {w:World}{L F:List kB}{X Y:List Nat}(h:Sat w (L++((F++marks X)++marks Y))):Sat w (L++(F++marks (Y++X))):=by
 refine h.perm (vU _ ?_);rw[LM,vZ];exact zDQ
theorem Sat.bV {w:World}{L F:List kB}(h:Sat w (L++F)):Sat w (L++(F++V.marks [])):=by simpa[V.marks]using h
theorem VC.mono {c:IC}(h:VC P n c Γ H Q)(hq:∀e Γ H,Q e Γ H->Q' e Γ H):VC P n c Γ H Q':=fun ρ kp od code hl a w F QQ hr ha hs hh=>
 h ρ kp od code hl a w F QQ hr ha hs (fun e a' w' aw H' X q=>hh e a' w' aw H' X (hq _ _ _ q))
theorem VC.sub {c:IC}(s:Sub Γ Δ)(h:VC P n c Δ H Q):VC P n c Γ H Q:=fun ρ kp od code hl a w F QQ hr ha hs hh=>h ρ kp od code hl a w F QQ hr (ha.sub s) hs hh
theorem VC.imp {c:IC}{H':SH}(i:aj H H')(h:VC P n c Γ H' Q):VC P n c Γ H Q:=fun ρ kp od code hl a w F QQ hr ha hs hh=>h ρ kp od code hl a w F QQ hr ha (hs.imp i) hh
theorem VC.skip(h:Q .normal Γ H):VC P n .skip Γ H Q:=by
 intro ρ kp od code hl a w F QQ hr ha hs hh;obtain rfl:=jV hl;exact wpIn_skip (hh _ _ _ _ _ [] h ha rfl hs.bV (.refl w))
theorem VC.exit {id:Nat}(h:Q (.exit id) Γ H):VC P n (.exit id) Γ H Q:=by
 intro ρ kp od code hl a w F QQ hr ha hs hh;obtain rfl:=jV hl;exact wpIn_exit (hh _ _ _ _ _ [] h ha rfl hs.bV (.refl w))
theorem VC.ret(h:Q .ret Γ H):VC P n .ret Γ H Q:=by
 intro ρ kp od code hl a w F QQ hr ha hs hh;obtain rfl:=jV hl;exact wpIn_ret (hh _ _ _ _ _ [] h ha rfl hs.bV (.refl w))
theorem VC.cond {c:Operand}{x y:IC}{t:Bool}(hc:ev Γ c=some (.bool t))(ht:t=true->VC P n x Γ H Q)(hf:t=false->VC P n y Γ H Q):VC P n (.cond c x y) Γ H Q:=by
 intro ρ kp od code hl a w F QQ hr ha hs hh;obtain⟨p,q,rfl,h1,h2⟩:=jV hl;exact wpIn_cond_split (ha.ev hc) (fun e=>ht e ρ kp od _ h1 a w F QQ hr ha hs hh) (fun e=>hf e ρ kp od _ h2 a w F QQ hr ha hs hh)
theorem VC.seq {x y:IC}(h:VC P n x Γ H (bt (fun aw H'=>VC P n y aw H' Q) Q)):VC P n (.seq x y) Γ H Q:=by
 intro ρ kp od code hl a w F QQ hr ha hs hh;obtain⟨p,q,rfl,h1,h2⟩:=jV hl;refine wpIn_seq (h ρ kp od _ h1 a w F _ hr ha hs (fun e a' w' aw H' X q g1 g2 g3 g4=>?_));cases e <;> first
  |exact q ρ kp od _ h2 a' w' (F++marks X) QQ (hr.more (fun x hx=>Zw _ hx)) g1 g3 (fun e a2 w2 cr H2 Y q2 k1 k2 k3 k4=>hh e a2 w2 cr H2 (Y++X) q2 k1 (by rw[k2,g2];simp) k3.marks (g4.trans k4))
  |exact hh _ _ _ _ _ X q g1 g2 g3 g4
theorem VC.block {id:Nat}{x:IC}(h:VC P n x Γ H (bb id Q)):VC P n (.block id x) Γ H Q:=by
 intro ρ kp od code hl a w F QQ hr ha hs hh;obtain⟨p,rfl,h1⟩:=jV hl;refine wpIn_block (h ρ kp od _ h1 a w F _ hr ha hs (fun e a' w' aw H' X q g1 g2 g3 g4=>?_));cases e <;> first
  |exact hh _ _ _ _ _ X q g1 g2 g3 g4
  |skip
 rename_i i;simp only[bb]at q;simp only[Exit.inBlock];split at q
 ·rename_i e;rw[if_pos e];exact hh _ _ _ _ _ X q g1 g2 g3 g4
 ·rename_i e;rw[if_neg e];exact hh _ _ _ _ _ X q g1 g2 g3 g4
theorem zB {P:Program}{b:Frame}{a:Act}{k:List Item}{cs:List Frame}{w:World}{c:Code}:step P (lone (b.atR a (.code (.scope c)::k)) cs w)=.next (lone (b.atR a (.code c:: .inScope c::k)) cs w):=
 step_lone_go (by simp[stepG,stepG.exec,Frame.atR])
theorem yG {P:Program}{b:Frame}{a:Act}{k:List Item}{cs:List Frame}{w:World}{c:Code}:step P (lone (b.atR a (.inScope c::k)) cs w)=.next (lone (b.atR a k) cs w):=
 step_lone_go (by simp[stepG,stepG.exec,Frame.atR])
theorem Gy {F:Fence}{n:Nat}{P:Program}{Q:Exit->Act->World->Prop}{a:Act}{w:World}{c:Code}(h:c.wpIn F n P (fun e a w=>(∀l,e≠.goto l)/\Q e a w) a w):(Code.scope c).wpIn F n P Q a w:=by
 intro b k cs hro hb hr;have h0:(lone (b.atR a (.code (.scope c)::k)) cs w).fenced P F:=fenced_calm hb hr rfl;obtain⟨e,N1,SY,⟨hg,hq⟩,oK⟩:=h b (.inScope c::k) cs hro hb hr;cases e with
 |normal=>exact⟨.normal,N1,SY,hq,.head h0 zB (StepsIn.trans oK (.one (fenced_calm hb hr rfl) yG))⟩
 |exit id=>
  have hx:exitTo id (.inScope c::k)=exitTo id k:=by simp[exitTo]
  exact⟨.exit id,N1,SY,hq,fun k' hk=>.head h0 zB (oK.1 k' (by rw[hx];exact hk)),
   fun sN hk=>let⟨k₁,h1,h2⟩:=oK.2 sN (by rw[hx];exact hk);⟨k₁,h1,.head h0 zB h2⟩⟩
 |goto l=>exact absurd rfl (hg l)
 |ret=>exact⟨_,N1,SY,hq,.of_steps (.one h0 zB) oK⟩
 |panic ch=>exact⟨_,N1,SY,hq,.of_steps (.one h0 zB) oK⟩
 |outgrown=>exact⟨_,N1,SY,hq,.of_steps (.one h0 zB) oK⟩
theorem VC.scope {x:IC}(h:VC P n x Γ H fun e aw H'=>(∀l,e≠.goto l)/\Q e aw H'):VC P n (.scope x) Γ H Q:=by
 intro ρ kp od code hl a w F QQ hr ha hs hh;obtain⟨p,rfl,h1⟩:=jV hl;exact Gy (h ρ kp od _ h1 a w F _ hr ha hs fun e a' w' aw H' X q g1 g2 g3 g4=>⟨q.1,hh _ _ _ _ _ X q.2 g1 g2 g3 g4⟩)
theorem VC.label {l:Nat}(h:Q .normal Γ H):VC P n (.label l) Γ H Q:=by
 intro ρ kp od code hl a w F QQ hr ha hs hh;obtain rfl:=jV hl;exact wpIn_label (hh _ _ _ _ _ [] h ha rfl hs.bV (.refl w))
theorem ji {ops:Array Oper}:∀{l:List Oper} {rs:List RO},zY P n ops l=some rs->rs.length=l.length/\∀(i:Nat) r o,rs[i]? =some r->l[i]? =some o->dJ P n ops o=some r:=by
 intro l
 induction l with
 |nil=>intro rs h;simp[zY]at h;subst h;simp
 |cons o l ih=>
  intro rs h;simp only[zY]at h;split at h
  ·rename_i x l' hx hl;cases h;obtain⟨h1,h2⟩:=ih hl;refine⟨by simp[h1],fun i r o' hr ho=>?_⟩;cases i with
   |zero=>simp at hr ho;subst hr ho;exact hx
   |succ i=>simp at hr ho;exact h2 i r o' hr ho
  ·cases h
theorem wY {ops:Array Oper}{rs:List RO}(h:zY P n ops ops.toList=some rs){i:Nat}(hi:i < ops.size):
 ops[i]? =some ((rs.zip ops.toList).getD i default).2/\((rs.zip ops.toList).getD i default).1=rs.getD i default/\dJ P n ops ((rs.zip ops.toList).getD i default).2=some ((rs.zip ops.toList).getD i default).1:=by
 obtain⟨h1,h2⟩:=ji h;have hl:i < rs.length:=by rw[h1];simpa using hi
 have hz:(rs.zip ops.toList)[i]? =some (rs[i],ops[i]):=by
  rw[Zg (by rw[List.length_zip];simp only[Array.length_toList];omega)];simp
 have he:(rs.zip ops.toList).getD i default=(rs[i],ops[i]):=by rw[V8,hz];rfl
 rw[he];refine⟨by simp[hi],by simp[V8,hl],?_⟩;exact h2 i rs[i] ops[i] (by simp[hl]) (by simp[hi])
theorem VC.lE {rs:List RO}{aP:List Nat}(h:VO P n rs Γ H (fun ch aw H'=>Q (.panic ch) aw H') fun aw H'=>Q .normal (aJ aP aw) H'):VC P n (.lE rs aP) Γ H Q:=by
 intro ρ kp od code hl a w F QQ hr ha hs hh;obtain⟨id,ops,rfl,h1,rfl⟩:=jV hl;refine wpIn_region ?_;refine eM (P:=P) (ρ:=ρ) (n:=n) (ops:=ops) (X:=fun i=>(rs.zip ops.toList).getD i default) (QQ:=QQ) (fun i hi=>?_) (List.range ops.size) a w (fun i hi=>by simpa using hi) ?_
 ·exact zDC
 ·have hlen:=(ji h1).1;have CM:(List.range ops.size).map (fun i=>(rs.zip ops.toList).getD i default)=rs.zip ops.toList:=by
   exact zB7
  rw[CM];refine h (rs.zip ops.toList) ⟨?_,?_⟩ a w F _ _ ha hs (fun a' w' aw H' q g1 g2 g3 g4=>hh .normal a' w' _ H' [] q (g1.sub (nH _ _)) g2 g3.bV g4) (fun ch a' w' aw H' q g1 g2 g3 g4=>hh (.panic ch) a' w' _ H' [] q g1 g2 g3.bV g4)
  ·rw[List.map_fst_zip];simp[hlen]
  ·exact zBF
theorem VC.draw {ri:List (List RO)}{aP:List Nat}(h:∀rs∈ri,VO P n rs Γ H (fun _ _ _=>False) fun aw H'=>Q .normal (aJ aP aw) H'):VC P n (.draw ri aP) Γ H Q:=by
 intro ρ kp od code hl a w F QQ hr ha hs hh;obtain⟨id,ops,rs,rfl,h1,hm,hc,rfl,rfl⟩:=jV hl;have hlen:=(ji h1).1;refine wpIn_region_draw (fun t=>?_);have oP:Region.schedule (P.follows .mixedOrders) ops t=jX ops ops.size t (Array.replicate ops.size false):=by simp[Region.schedule,hm,Region.linearise,jX]
 rw[oP];have hu:om ops (Array.replicate ops.size false)=List.range ops.size:=by
  exact zAW
 have ej:we ops=true:=by
  exact zED
 have bM:=(zc ej ops.size t (Array.replicate ops.size false) Zs (by rw[hu];simp)).2.1;refine eM (P:=P) (ρ:=ρ) (n:=n) (ops:=ops) (X:=fun i=>(rs.zip ops.toList).getD i default) (QQ:=QQ) (fun i hi=>?_) _ a _ (fun i hi=>by rw[bM,hu]at hi;simpa using hi) ?_
 ·exact zDC
 ·refine Cg ?_;refine cover (P:=P) (n:=n) (by simp[hlen]) (fun i x hx=>?_) hc (fun o ho=>?_) t
  ·have Ll:i < (rs.zip ops.toList).length:=(Vh.1 hx).1;have hi3:i < ops.size:=by simp[hlen]at Ll;omega
   obtain⟨g1,g2,g3⟩:=wY h1 hi3;have:(rs.zip ops.toList).getD i default=x:=by rw[V8,hx];rfl
   rw[this]at g3;exact Good.Rv g3
  ·have ap:o.all (·< ops.size)=true:=by
    rcases vP.1 hc with hc|hc <;>
    ·simp only[eT,vF,vX]at hc;have:=hc.1.2 o ho;simp only[vX];exact this.2
   have aI:∀i∈o,i < ops.size:=by simpa[vX]using ap
   refine h (o.map fun i=>rs.getD i default) (QE.2 ⟨o,ho,rfl⟩) _ ⟨?_,?_⟩ a {w with drawn:=w.drawn+1} F _ _ ha (hs.drawn _) (fun a' w' aw H' q g1 g2 g3 g4=>hh .normal a' w' _ H' [] q (g1.sub (nH _ _)) g2 g3.bV ?_) (fun _ _ _ _ _ q=>q.elim)
   ·rw[Q5];refine Q1 (fun i hi=>?_);obtain⟨g1,g2,g3⟩:=wY h1 (aI i hi);exact g2
   ·intro x hx;obtain⟨i,hi,rfl⟩:=QE.1 hx;obtain⟨g1,g2,g3⟩:=wY h1 (aI i hi);exact⟨ops,g3⟩
   ·exact((ki.refl w).drawn _).trans g4
theorem VC.loop {x:IC}{α:Type}(aW:α->Env)(Hf:α->SH)(I:α->Prop)(μ:α->Nat)(s0:α)(h0:I s0)(bp:Sub Γ (aW s0))(hH:aj H (Hf s0))
 (round:∀s,I s->VC P n x (aW s) (Hf s) (bt (fun aw H'=>∃s',I s'/\μ s' < μ s/\Sub aw (aW s')/\aj H' (Hf s')) Q)):VC P n (.loop x) Γ H Q:=by
 intro ρ kp od code hl a w F QQ hr ha hs hh;obtain⟨body,rfl,h1⟩:=jV hl;intro b k cs hro tY bm;have key:∀m s X,μ s=m->I s->∀a1 w1,jl n (aW s) a1->a1.defers=X.map oC++a.defers->Sat w1 ((Hf s).flatten++(F++marks X))->ki w w1->
  ∃e a' w',QQ e a' w'/\ArrivesIn (Machine.fenced P (yW ρ)) P (lone (b.atR a1 (.code body:: .inLoop body::k)) cs w1) b k cs e a' w':=by
  intro m
  induction m using Nat.strongRecOn with
  |_ m ih=>
   intro s X hm hI a1 w1 ha1 hd1 nS tD;have sO:=round s hI ρ kp od body h1 a1 w1 (F++marks X) (Exit.then (fun a' w'=>∃s' Y,I s'/\μ s' < μ s/\jl n (aW s') a'/\a'.defers=(Y++X).map oC++a.defers/\Sat w' ((Hf s').flatten++(F++marks (Y++X)))/\ki w w') QQ) (hr.more (fun x hx=>Zw _ hx)) ha1 nS (fun e a' w' aw H' Y q g1 g2 g3 g4=>by
    cases e <;> first
     |(obtain⟨s',i1,i2,i3,i4⟩:=q;exact⟨s',Y,i1,i2,g1.sub i3,by rw[g2,hd1];simp,(g3.imp i4).marks,tD.trans g4⟩)
     |exact hh _ _ _ _ _ (Y++X) q g1 (by rw[g2,hd1];simp) g3.marks (tD.trans g4))
   obtain⟨e,a2,w2,hq,oK⟩:=sO b (.inLoop body::k) cs hro tY bm;cases e with
   |normal=>
    obtain⟨s',Y,i1,i2,i3,i3',i4,i5⟩:=hq;obtain⟨e2,a3,w3,l7,harr2⟩:=ih (μ s') (hm ▸ i2) s' (Y++X) rfl i1 a2 w2 i3 i3' i4 i5;exact⟨e2,a3,w3,l7,.of_steps (StepsIn.trans oK (.one (fenced_calm (n:=0) (fr:=b.atR a2 (.inLoop body::k)) tY bm rfl) stepR_inLoop)) harr2⟩
   |exit id=>exact⟨_,a2,w2,hq,.pass (x:=.inLoop body) rfl (fun _ _=>.inl Zs) oK⟩
   |goto l=>exact⟨_,a2,w2,hq,.pass (x:=.inLoop body) rfl (fun _ _=>.inl Zs) oK⟩
   |ret=>exact⟨_,a2,w2,hq,.pass (x:=.inLoop body) rfl (fun _ _=>.inl Zs) oK⟩
   |panic ch=>exact⟨_,a2,w2,hq,.pass (x:=.inLoop body) rfl (fun _ _=>.inl Zs) oK⟩
   |outgrown=>exact⟨_,a2,w2,hq,.pass (x:=.inLoop body) rfl (fun _ _=>.inl Zs) oK⟩
 obtain⟨e,a',w',hq,oK⟩:=key _ s0 [] rfl h0 a w (ha.sub bp) rfl (hs.imp hH).bV (.refl w);exact⟨e,a',w',hq,.of_steps (.one (fenced_calm (n:=0) (fr:=b.atR a (.code (.loop body)::k)) tY bm rfl) stepR_loop) oK⟩
theorem VC.join {x y:IC}{α:Type}(aW:α->Env)(Hf:α->SH)(I:α->Prop)(h1:VC P n x Γ H (bt (fun aw H'=>∃s,I s/\Sub aw (aW s)/\aj H' (Hf s)) Q))
 (h2:∀s,I s->VC P n y (aW s) (Hf s) Q):VC P n (.seq x y) Γ H Q:=by
 refine VC.seq (h1.mono ?_);intro e aw H' q;cases e <;> first
  |(obtain⟨s,i1,i2,i3⟩:=q;exact VC.sub i2 (VC.imp i3 (h2 s i1)))
  |exact q
end
def assoc {α:Type}(l:List (Nat×List α))(i:Nat):List α:=match l with
 |[]=>[]
 |(k,v)::r=>if k=i then v else assoc r i
def rep(n:Nat)(l:List Value):List Value:=match n with
 |0=>[]
 |n+1=>l++rep n l
inductive RV where
 |tmp (t:Nat)
 |bT (t:Nat)
 |aS (t n:Nat)
structure aR where
 n:Nat
 bG:List RV
 body:IC
def wR(P:Program):List ResultVar->Option (List RV)
 |[]=>some []
 |.tmp t::r=>(wR P r).map (.tmp t::·)
 |.cell a t::r=>match P.underlying t,P.info? t with
  |some (.struct _),some i=>(wR P r).map (.aS a i.size::·)
  |some (.array _ _),some i=>(wR P r).map (.aS a i.size::·)
  |some _,some _=>(wR P r).map (.bT a::·)
  |_,_=>none
def C1(P:Program)(kp:Nat->List Nat)(od:Nat->List (List Nat))(f:Nat):Option aR:=
 match P.funcs[f]? with
 |none=>none
 |some fn=>match fn.body with
  |none=>none
  | some c => if fn.name != "runtime.NumGoroutine" then
     match wk P fn.ntmps kp od c,wR P fn.results.toList with
     |some b,some r=>some ⟨fn.ntmps,r,b⟩
     |_,_=>none
    else none
def aB:Nat->List Value->Env
 |_,[]=>[]
 |k,v::r=>(k,v)::aB (k+1) r
def gw:List Value->Value
 |[v]=>v
 |vs=>.tuple vs.toArray
inductive Ng (Γ:Env)(H:SH):List RV->List Value->Prop where
 |nil:Ng Γ H [] []
 |tmp {t:Nat} {v:Value} {r:List RV} {vs:List Value}:look Γ t=some v->Ng Γ H r vs->Ng Γ H (.tmp t::r) (v::vs)
 |bT {t b o:Nat} {v:Value} {r:List RV} {vs:List Value}:look Γ t=some (.pointer (some ⟨b,o,none⟩))->kB.cell b o v∈H.flatten->Ng Γ H r vs->Ng Γ H (.bT t::r) (v::vs)
 |aS {t b o n:Nat} {us:List Value} {r:List RV} {vs:List Value}:look Γ t=some (.pointer (some ⟨b,o,none⟩))->us.length=n->(∀x∈kA b o us,x∈H.flatten)->Ng Γ H r vs->Ng Γ H (.aS t n::r) (.agg us.toArray::vs)
def rK(bG:List RV)(Q:Value->SH->Prop):Exit->Env->SH->Prop:=fun e Γ H=>(e=.normal∨e=.ret)/\∃vs Post,Ng Γ H bG vs/\aj H Post/\Q (gw vs) Post
theorem C0:∀{vs:List Value} {k t:Nat} {v:Value},look (aB k vs) t=some v->k<=t/\vs[t - k]? =some v:=by
 intro vs
 induction vs with
 |nil=>intro k t v h;simp[aB,look]at h
 |cons u r ih=>
  intro k t v h;simp only[aB,look]at h;split at h
  ·rename_i e;subst e;cases h;simp
  ·obtain⟨h1,h2⟩:=ih h;refine⟨Zo,?_⟩;have:t - k=(t - (k+1))+1:=by omega
   rw[this];simpa using h2
theorem Ah {P:Program}{b o:Nat}:∀(k i:Nat) (acc:Array Value) (w1:World) (r:Array Value) (w2:World),(loadCellsFrom ⟨b,o,none⟩ i k acc).run P w1=.ok r w2->w2=w1:=by
 exact zBB
theorem run_loadCells {P:Program}{b o m:Nat}{us:List Value}{H:List kB}{F:List kB}{w:World}(hn:us.length=m)(hm:∀x∈kA b o us,x∈H)(hs:Sat w (H++F)):
 (loadCells ⟨b,o,none⟩ m).run P w=.ok us.toArray w:=by
 have hsw:az P (loadCells ⟨b,o,none⟩ m) H (fun r L=>r=us.toArray/\L=H):=az.loadCells hn hm ⟨rfl,rfl⟩;obtain⟨r,w',L,h1,⟨rfl,rfl⟩,h3,h4⟩:=hsw F w hs;obtain rfl:=Ah _ _ _ _ _ _ h1;exact h1
theorem fP {P:Program}{fn:Func}{r:List RV}{a:Act}{n:Nat}{Γ:Env}{vs:List Value}{w:World}{H:SH}{F:List kB}(hs:Sat w (H.flatten++F))(hr:wR P fn.results.toList=some r)(ha:jl n Γ a)(hv:Ng Γ H r vs):
 (results fn a.tmps).run P w=.ok (gw vs) w:=by
 have key:∀(l:List ResultVar) (r:List RV) (vs:List Value) (f:ResultVar->Sem Value),(∀t,f (.tmp t)=pure (a.tmps.getD t undef))->(∀x t,f (.cell x t)=(do loadVar t (<- asAddr (a.tmps.getD x undef))))->
  wR P l=some r->Ng Γ H r vs->(l.mapM f).run P w=.ok vs w:=by
  intro l
  induction l with
  |nil=>intro r vs f _ _ h1 h2;simp[wR]at h1;subst h1;cases h2;simp
  |cons x l ih=>
   intro r vs f hf Cy h1 h2;cases x with
   |cell x t=>
    simp only[wR]at h1;have slot:∀{v},look Γ x=some v->a.tmps.getD x undef=v:=fun h=>by simp[Array.getD_eq_getD_getElem?,ha.slots x _ h]
    split at h1
    ·exact zBO
    ·exact zBO
    ·rename_i d j g1 g2 hu hj;simp only[Qx]at h1;obtain⟨r',h3,rfl⟩:=h1;have hag:(isAgg t).run P w=.ok false w:=by rw[dH hu];cases d <;> simp_all
     cases h2 with
     |bT k1 k2 k4=>
      have hc:=(hs.cell (Zw F k2)).1;simp only[List.mapM_cons,Sem.run_bind,Cy,slot k1,asAddr,Sem.run_pure,Result.andThen_ok,loadVar,hag,vJ,if_false,run_load,hc,ih r' _ f hf Cy h3 k4]
    ·cases h1
   |tmp t=>
    simp only[wR,Qx]at h1;obtain⟨r',h3,rfl⟩:=h1;cases h2 with
    |tmp k1 k2=>
     rename_i v0 _;have hslot:a.tmps.getD t undef=v0:=by simp[Array.getD_eq_getD_getElem?,ha.slots t _ k1]
     simp only[List.mapM_cons,Sem.run_bind,hf,Sem.run_pure,Result.andThen_ok,ih r' _ f hf Cy h3 k2,hslot]
 unfold results;simp only[Sem.run_bind];rw[Array.mapM_eq_mapM_toList];simp only[Sem.run_map];rw[key fn.results.toList r vs _ (fun t=>rfl) (fun x t=>rfl) hr hv];cases vs with
 |nil=>simp[gw]
 |cons v l=>cases l <;> simp[gw]
theorem ao.intro {P:Program}{kp:Nat->List Nat}{od:Nat->List (List Nat)}{f:Nat}{F:aR}{args:List Value}{bq:SH}{Q:Value->SH->Prop}(hl:C1 P kp od f=some F)(hn:args.length<=F.n)
 (h:VC P F.n F.body (aB 0 args) bq (rK F.bG Q)):ao P f args bq Q:=by
 unfold C1 at hl;split at hl
 ·cases hl
 rename_i fn tY;split at hl
 ·cases hl
 rename_i c hc;split at hl
 case isFalse=>cases hl
 rename_i n6;split at hl
 case h_2=>cases hl
 rename_i b r hb hr;cases hl;refine⟨by simp only[jo,tY,n6,hc];rfl,fun FF w hs=>?_⟩;refine(callsIn_wide (n:=0)).1 (callsIn_of_wp_marks tY hc trivial (h none kp od c hb _ w FF _ (fun l e=>by cases e) ⟨?_,fun t v e=>?_⟩ hs (fun e a' w' aw H' X q g1 g2 g3 g4=>?_)))
 ·simp at hn|-;omega
 ·exact zAS
 ·obtain⟨he,vs,Post,h1,h2,h3⟩:=q;have hb:LeavesInM (yW none) 0 P fn a'.tmps (fun e w'=>∃v Post,e=.returned v/\Q v Post/\Sat w' (Post.flatten++FF)/\ki w w') a'.defers .returning w':=by
   rw[g2,vd];clear g2
   induction X generalizing w' with
   |nil=>
    have g3':Sat w' (H'.flatten++FF):=by simpa[V.marks]using g3
    exact⟨_,fP g3' hr g1 h1,_,Post,rfl,h3,g3'.imp h2,g4⟩
   |cons r X ih=>
    have hp:(H'.flatten++(FF++V.marks (r::X))).Perm (.obj r (.deferred (some []))::(H'.flatten++(FF++V.marks X))):=by
     exact zCM
    have g5:=g3.perm hp;obtain⟨k1,k2⟩:=g5.obj (QB ..);obtain⟨s1,s2⟩:=Sat.setObj (u:=.deferred none) g5 rfl;refine⟨Zs,.inl ⟨r,_,rfl,?_,ih _ (s1.sub (QX ..)) (g4.trans s2)⟩⟩;exact zEB
  rcases he with rfl|rfl <;> exact hb
theorem ao.mono {P:Program}{f:Nat}{args:List Value}{bq:SH}{Q Q':Value->SH->Prop}(h:ao P f args bq Q)(hq:∀v Post,Q v Post->Q' v Post):ao P f args bq Q':=
 ⟨h.1,fun F w hs=>(h.2 F w hs).mono fun _ _ ⟨v,Post,a,b,c⟩=>⟨v,Post,a,hq _ _ b,c⟩⟩
end Go.V
