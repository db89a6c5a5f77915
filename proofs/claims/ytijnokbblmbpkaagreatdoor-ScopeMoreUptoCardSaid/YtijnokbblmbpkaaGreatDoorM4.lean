/-
  The orders that a region's edges allow; a region that draws its order, walked in the orders that matter.
-/
import Derived.Test.YtijnokbblmbpkaaGreatDoorM3
set_option linter.all false
namespace Go.V
open Go
def J8(l:List Nat)(x y:Nat):Prop:=x∈l/\y∈l/\l.idxOf x < l.idxOf y
theorem dL {a x:Nat}{l:List Nat}(h:a≠x):List.idxOf x (a::l)=List.idxOf x l+1:=by
 rw[List.idxOf_cons,show(a==x)=false from beq_eq_false_iff_ne.2 h];rfl
theorem J8.trans {l:List Nat}{x y z:Nat}(h:J8 l x y)(k:J8 l y z):J8 l x z:=⟨h.1,k.2.1,Nat.lt_trans h.2.2 k.2.2⟩
theorem J8.sub {x y:Nat}:∀{l:List Nat},J8 l x y->[x,y].Sublist l:=by
 intro l
 induction l with
 |nil=>rintro⟨h,_⟩;simp at h
 |cons a l ih=>
  rintro⟨h1,h2,h3⟩
  by_cases ex:a=x
  ·subst ex;refine List.Sublist.cons_cons _ (List.singleton_sublist.2 ?_);rcases QH.1 h2 with rfl|h
   ·simp at h3
   ·exact h
  ·refine List.Sublist.cons _ (ih ?_);have hx:x∈l:=by rcases QH.1 h1 with rfl|h;exact absurd rfl ex;exact h
   have ey:a≠y:=by
    rintro rfl
    simp[List.idxOf_cons]at h3
   have hy:y∈l:=by rcases QH.1 h2 with rfl|h;exact absurd rfl ey;exact h
   refine⟨hx,hy,?_⟩;rw[dL ex,dL ey]at h3;omega
theorem uW {x y:Nat}:∀{l:List Nat},l.Nodup->[x,y].Sublist l->J8 l x y:=by
 intro l
 induction l with
 |nil=>intro _ h;cases h
 |cons a l ih=>
  intro hn h;have EZ:=QU.1 hn;cases h with
  |cons _ h=>
   obtain⟨h1,h2,h3⟩:=ih EZ.2 h;have ex:a≠x:=by rintro rfl;exact EZ.1 h1
   have ey:a≠y:=by rintro rfl;exact EZ.1 h2
   exact⟨by simp[h1],by simp[h2],by rw[dL ex,dL ey];omega⟩
  |cons_cons _ h=>
   have hy:y∈l:=List.singleton_sublist.1 h;have ey:x≠y:=by rintro rfl;exact EZ.1 hy
   exact⟨Zs,by simp[hy],by rw[dL ey];simp⟩
section
variable {ops:Array Oper}
def jf(ops:Array Oper)(gO t:Nat)(listed:Array Bool):List Nat:=Region.linearise.go .any ops gO t listed []
theorem JL(gO t:Nat)(listed:Array Bool):jf ops (gO+1) t listed=
 match(Region.ready .any ops listed)[t % (Region.ready .any ops listed).length]? with
 |some i=>i::jf ops gO (t / (Region.ready .any ops listed).length) (listed.setIfInBounds i true)
 |none=>[]:=by
 unfold jf;simp only[Region.linearise.go];change (match(Region.ready .any ops listed)[t % (Region.ready .any ops listed).length]? with
  |some i=>Region.linearise.go .any ops gO (t / (Region.ready .any ops listed).length) (listed.setIfInBounds i true) [i]
  |none=>[].reverse)=_
 split
 ·rw[linearise_go_acc];simp
 ·simp
def zC(ops:Array Oper):Bool:=ops.toList.zipIdx.all fun(o,i)=>o.after.all fun e=>!Region.binds .any e||e.on < i
theorem fj(h:zC ops=true){i:Nat}{o:Oper}(ho:ops[i]? =some o){e:Edge}(he:e∈o.after)(hb:Region.binds .any e=true):e.on < i:=by
 simp only[zC,ve]at h;have hm:(o,i)∈ops.toList.zipIdx:=by
  rw[List.mem_zipIdx_iff_getElem?];simpa using ho
 have h2:=Array.all_eq_true_iff_forall_mem.1 (h _ hm) e he;simpa[hb]using h2
def oI(ops:Array Oper)(listed:Array Bool):List Nat:=(List.range ops.size).filter fun i=>!listed.getD i true
theorem SD(h:zC ops=true){listed:Array Bool}(hs:listed.size=ops.size)(hu:oI ops listed≠[]):Region.ready .any ops listed≠[]:=by
 obtain⟨i,hi,hmin⟩:∃i,i∈oI ops listed/\∀j,j < i->j∉oI ops listed:=by
  obtain⟨k,hk⟩:=List.exists_mem_of_ne_nil _ hu;have:∀n,∀k,k<=n->k∈oI ops listed->∃i,i∈oI ops listed/\∀j,j < i->j∉oI ops listed:=by
   intro n
   induction n with
   |zero=>intro k Uh hk;exact⟨k,hk,fun j hj=>by omega⟩
   |succ n ih=>
    intro k Uh hk;by_cases hex:∃j,j < k/\j∈oI ops listed
    ·obtain⟨j,hj,KA⟩:=hex;exact ih j Zo KA
    ·exact⟨k,hk,fun j hj KA=>hex ⟨j,hj,KA⟩⟩
  exact this k k (Qn _) hk
 intro he;have:i∈Region.ready .any ops listed:=by
  simp only[oI,QK,QO,vN]at hi;rw[mem_ready];obtain⟨o,ho⟩:∃o,ops[i]? =some o:=⟨ops[i],by simp[hi.1]⟩;refine⟨hi.2,o,ho,fun e hee hb=>?_⟩;have aS:=fj h ho hee hb;have:=hmin e.on aS;simp only[oI,QK,QO,vN,not_and,Bool.not_eq_false]at this;have h2:=this Zo;have ur:e.on < listed.size:=by omega
  simpa[ur]using h2
 rw[he]at this;cases this
theorem y8(hb:zC ops=true):∀(gO t:Nat) (listed:Array Bool),listed.size=ops.size->(oI ops listed).length<=gO->
 (jf ops gO t listed).Nodup/\(∀i,i∈jf ops gO t listed↔i∈oI ops listed)/\
 ∀i∈jf ops gO t listed,∀o,ops[i]? =some o->∀e∈o.after,Region.binds .any e=true->listed.getD e.on false=true∨J8 (jf ops gO t listed) e.on i:=by
 intro gO
 induction gO with
 |zero=>
  intro t listed hs hl;have xU:oI ops listed=[]:=Q3.1 Zo;have:jf ops 0 t listed=[]:=by simp[jf,Region.linearise.go]
  rw[this,xU];simp
 |succ gO ih=>
  intro t listed hs hl;rw[JL];cases hr:(Region.ready .any ops listed)[t % (Region.ready .any ops listed).length]? with
  |none=>
   have xU:oI ops listed=[]:=by
    by_cases hu:oI ops listed=[]
    ·exact hu
    ·have bZ:=SD hb hs hu;have aS:t % (Region.ready .any ops listed).length < (Region.ready .any ops listed).length:=Nat.mod_lt _ (List.length_pos_iff.2 bZ);rw[Zg aS]at hr;cases hr
   simp[xU]
  |some i=>
   have hi:=Zv hr;obtain⟨hi0,o,ho,hedge⟩:=mem_ready.1 hi;have aL:i < ops.size:=(v8.1 ho).1;have hiu:i∈oI ops listed:=by simp only[oI,QK,QO,vN];exact⟨aL,hi0⟩
   have DQ:∀j,(listed.setIfInBounds i true).getD j true=if j=i then true else listed.getD j true:=by
    intro j;by_cases e:j=i
    ·subst e;simp[hs,aL]
    ·rw[getD_set_ne true (Ne.symm e)];simp[e]
   have bO:∀j,j∈oI ops (listed.setIfInBounds i true)↔j∈oI ops listed/\j≠i:=by
    intro j;simp only[oI,QK,QO,vN,DQ];by_cases e:j=i <;> simp[e]
   have hlen:(oI ops (listed.setIfInBounds i true)).length<=gO:=by
    have hp:(oI ops (listed.setIfInBounds i true)).Perm ((oI ops listed).erase i):=by
     have nd:(oI ops listed).Nodup:=QV.filter _;refine(QY (QV.filter _) (nd.erase i)).2 (fun j=>?_);rw[nd.mem_erase_iff];rw[show(j∈List.filter (fun k=>!(listed.setIfInBounds i true).getD k true) (List.range ops.size))↔_ from bO j];exact And.comm
    have:=hp.length_eq;rw[List.length_erase_of_mem hiu]at this;have iv:0 < (oI ops listed).length:=List.length_pos_of_mem hiu;omega
   obtain⟨n1,n2,n3⟩:=ih (t / (Region.ready .any ops listed).length) (listed.setIfInBounds i true) (by simp[hs]) hlen;have hnot:i∉jf ops gO (t / (Region.ready .any ops listed).length) (listed.setIfInBounds i true):=fun h=>((bO i).1 ((n2 i).1 h)).2 rfl
   refine⟨QU.2 ⟨hnot,n1⟩,fun j=>?_,fun j hj o' xV e he T9=>?_⟩
   ·rw[QH,n2,bO];constructor
    ·rintro(rfl|h);exact hiu;exact h.1
    ·intro h;by_cases e:j=i;exact .inl e;exact .inr ⟨h,e⟩
   ·rcases QH.1 hj with rfl|KA
    ·rw[ho]at xV;cases xV;exact .inl (hedge e he T9)
    ·have ND:i≠j:=fun e=>hnot (e ▸ KA)
     rcases n3 j KA o' xV e he T9 with h|h
     ·by_cases ei:e.on=i
      ·right;exact⟨by simp[ei],by simp[KA],by rw[ei,dL ND];simp⟩
      ·left;rw[getD_set_ne false (Ne.symm ei)]at h;exact h
     ·right;have ei:i≠e.on:=fun e'=>hnot (e' ▸ h.1)
      exact⟨by simp[h.1],by simp[KA],by rw[dL ei,dL ND];have:=h.2.2;omega⟩
inductive NU (ops:Array Oper):Nat->Nat->Prop where
 |OK {i:Nat} {o:Oper} {e:Edge}:ops[i]? =some o->e∈o.after->Region.binds .any e=true->NU ops e.on i
 |step {i j:Nat} {o:Oper} {e:Edge}:ops[i]? =some o->e∈o.after->Region.binds .any e=true->NU ops j e.on->NU ops j i
def rT(s:List Nat)(l:List Nat):List Nat:=l.foldl (fun s x=>if s.contains x then s else x::s) s
theorem ym {x:Nat}:∀{l s:List Nat},x∈rT s l->x∈s∨x∈l:=by
 intro l
 induction l with
 |nil=>intro s h;exact .inl h
 |cons a l ih=>
  intro s h;simp only[rT,Vg]at h;rcases ih (s:=if s.contains a then s else a::s) h with h|h
  ·split at h
   ·exact .inl h
   ·rcases QH.1 h with rfl|h
    ·exact .inr Zs
    ·exact .inl h
  ·exact .inr (by simp[h])
def pP(acc:List (List Nat))(o:Oper):List Nat:=
 o.after.toList.foldl (fun s e=>if Region.binds .any e then rT (rT s [e.on]) (acc.getD e.on [])else s) []
def Od:List Oper->List (List Nat)->List (List Nat)
 |[],acc=>acc
 |o::r,acc=>Od r (acc++[pP acc o])
def ij(ops:Array Oper):List (List Nat):=Od ops.toList []
theorem AQ {acc:List (List Nat)}{k:Nat}{o:Oper}(ho:ops[k]? =some o)(U5:∀j x,x∈acc.getD j []->NU ops x j){x:Nat}(hx:x∈pP acc o):NU ops x k:=by
 unfold pP at hx;have:∀(l:List Edge) (s:List Nat),(∀e∈l,e∈o.after)->(∀x∈s,NU ops x k)->∀x∈l.foldl (fun s e=>if Region.binds .any e then rT (rT s [e.on]) (acc.getD e.on [])else s) s,NU ops x k:=by
  intro l
  induction l with
  |nil=>intro s _ hs x hx;exact hs x hx
  |cons e l ih=>
   intro s hl hs x hx;simp only[Vg]at hx;refine ih _ (fun e he=>hl e (by simp[he])) (fun y hy=>?_) x hx;split at hy
   ·rename_i hb;rcases ym hy with hy|hy
    ·rcases ym hy with hy|hy
     ·exact hs y hy
     ·rw[QR.1 hy];exact .OK ho (hl e Zs) hb
    ·exact .step ho (hl e Zs) hb (U5 _ _ hy)
   ·exact hs y hy
 exact this o.after.toList [] (fun e he=>by simpa using he) (fun _ h=>by cases h) x hx
theorem Fk:∀(l:List Oper) (acc:List (List Nat)),(∀j,l[j]? =ops[acc.length+j]?)->(∀j x,x∈acc.getD j []->NU ops x j)->∀j x,x∈(Od l acc).getD j []->NU ops x j:=by
 intro l
 induction l with
 |nil=>intro acc _ h;exact h
 |cons o l ih=>
  intro acc hl U5;refine ih (acc++[pP acc o]) (fun j=>?_) (fun j x hx=>?_)
  ·have:=hl (j+1);simp only[Vm]at this;rw[this];simp;congr 1;omega
  ·by_cases e:j < acc.length
   ·rw[Vh,Vj e,<- Vh]at hx;exact U5 j x hx
   ·rw[Vh,Vl Zo]at hx;by_cases e2:j - acc.length=0
    ·rw[e2]at hx;have hj:j=acc.length:=by omega
     subst hj;have h0:=hl 0;simp at h0 hx;exact AQ h0.symm U5 hx
    ·have:([pP acc o]:List (List Nat))[j - acc.length]? =none:=by
      rw[Vp];simp;omega
     rw[this]at hx;simp at hx
theorem iQ {x j:Nat}(h:x∈(ij ops).getD j []):NU ops x j:=Fk ops.toList [] Zs Zs j x h
theorem uE(hb:zC ops=true){gO t:Nat}(hf:ops.size<=gO){x y:Nat}(h:NU ops x y):y < ops.size->J8 (jf ops gO t (Array.replicate ops.size false)) x y:=by
 have hu:oI ops (Array.replicate ops.size false)=List.range ops.size:=by
  exact zAU
 obtain⟨s1,s2,s3⟩:=y8 hb gO t (Array.replicate ops.size false) Zs (by rw[hu];simpa using hf);have OK:∀{i:Nat} {o:Oper} {e:Edge},ops[i]? =some o->e∈o.after->Region.binds .any e=true->J8 (jf ops gO t (Array.replicate ops.size false)) e.on i:=by
  intro i o e ho he T9;have hi:i < ops.size:=(v8.1 ho).1;rcases s3 i ((s2 i).2 (by rw[hu];simpa using hi)) o ho e he T9 with h|h
  ·have:e.on < ops.size:=Nat.lt_trans (fj hb ho he T9) hi;simp[this]at h
  ·exact h
 induction h with
 |OK ho he T9=>intro _;exact OK ho he T9
 |step ho he T9 _ ih=>
  intro hi;exact(ih (Nat.lt_trans (fj hb ho he T9) hi)).trans (OK ho he T9)
def x9(x:Nat):List Nat->List (List Nat)
 |[]=>[[x]]
 |y::r=>(x::y::r)::(x9 x r).map (y::·)
def Ha:List Nat->List (List Nat)
 |[]=>[[]]
 |x::r=>(Ha r).flatMap (x9 x)
theorem Js {x:Nat}(l1 l2:List Nat):l1++x::l2∈x9 x (l1++l2):=by
 induction l1 with
 |nil=>cases l2 <;> simp[x9]
 |cons a l1 ih=>simp only[vr,x9,QH,QM];right;exact⟨_,ih,rfl⟩
theorem sM:∀{d s:List Nat},s.Perm d->s∈Ha d:=by
 intro d
 induction d with
 |nil=>intro s h;rw[List.perm_nil.1 h];simp[Ha]
 |cons x d ih=>
  intro s h;have hx:x∈s:=h.mem_iff.2 Zs;obtain⟨l1,l2,rfl⟩:=vp hx;have:=ih (List.Perm.cons_inv ((QZ (a:=x) (l₁:=l1) (l₂:=l2)).symm.trans h));simp only[Ha,QL];exact⟨_,this,Js l1 l2⟩
def UI(x y:Nat):List Nat->Bool
 |[]=>false
 |z::r=>if z=x then r.contains y else UI x y r
theorem Oj {x y:Nat}:∀{l:List Nat},UI x y l=true->[x,y].Sublist l:=by
 intro l
 induction l with
 |nil=>intro h;cases h
 |cons z r ih=>
  intro h;simp only[UI]at h;split at h
  ·rename_i e;subst e;exact List.Sublist.cons_cons _ (List.singleton_sublist.2 (by simpa using h))
  ·exact List.Sublist.cons _ (ih h)
def zm(p:Nat->Nat->Bool):List Nat->Bool
 |[]=>true
 |x::r=>r.all (p x)&&zm p r
theorem Bj {p:Nat->Nat->Bool}:∀{l:List Nat},zm p l=true->l.Pairwise fun x y=>p x y=true:=by
 intro l
 induction l with
 |nil=>intro _;exact .nil
 |cons x r ih=>
  intro h;simp only[zm,vF,ve]at h;exact .cons h.1 (ih h.2)
theorem GP {n:Nat}:∀{o:List Nat},o.Nodup->(∀x∈o,x < n)->o.length=n->∀{x},x < n->x∈o:=by
 induction n with
 |zero=>intro o _ _ _ x hx;omega
 |succ n ih=>
  intro o hn aS hlen x hx;have bO:n∈o:=by
   refine Classical.byContradiction fun dt=>?_
   have h2:∀x∈o,x < n:=fun y hy=>by
    have:=aS y hy;have:y≠n:=fun e=>dt (e ▸ hy)
    omega
   have key:∀(m:Nat) (l:List Nat),l.Nodup->(∀y∈l,y < m)->l.length<=m:=by
    intro m
    induction m with
    |zero=>intro l _ h;cases l with|nil=>simp|cons a l=>exact absurd (h a Zs) Zo
    |succ m ihm=>
     intro l hl hb;have:=ihm (l.erase m) (hl.erase m) (fun y hy=>by
      have h1:=hb y (List.mem_of_mem_erase hy);have h2:y≠m:=fun e=>by rw[e]at hy;exact(hl.mem_erase_iff.1 hy).1 rfl
      omega)
     by_cases hm:m∈l
     ·rw[List.length_erase_of_mem hm]at this;omega
     ·rw[List.erase_of_not_mem hm]at this;omega
   have:=key n o hn h2;omega
  by_cases e:x=n
  ·exact e ▸ bO
  ·have:=ih (o:=o.erase n) (hn.erase n) (fun y hy=>by
    have h1:=aS y (List.mem_of_mem_erase hy);have h2:y≠n:=fun e=>by rw[e]at hy;exact(hn.mem_erase_iff.1 hy).1 rfl
    omega) (by rw[List.length_erase_of_mem bO];omega) (x:=x) Zo
   exact List.mem_of_mem_erase this
instance:Inhabited RO:=⟨⟨none,none,.oF⟩⟩
def nJ(rs:List (RO×Oper))(x y:Nat):Bool:=match rs[x]?,rs[y]? with|some a,some b=>indep b a|_,_=>false
def nodupB:List Nat->Bool
 |[]=>true
 |x::r=>!r.contains x&&nodupB r
theorem tE:∀{l:List Nat},nodupB l=true->l.Nodup:=by
 intro l
 induction l with
 |nil=>intro _;exact .nil
 |cons x r ih=>
  intro h;simp only[nodupB,vF,vN]at h;exact QU.2 ⟨by simpa using h.1,ih h.2⟩
def Fv(both:Bool)(rs:List (RO×Oper))(an:List (List Nat))(n:Nat):List Nat:=
 (List.range n).filter fun x=>(List.range n).any fun y=>x !=y&&!(an.getD x []).contains y&&!(an.getD y []).contains x&&!(if both then nJ rs x y&&nJ rs y x else nJ rs x y||nJ rs y x)
def fk(both:Bool)(rs:List (RO×Oper))(ops:Array Oper)(orders:List (List Nat)):Bool:=
 let an:=ij ops
 let n:=ops.size
 let d:=Fv both rs an n
 zC ops&&nodupB d&&orders.all (fun o=>o.length==n&&nodupB o&&o.all (·< n))&&
 (Ha d).all fun s=>!(zm (fun x y=>!(an.getD x []).contains y) s)||orders.any fun o=>zm (fun x y=>nJ rs x y||(an.getD y []).contains x||UI x y s) o
def oT(rs:List (RO×Oper))(ops:Array Oper)(orders:List (List Nat)):Bool:=fk false rs ops orders||fk true rs ops orders
theorem Kj {both:Bool}{P:Program}{n:Nat}{rs:List (RO×Oper)}{orders:List (List Nat)}{Q:Act->World->Prop}{a:Act}{w:World}(hlen:rs.length=ops.size)(hX:∀(i:Nat) x,rs[i]? =some x->Good P n ops x)
 (hc:fk both rs ops orders=true) (h:∀o∈orders,cr P wU Q (o.map fun i=>rs.getD i default) a w) (t:Nat):
 cr P wU Q ((jf ops ops.size t (Array.replicate ops.size false)).map fun i=>rs.getD i default) a w:=by
 simp only[fk,vF]at hc;obtain⟨⟨⟨hb,hd⟩,ho⟩,hp⟩:=hc;have hu:oI ops (Array.replicate ops.size false)=List.range ops.size:=by
  exact zAU
 obtain⟨s1,s2,_⟩:=y8 hb ops.size t (Array.replicate ops.size false) Zs (by rw[hu];simp);generalize hl:jf ops ops.size t (Array.replicate ops.size false)=l at s1 s2|-;have U6:∀{x y:Nat},y < ops.size->x∈(ij ops).getD y []->J8 l x y:=fun hy hx=>hl ▸ uE hb (Qn _) (iQ hx) hy
 have bO:∀i,i∈l↔i < ops.size:=fun i=>by rw[s2,hu];simp
 generalize IW:Fv both rs (ij ops) ops.size=d at hd hp;have hdlt:∀x∈d,x < ops.size:=by
  exact zCX
 have Gw:(l.filter (d.contains ·)).Perm d:=by
  exact zBE
 have au:=ve.1 hp _ (sM Gw);simp only[vR,vN,vh]at au;have Gs:zm (fun x y=>!((ij ops).getD x []).contains y) (l.filter (d.contains ·))=true:=by
  exact zAD
 rcases au with au|⟨o,NH,hpo⟩
 ·rw[Gs]at au;cases au
 have xV:=ve.1 ho o NH;simp only[vF,beq_iff_eq,ve,decide_eq_true_eq]at xV;obtain⟨⟨o1,o2⟩,o3⟩:=xV;have dI:o.Perm l:=by
  exact zAI
 refine reorder (P:=P) (n:=n) (ops:=ops) l o dI s1 (fun i hi=>?_) ?_ (h o NH)
 ·have bQ:=(bO i).1 hi;have:rs[i]? =some (rs.getD i default):=by
   rw[Vh];have aS:i < rs.length:=by omega
   simp[aS]
  exact hX i _ this
 ·exact zAN
theorem cover {P:Program}{n:Nat}{rs:List (RO×Oper)}{orders:List (List Nat)}{Q:Act->World->Prop}{a:Act}{w:World}(hlen:rs.length=ops.size)(hX:∀(i:Nat) x,rs[i]? =some x->Good P n ops x)
 (hc:oT rs ops orders=true) (h:∀o∈orders,cr P wU Q (o.map fun i=>rs.getD i default) a w) (t:Nat):
 cr P wU Q ((jf ops ops.size t (Array.replicate ops.size false)).map fun i=>rs.getD i default) a w:=by
 unfold oT at hc;rcases vS.1 hc with hc|hc
 ·exact Kj hlen hX hc h t
 ·exact Kj hlen hX hc h t
end
abbrev Env:=List (Nat×Value)
abbrev SH:=List (List kC)
def look:Env->Nat->Option Value
 |[],_=>none
 |(s,v)::r,t=>if s=t then some v else look r t
def ev(Γ:Env):Operand->Option Value
 |.tmp t=>look Γ t
 |.const v=>some v
 |.global g=>some (.pointer (some ⟨g,0,none⟩))
 |.func f=>some (.func (.func f) #[] #[])
def nI(Γ:Env):List Operand->Option (List Value)
 |[]=>some []
 |x::r=>match ev Γ x,nI Γ r with
  |some v,some l=>some (v::l)
  |_,_=>none
structure w8 (n:Nat)(Γ:Env)(a:Act):Prop where
 size:a.tmps.size=n
 slots:∀t v,look Γ t=some v->a.tmps[t]? =some v
def Sub(Γ Δ:Env):Prop:=∀t v,look Δ t=some v->look Γ t=some v
theorem w8.sub {n:Nat}{Γ Δ:Env}{a:Act}(h:w8 n Γ a)(s:Sub Γ Δ):w8 n Δ a:=⟨h.size,fun t v e=>h.slots t v (s t v e)⟩
theorem w8.put {n:Nat}{Γ:Env}{a:Act}(h:w8 n Γ a){d:Nat}(hd:d < n)(v:Value):w8 n ((d,v)::Γ) (a.put (some d) v):=by
 refine⟨by simp[Act.put,h.size],fun t u e=>?_⟩;simp only[look]at e;split at e
 ·rename_i O4;subst O4;cases e;simp[Act.put,h.size,hd]
 ·rename_i bZ;simp only[Act.put,vA bZ];exact h.slots t u e
theorem w8.ev {n:Nat}{Γ:Env}{a:Act}(h:w8 n Γ a){x:Operand}{v:Value}(e:ev Γ x=some v):a.eval x=v:=by
 cases x with
 |tmp t=>simp only[V.ev]at e;simp[Act.eval,Array.getD_eq_getD_getElem?,h.slots t v e]
 |const u=>simpa[V.ev,Act.eval]using e
 |global g=>simpa[V.ev,Act.eval]using e
 |func f=>simpa[V.ev,Act.eval]using e
theorem w8.nI {n:Nat}{Γ:Env}{a:Act}(h:w8 n Γ a):∀{l:List Operand} {vs:List Value},nI Γ l=some vs->l.map a.eval=vs:=by
 intro l
 induction l with
 |nil=>intro vs e;simp[V.nI]at e;subst e;rfl
 |cons x r ih=>
  intro vs e;simp only[V.nI]at e;split at e
  ·rename_i v l hv hl;cases e;simp[h.ev hv,ih hl]
  ·cases e
def ap(d:Option Nat)(v:Value)(Γ:Env):Env:=match d with|some d=>(d,v)::Γ|none=>Γ
theorem w8.ap {n:Nat}{Γ:Env}{a:Act}(h:w8 n Γ a){d:Option Nat}(hd:∀t,d=some t->t < n)(v:Value):w8 n (V.ap d v Γ) (a.put d v):=by
 cases d with
 |none=>exact h
 |some d=>exact h.put (hd d rfl) v
def rQ(P:Program)(n:Nat)(rs:List RO)(l:List (RO×Oper)):Prop:=l.map (·.1)=rs/\∀x∈l,∃ops,dP P n ops x.2=some x.1
theorem jg(a:Act)(d:Option Nat)(v:Value):(a.put d v).defers=a.defers:=by cases d <;> rfl
def VO(P:Program)(n:Nat)(rs:List RO)(Γ:Env)(H:SH)(Z:List PanicEntry->Env->SH->Prop)(K:Env->SH->Prop):Prop:=
 ∀l,rQ P n rs l->∀a w F (ZZ:Exit->Act->World->Prop) (Q:Act->World->Prop),w8 n Γ a->Sat w (H.flatten++F)->
  (∀a' w' ay H',K ay H'->w8 n ay a'->a'.defers=a.defers->Sat w' (H'.flatten++F)->kg w w'->Q a' w')->
  (∀ch a' w' ay H',Z ch ay H'->w8 n ay a'->a'.defers=a.defers->Sat w' (H'.flatten++F)->kg w w'->ZZ (.panic ch) a' w')->cr P ZZ Q l a w
def aw(P:Program)(f:Nat)(args:List Value)(bm:SH)(Q:Value->SH->Prop):Prop:=
 wE P f=true/\∀F w,Sat w (bm.flatten++F)->
  Calls P f args.toArray w fun e w'=>∃v Post,e=.returned v/\Q v Post/\Sat w' (Post.flatten++F)/\kg w w'
def eo(H bm R:SH):Prop:=H.flatten.Perm (bm.flatten++R.flatten)
section
variable {P:Program} {n:Nat} {rs:List RO} {Γ Δ:Env} {H:SH} {Z:List PanicEntry->Env->SH->Prop} {K:Env->SH->Prop}
theorem VO.nil(h:K Γ H):VO P n [] Γ H Z K:=by
 intro l hl a w F ZZ Q ha hs hq hz;obtain rfl:l=[]:=by simpa using hl.1
 exact hq a w Γ H h ha rfl hs (.refl w)
theorem VO.sub(s:Sub Γ Δ)(h:VO P n rs Δ H Z K):VO P n rs Γ H Z K:=fun l hl a w F ZZ Q ha hs hq hz=>h l hl a w F ZZ Q (ha.sub s) hs hq hz
theorem VO.mono {K':Env->SH->Prop}(h:VO P n rs Γ H Z K)(hk:∀Γ H,K Γ H->K' Γ H):VO P n rs Γ H Z K':=fun l hl a w F ZZ Q ha hs hq hz=>h l hl a w F ZZ Q ha hs (fun a' w' ay H' k=>hq a' w' ay H' (hk _ _ k)) hz
theorem zS {r:RO}{l:List (RO×Oper)}(h:rQ P n (r::rs) l):∃o l',l=(r,o)::l'/\rQ P n rs l'/\∃ops,dP P n ops o=some r:=by
 obtain⟨h1,h2⟩:=h;cases l with
 |nil=>simp at h1
 |cons x l=>
  simp at h1;obtain⟨rfl,h1⟩:=h1;exact⟨x.2,l,rfl,⟨h1,fun y hy=>h2 y B9⟩,h2 x Zs⟩
theorem VO.pure {d:Option Nat}{r:R}{v:Value}(hp:kd r=true)(hv:∀ρ:Operand->Value,(∀x u,ev Γ x=some u->ρ x=u)->kW ρ r=some v)(h:VO P n rs (ap d v Γ) H Z K):VO P n (⟨d,none,r⟩::rs) Γ H Z K:=by
 intro l hl a w F ZZ Q ha hs hq hz;obtain⟨o,l',rfl,rJ,ops,ho⟩:=zS hl;obtain⟨g1,g2,g3,g4⟩:=jI ho;show wA P ZZ (_,o) (cr P ZZ Q l') a w;unfold wA;simp only[jE,hp,if_true];exact⟨v,hv a.eval (fun x u e=>ha.ev e),h l' rJ _ w F ZZ Q (ha.ap g3 v) hs (fun a2 w2 cu H2 k1 k2 k3 k4 k5=>hq a2 w2 cu H2 k1 k2 (k3.trans (jg ..)) k4 k5) (fun ch a2 w2 cu H2 k1 k2 k3 k4 k5=>hz ch a2 w2 cu H2 k1 k2 (k3.trans (jg ..)) k4 k5)⟩
theorem VO.read {d:Option Nat}{r:R}{v:Value}(hp:kd r=false)(hr:jG r=true)(hv:∀ρ:Operand->Value,(∀x u,ev Γ x=some u->ρ x=u)->∃s,wQ ρ r=some s/\∀F w,Sat w (H.flatten++F)->s.run P w=.ok (.value v) w)
 (h:VO P n rs (ap d v Γ) H Z K):VO P n (⟨d,none,r⟩::rs) Γ H Z K:=by
 intro l hl a w F ZZ Q ha hs hq hz;obtain⟨o,l',rfl,rJ,ops,ho⟩:=zS hl;obtain⟨g1,g2,g3,g4⟩:=jI ho;show wA P ZZ (_,o) (cr P ZZ Q l') a w;unfold wA;obtain⟨s,h1,h2⟩:=hv a.eval (fun x u e=>ha.ev e);simp only[jE,hp,hr,if_true,vL,if_false];exact⟨s,v,h1,fun w2 e2=>h2 F w2 (hs.ext e2),h l' rJ _ w F ZZ Q (ha.ap g3 v) hs (fun a2 w2 cu H2 k1 k2 k3 k4 k5=>hq a2 w2 cu H2 k1 k2 (k3.trans (jg ..)) k4 k5) (fun ch a2 w2 cu H2 k1 k2 k3 k4 k5=>hz ch a2 w2 cu H2 k1 k2 (k3.trans (jg ..)) k4 k5)⟩
theorem pY {w:World}(o:Obj):Ext w {w with heap:=w.heap.push o}:=fun i x h=>by
 have hl:=(v8.1 h).1;show(w.heap.push o)[i]? =_;rw[Array.getElem?_push,if_neg (Nat.ne_of_lt hl)];exact h
theorem IH {w:World}{a:Addr}{n:Nat}(h:w.heap.size<=a.block):∀{w':World},Ext w w'->Ext w (w'.freeze a n):=by
 intro w' e i o hi;have hl:=(v8.1 hi).1;unfold World.freeze;split
 ·exact e _ _ hi
 ·have:=e _ _ hi;simp only[v9,this,if_neg (show ¬a.block=i by omega)]
theorem gw {w w':World}{c:Array Value}{t:TypeId}{f:Nat->Next}{nx:Next}(h:(do let b <- Go.newObj (.cells c t);pure (f b):Sem Next).run P w=.ok nx w'):nx=f w.heap.size/\Ext w w':=by
 simp only[Go.newObj,Sem.run_bind,Sem.run,Sem.run_pure,Result.andThen_ok]at h;cases h;exact⟨rfl,pY _⟩
theorem Ht {w w':World}{t:TypeId}{s:ByteArray}{v:Value}(h:(Conv.stringToBytes t s).run P w=.ok v w'):Ext w w':=by
 unfold Conv.stringToBytes at h;rw[Sem.run_bind]at h;obtain⟨cap,w1,h1,h2⟩:=ky h;have e1:w1.heap=w.heap:=by
  simp only[Go.choose,Sem.run]at h1;split at h1 <;> (cases h1;rfl)
 have x1:Ext w w1:=fun i o e=>by rw[e1];exact e
 refine x1.trans ?_;rw[Sem.run_bind]at h2;obtain⟨a,w2,h3,h4⟩:=ky h2;have h3':a=⟨w1.heap.size,0,none⟩/\w2={w1 with heap:=w1.heap.push (.cells (s.data.map (fun b=>Value.int .u8 b.toNat)++Array.replicate (cap - s.size) (.int .u8 0)) t)}:=by
  simp only[newRow,Go.newObj,Sem.run_bind,Sem.run,Sem.run_pure,Result.andThen_ok]at h3;cases h3;exact⟨rfl,rfl⟩
 obtain⟨rfl,rfl⟩:=h3';rw[Sem.run_bind]at h4;obtain⟨_,w3,h5,h6⟩:=ky h4;rw[Sem.run_pure]at h6;cases h6;unfold markStringish at h5;rw[Sem.run_bind]at h5;simp only[Go.shape,Sem.run,Result.andThen_ok]at h5;split at h5
 ·simp only[Go.freeze,Sem.run]at h5;cases h5;exact IH (Qn _) (pY _)
 ·rw[Sem.run_pure]at h5;cases h5;exact pY _
theorem D9 {P:Program}{a:Addr}:∀(k i:Nat) (acc:Array Value) (w1:World) (r:Array Value) (w2:World),(loadCellsFrom a i k acc).run P w1=.ok r w2->w2=w1:=by
 exact zBC
theorem oX {P:Program}{size n:Nat}{x:Value}{w w':World}{c:Array Value}(h:(Builtin.firstCells size n x).run P w=.ok c w'):w'=w:=by
 unfold Builtin.firstCells at h;split at h
 ·exact D9 _ _ _ _ _ _ h
 ·rw[Sem.run_pure]at h;cases h;rfl
 ·rw[Sem.run_pure]at h;cases h;rfl
 ·simp[stuck,Sem.run]at h
theorem Rn {ρ:Operand->Value}{r:R}{s:Sem Next}{w w':World}{nx:Next}(aO:∀u,ρ (.const u)=u)(hn:mY r=true)(hs:wQ ρ r=some s)(h:s.run P w=.ok nx w'):∃u,nx=.value u/\Ext w w':=by
 cases r
 case append t size bytes zero sx x=>
  have e:sx=.const Nz :=by
   unfold mY at hn;split at hn <;> first|(rename_i e;cases e;done)|(rename_i e;cases e;rfl)|cases hn
  subst e;simp only[wQ,aO,X4]at hs;subst hs;cases hm:ej (ρ x)with
  |none=>rw[hm]at h;simp[stuck,Sem.run]at h
  |some m=>
   rw[hm]at h;simp only at h;split at h
   ·rw[Sem.run_bind]at h;obtain⟨c,w1,h1,h2⟩:=ky h;rw[oX h1]at h2;simp only[Sem.run_bind,Sem.run_pure,Result.andThen_ok]at h2;cases h2;exact⟨_,rfl,.refl _⟩
   ·split at h
    ·simp[stuck,Sem.run]at h
    ·rw[Sem.run_bind]at h;obtain⟨cap,w1,h1,h2⟩:=ky h;have e1:w1.heap=w.heap:=by
      simp only[Go.choose,Sem.run]at h1;split at h1 <;> (cases h1;rfl)
     have x1:Ext w w1:=fun i o e=>by rw[e1];exact e
     rw[Sem.run_bind]at h2;obtain⟨old,w2,h3,h4⟩:=ky h2;rw[oX h3]at h4;rw[Sem.run_bind]at h4;obtain⟨new,w3,h5,h6⟩:=ky h4;rw[oX h5]at h6;obtain⟨rfl,e⟩:=gw h6;exact⟨_,rfl,x1.trans e⟩
 all_goals simp only[mY]at hn
 all_goals first|(cases hn;done)|skip
 all_goals (simp only[wQ,X4]at hs;subst hs)
 case alloc=>obtain⟨rfl,e⟩:=gw h;exact⟨_,rfl,e⟩
 case box=>obtain⟨rfl,e⟩:=gw h;exact⟨_,rfl,e⟩
 case gM=>
  split at h
  ·obtain⟨rfl,e⟩:=gw h;exact⟨_,rfl,e⟩
  ·simp[stuck,Sem.run]at h
 case oF=>
  simp only[Go.newObj,Sem.run_bind,Sem.run,Sem.run_pure,Result.andThen_ok]at h;cases h;exact⟨_,rfl,pY _⟩
 case s2b=>
  split at h
  ·rw[Sem.run_bind]at h;obtain⟨v,w1,h1,h2⟩:=ky h;rw[Sem.run_pure]at h2;cases h2;exact⟨_,rfl,Ht h1⟩
  ·simp[stuck,Sem.run]at h
theorem VO.act {d:Option Nat}{r:R}(hp:kd r=false)(hr:jG r=false)
 (hv:∀ρ:Operand->Value,(∀x u,ev Γ x=some u->ρ x=u)->∃s,wQ ρ r=some s/\aK P s H.flatten fun nx L=>∃v H',(nx=.value v∨(nx=.skip/\v=undef))/\L.Perm H'.flatten/\VO P n rs (ap d v Γ) H' Z K):
 VO P n (⟨d,none,r⟩::rs) Γ H Z K:=by
 intro l hl a w F ZZ Q ha hs hq hz;obtain⟨o,l',rfl,rJ,ops,ho⟩:=zS hl;obtain⟨g1,g2,g3,g4⟩:=jI ho;show wA P ZZ (_,o) (cr P ZZ Q l') a w;unfold wA;obtain⟨s,h1,h2⟩:=hv a.eval (fun x u e=>ha.ev e);simp only[jE,hp,hr,if_true,vL,if_false];obtain⟨nx,w',L,bB,⟨v,H',hnx,hL,hvo⟩,sB,hk⟩:=h2 F w hs;have Pn:=sN (yB a) g1 h1 bB;refine⟨fun hn=>?_,?_⟩
 ·obtain⟨u,hu,hext⟩:=Rn (yB a) hn h1 bB;exact⟨u,w',by rw[Pn,hu],hext⟩
 have fin:cr P ZZ Q l' (a.put o.dst v) w':=by
  rw[<- g2];exact hvo l' rJ _ w' F ZZ Q (ha.ap g3 v) (sB.perm (hL.append_right F)) (fun a2 w2 cu H2 k1 k2 k3 k4 k5=>hq a2 w2 cu H2 k1 k2 (k3.trans (jg ..)) k4 (hk.trans k5)) (fun ch a2 w2 cu H2 k1 k2 k3 k4 k5=>hz ch a2 w2 cu H2 k1 k2 (k3.trans (jg ..)) k4 (hk.trans k5))
 rcases hnx with rfl|⟨rfl,rfl⟩
 ·simpa only[AL,Pn,jo]using fin
 ·simpa only[AL,Pn,jo]using fin
theorem VO.Z9 {d:Option Nat}{r:R}(hp:kd r=false)(hr:jG r=false)
 (hv:∀ρ:Operand->Value,(∀x u,ev Γ x=some u->ρ x=u)->∃s,wQ ρ r=some s/\aK P s H.flatten fun nx L=>∃v H' X,(nx=.value v∨(nx=.skip/\v=undef))/\L.Perm (List.flatten H'++X)/\VO P n rs (ap d v Γ) H' Z K):
 VO P n (⟨d,none,r⟩::rs) Γ H Z K:=by
 refine VO.act hp hr (fun ρ aO=>?_);obtain⟨s,h1,h2⟩:=hv ρ aO;refine⟨s,h1,fun F w hs=>?_⟩;obtain⟨nx,w',L,k1,⟨v,H',X,k2,k3,k4⟩,k5,k6⟩:=h2 F w hs;refine⟨nx,w',H'.flatten,k1,⟨v,H',k2,.refl _,k4⟩,?_,k6⟩;have:=k5.perm (k3.append_right F);exact zEN
theorem zb {f:Nat}{args:Array Value}{w:World}(h:wE P f=true):(callFunc f args).run P w=.ok (.enter f args) w:=by
 unfold wE at h;split at h
 ·rename_i fn hf;simp only[vF,bne_iff_ne]at h;obtain⟨c,hc⟩:=Qz.1 h.2;simp[callFunc,hf,h.1,hc]
 ·cases h
theorem La {o:Oper}{a:Act}{w:World}{f:Nat}{args:List Value}{next:Act->World->Prop}{ZZ:Exit->Act->World->Prop}(he:(execOp a.eval o).run P w=.ok (.enter f args.toArray) w)
 (h:Calls P f args.toArray w fun e w'=>(∃v,e=.returned v/\next (a.put o.dst v) w')∨(∃ch,e=.panicked ch/\ZZ (.panic ch) a w')):AL P o a w next ZZ:=by
 simp only[AL,he,jo];refine h.mono ?_
 rintro e w' (⟨v,rfl,hn⟩|⟨ch,rfl,hn⟩)
 ·exact hn
 ·exact hn
theorem VO.Oq {d:Option Nat}{r:R}{f:Nat}{args:List Value}{bm R:SH}{Q:Value->SH->Prop}(hp:kd r=false)(hr:jG r=false)(hnw:mY r=false)
 (hx:∀(a:Act) (w:World) (o:Oper),(∀x u,ev Γ x=some u->a.eval x=u)->j7 P o.op=some r->(execOp a.eval o).run P w=.ok (.enter f args.toArray) w)
 (hf:aw P f args bm Q) (hs:eo H bm R) (h:∀v Post,Q v Post->VO P n rs (ap d v Γ) (Post++R) Z K):VO P n (⟨d,none,r⟩::rs) Γ H Z K:=by
 intro l hl a w F ZZ Q' ha iw hq hz;obtain⟨o,l',rfl,rJ,ops,ho⟩:=zS hl;obtain⟨g1,g2,g3,g4⟩:=jI ho;show wA P ZZ (_,o) (cr P ZZ Q' l') a w;unfold wA;simp only[jE,hp,hr,if_true,vL,if_false];refine⟨fun e=>(by rw[hnw]at e;cases e),?_⟩;refine La (hx a w o (fun x u e=>ha.ev e) g1) ?_;have xX:Sat w (bm.flatten++(R.flatten++F)):=by
  exact zDG
 refine(hf.2 (R.flatten++F) w xX).mono ?_
 rintro e w' ⟨v,Post,rfl,hQ,sB,hk⟩
 refine .inl ⟨v,rfl,?_⟩;exact zBO
theorem qG {op:Op}{f:Nat}{xs:List Operand}(h:j7 P op=some (.call f xs)):∃c,op=.call c/\c.callee=.value (.func f)/\c.args.toList=xs/\wE P f=true:=by
 cases op
 case call c=>
  refine⟨c,rfl,?_⟩;obtain⟨callee,args,Oh⟩:=c;simp only[j7]at h;split at h
  ·split at h
   ·rename_i hc;cases h;exact⟨rfl,rfl,hc⟩
   ·cases h
  ·cases h
  all_goals (repeat' split at h)
  all_goals first
   |(cases h;done)
   |(simp only[X0]at h;obtain⟨_,_,h⟩:=h;cases h;done)
 all_goals (exfalso;try simp only[j7]at h)
 all_goals (repeat' split at h)
 all_goals first
  |(cases h;done)
  |(simp only[X0]at h;obtain⟨_,_,h⟩:=h;cases h;done)
theorem CO {op:Op}{x:Operand}{xs:List Operand}(h:j7 P op=some (.pT x xs)):∃c,op=.call c/\c.callee=.value x/\c.args.toList=xs:=by
 cases op
 case call c=>
  refine⟨c,rfl,?_⟩;obtain⟨callee,args,Oh⟩:=c;simp only[j7]at h;split at h
  ·split at h
   ·cases h
   ·cases h
  ·cases h;exact⟨rfl,rfl⟩
  all_goals (repeat' split at h)
  all_goals first
   |(cases h;done)
   |(simp only[X0]at h;obtain⟨_,_,h⟩:=h;cases h;done)
 all_goals (exfalso;try simp only[j7]at h)
 all_goals (repeat' split at h)
 all_goals first
  |(cases h;done)
  |(simp only[X0]at h;obtain⟨_,_,h⟩:=h;cases h;done)
theorem VO.call {d:Option Nat}{f:Nat}{xs:List Operand}{args:List Value}{bm R:SH}{Q:Value->SH->Prop}(hf:aw P f args bm Q)(he:nI Γ xs=some args)(hs:eo H bm R)
 (h:∀v Post,Q v Post->VO P n rs (ap d v Γ) (Post++R) Z K):VO P n (⟨d,none,.call f xs⟩::rs) Γ H Z K:=by
 refine VO.Oq rfl rfl rfl (fun a w o ha hl=>?_) hf hs h;obtain⟨c,h1,h2,h3,h4⟩:=qG hl;have hm:xs.map a.eval=args:=by
  have:∀{l:List Operand} {vs:List Value},nI Γ l=some vs->l.map a.eval=vs:=by
   intro l
   induction l with
   |nil=>intro vs e;simp[nI]at e;subst e;rfl
   |cons x r ih=>
    intro vs e;simp only[nI]at e;split at e
    ·rename_i v l hv hl;cases e;simp[ha _ _ hv,ih hl]
    ·cases e
  exact this he
 have cp:(c.args.map a.eval)=args.toArray:=by
  exact zEX
 simp[execOp,h1,resolve,h2,Act.eval,Deferred.ofValue,invoke,cp,zb h4]
end
inductive IC where
 |skip
 |lU (rs:List RO) (aV:List Nat)
 |draw (rL:List (List RO)) (aV:List Nat)
 |seq (a b:IC)
 |cond (c:Operand) (a b:IC)
 |block (id:Nat) (b:IC)
 |loop (b:IC)
 |exit (id:Nat)
 |ret
 |hK (g:Operand) (ps:List Nat) (Iq b:IC)
 |free (rs:List RO) (an:List (List Nat)) (aV:List Nat)
 |scope (b:IC)
 |label (l:Nat)
def zx(P:Program)(n:Nat)(ops:Array Oper):List Oper->Option (List RO)
 |[]=>some []
 |o::r=>match dP P n ops o,zx P n ops r with
  |some x,some l=>some (x::l)
  |_,_=>none
def zG(P:Program)(n:Nat)(kp:Nat->List Nat)(od:Nat->List (List Nat)):Code->Option IC
 |.skip=>some .skip
 |.region id ops false=>(zx P n ops ops.toList).map fun rs=>.lU rs (kp id)
 |.region id ops true=>
  match zx P n ops ops.toList with
  |some rs=>if(od id).isEmpty then(if P.follows .mixedOrders&&zC ops then some (.free rs (ij ops) (kp id))else none)else
   if P.follows .mixedOrders&&oT (rs.zip ops.toList) ops (od id)then some (.draw ((od id).map fun o=>o.map fun i=>rs.getD i default) (kp id))else none
  |none=>none
 |.seq a b=>match zG P n kp od a,zG P n kp od b with
  |some x,some y=>some (.seq x y)
  |_,_=>none
 |.cond c a b=>match zG P n kp od a,zG P n kp od b with
  |some x,some y=>some (.cond c x y)
  |_,_=>none
 |.block id b=>(zG P n kp od b).map (IC.block id)
 |.loop b=>(zG P n kp od b).map IC.loop
 |.exit id=>some (.exit id)
 |.ret=>some .ret
 |.rangeFunc g ps x b=>match zG P n kp od x,zG P n kp od b with
  |some x,some y=>if ps.all (·< n)then some (.hK g ps.toList x y)else none
  |_,_=>none
 |.scope b=>(zG P n kp od b).map IC.scope
 |.label l=>some (.label l)
 |_=>none
def Z3(P:Program)(n:Nat)(kp:Nat->List Nat)(od:Nat->List (List Nat)):IC->Code->Prop
 |.skip,code=>code=.skip
 |.lU rs aV,code=>∃id ops,code=.region id ops false/\zx P n ops ops.toList=some rs/\aV=kp id
 |.draw rL aV,code=>∃id ops rs,code=.region id ops true/\zx P n ops ops.toList=some rs/\P.follows .mixedOrders=true/\oT (rs.zip ops.toList) ops (od id)=true/\rL=((od id).map fun o=>o.map fun i=>rs.getD i default)/\aV=kp id
 |.free rs an aV,code=>∃id ops,code=.region id ops true/\zx P n ops ops.toList=some rs/\P.follows .mixedOrders=true/\zC ops=true/\an=ij ops/\aV=kp id
 |.seq x y,code=>∃a b,code=.seq a b/\zG P n kp od a=some x/\zG P n kp od b=some y
 |.cond c x y,code=>∃a b,code=.cond c a b/\zG P n kp od a=some x/\zG P n kp od b=some y
 |.block id x,code=>∃a,code=.block id a/\zG P n kp od a=some x
 |.loop x,code=>∃a,code=.loop a/\zG P n kp od a=some x
 |.exit id,code=>code=.exit id
 |.ret,code=>code=.ret
 |.hK g ps x y,code=>∃qs a b,code=.rangeFunc g qs a b/\qs.toList=ps/\(∀t∈ps,t < n)/\zG P n kp od a=some x/\zG P n kp od b=some y
 |.scope x,code=>∃a,code=.scope a/\zG P n kp od a=some x
 |.label l,code=>code=.label l
theorem jd {P:Program}{n:Nat}{kp:Nat->List Nat}{od:Nat->List (List Nat)}{code:Code}{c:IC}(h:zG P n kp od code=some c):Z3 P n kp od c code:=by
 cases code with
 |skip=>simp only[zG]at h;cases h;rfl
 |region id ops b=>
  cases b
  ·simp only[zG,X0]at h;obtain⟨rs,h1,rfl⟩:=h;exact⟨id,ops,rfl,h1,rfl⟩
  ·simp only[zG]at h;split at h
   case h_2=>cases h
   rename_i rs h1;split at h
   ·split at h
    case isFalse=>cases h
    rename_i hc;simp only[vF]at hc;cases h;exact⟨id,ops,rfl,h1,hc.1,hc.2,rfl,rfl⟩
   split at h
   case isFalse=>cases h
   rename_i hc;simp only[vF]at hc;cases h;exact⟨id,ops,rs,rfl,h1,hc.1,hc.2,rfl,rfl⟩
 |seq a b=>
  exact zEH
 |cond q a b=>
  exact zEH
 |block id b=>
  exact zD5
 |loop b=>
  exact zD5
 |exit id=>simp only[zG]at h;cases h;rfl
 |ret=>simp only[zG]at h;cases h;rfl
 |rangeFunc g ps a b=>
  simp only[zG]at h;split at h
  case h_2=>cases h
  rename_i x y h1 h2;split at h
  case isFalse=>cases h
  rename_i hp;cases h;exact⟨ps,a,b,rfl,rfl,fun t ht=>by have:=Array.all_eq_true_iff_forall_mem.1 hp t (by simpa using ht);simpa using this,h1,h2⟩
 |scope b=>
  exact zD5
 |label l=>simp only[zG]at h;cases h;rfl
 |_=>simp only[zG]at h;cases h
def aR:List Nat->Env->Env
 |[],_=>[]
 |t::r,Γ=>match look Γ t with
  |some v=>(t,v)::aR r Γ
  |none=>aR r Γ
theorem n6(k:List Nat)(Γ:Env):Sub Γ (aR k Γ):=by
 induction k with
 |nil=>intro t v h;simp[aR,look]at h
 |cons s r ih=>
  intro t v h;simp only[aR]at h;split at h
  ·rename_i u hu;simp only[look]at h;split at h
   ·rename_i e;subst e;cases h;exact hu
   ·exact ih t v h
  ·exact ih t v h
def oS(r:Nat):Deferred:={target:=.collected r,args:=#[]}
def marks(X:List Nat):List kC:=X.map fun r=>.obj r (.deferred (some []))
def Rnd(ρ:Option Nat)(F:List kC):Prop:=∀l,ρ=some l->∃r,kC.obj l (.loop r)∈F
theorem Rnd.more {ρ:Option Nat}{F F':List kC}(h:Rnd ρ F)(hf:∀x∈F,x∈F'):Rnd ρ F':=fun l e=>let⟨r,hr⟩:=h l e;⟨r,hf _ hr⟩
def VC(P:Program)(n:Nat)(c:IC)(Γ:Env)(H:SH)(Q:Exit->Env->SH->Prop):Prop:=
 ∀ρ kp od code,zG P n kp od code=some c->∀a w F (QQ:Exit->Act->World->Prop),Rnd ρ F->w8 n Γ a->Sat w (H.flatten++F)->
  (∀e a' w' ay H' X,Q e ay H'->w8 n ay a'->a'.defers=X.map oS++a.defers->Sat w' (H'.flatten++(F++marks X))->kg w w'->QQ e a' w')->code.wpIn (AP ρ) 0 P QQ a w
def ao(H H':SH):Prop:=∃R,eo H H' R
theorem ao.refl(H:SH):ao H H:=⟨[],by simp[eo]⟩
theorem Sat.imp {w:World}{H H':SH}{F:List kC}(h:ao H H')(hs:Sat w (H.flatten++F)):Sat w (H'.flatten++F):=by
 obtain⟨R,hR⟩:=h;have:=hs.perm (hR.append_right F);exact zEN
def bC(K:Env->SH->Prop)(Q:Exit->Env->SH->Prop):Exit->Env->SH->Prop
 |.normal,Γ,H=>K Γ H
 |e,Γ,H=>Q e Γ H
def bx(id:Nat)(Q:Exit->Env->SH->Prop):Exit->Env->SH->Prop
 |.exit i,Γ,H=>if i=id then Q .normal Γ H else Q (.exit i) Γ H
 |e,Γ,H=>Q e Γ H
section
variable {P:Program} {n:Nat} {Γ Δ:Env} {H:SH} {Q Q':Exit->Env->SH->Prop}
theorem Mt(X Y:List Nat):marks (X++Y)=marks X++marks Y:=by simp[marks]
theorem Sat.marks {w:World}{L F:List kC}{X Y:List Nat}(h:Sat w (L++((F++marks X)++marks Y))):Sat w (L++(F++marks (Y++X))):=by
 refine h.perm (vX _ ?_);rw[Mt,vj];exact zDX
theorem Sat.cf {w:World}{L F:List kC}(h:Sat w (L++F)):Sat w (L++(F++V.marks [])):=by simpa[V.marks]using h
theorem VC.mono {c:IC}(h:VC P n c Γ H Q)(hq:∀e Γ H,Q e Γ H->Q' e Γ H):VC P n c Γ H Q':=fun ρ kp od code hl a w F QQ hr ha hs hh=>
 h ρ kp od code hl a w F QQ hr ha hs (fun e a' w' ay H' X q=>hh e a' w' ay H' X (hq _ _ _ q))
theorem VC.sub {c:IC}(s:Sub Γ Δ)(h:VC P n c Δ H Q):VC P n c Γ H Q:=fun ρ kp od code hl a w F QQ hr ha hs hh=>h ρ kp od code hl a w F QQ hr (ha.sub s) hs hh
theorem VC.imp {c:IC}{H':SH}(i:ao H H')(h:VC P n c Γ H' Q):VC P n c Γ H Q:=fun ρ kp od code hl a w F QQ hr ha hs hh=>h ρ kp od code hl a w F QQ hr ha (hs.imp i) hh
theorem VC.skip(h:Q .normal Γ H):VC P n .skip Γ H Q:=by
 intro ρ kp od code hl a w F QQ hr ha hs hh;obtain rfl:=jd hl;exact wpIn_skip (hh _ _ _ _ _ [] h ha rfl hs.cf (.refl w))
theorem VC.exit {id:Nat}(h:Q (.exit id) Γ H):VC P n (.exit id) Γ H Q:=by
 intro ρ kp od code hl a w F QQ hr ha hs hh;obtain rfl:=jd hl;exact wpIn_exit (hh _ _ _ _ _ [] h ha rfl hs.cf (.refl w))
theorem VC.ret(h:Q .ret Γ H):VC P n .ret Γ H Q:=by
 intro ρ kp od code hl a w F QQ hr ha hs hh;obtain rfl:=jd hl;exact wpIn_ret (hh _ _ _ _ _ [] h ha rfl hs.cf (.refl w))
theorem VC.cond {c:Operand}{x y:IC}{t:Bool}(hc:ev Γ c=some (.bool t))(ht:t=true->VC P n x Γ H Q)(hf:t=false->VC P n y Γ H Q):VC P n (.cond c x y) Γ H Q:=by
 intro ρ kp od code hl a w F QQ hr ha hs hh;obtain⟨p,q,rfl,h1,h2⟩:=jd hl;exact wpIn_cond_split (ha.ev hc) (fun e=>ht e ρ kp od _ h1 a w F QQ hr ha hs hh) (fun e=>hf e ρ kp od _ h2 a w F QQ hr ha hs hh)
theorem VC.seq {x y:IC}(h:VC P n x Γ H (bC (fun ay H'=>VC P n y ay H' Q) Q)):VC P n (.seq x y) Γ H Q:=by
 intro ρ kp od code hl a w F QQ hr ha hs hh;obtain⟨p,q,rfl,h1,h2⟩:=jd hl;refine wpIn_seq (h ρ kp od _ h1 a w F _ hr ha hs (fun e a' w' ay H' X q g1 g2 g3 g4=>?_));cases e <;> first
  |exact q ρ kp od _ h2 a' w' (F++marks X) QQ (hr.more (fun x hx=>Zw _ hx)) g1 g3 (fun e a2 w2 cu H2 Y q2 k1 k2 k3 k4=>hh e a2 w2 cu H2 (Y++X) q2 k1 (by rw[k2,g2];simp) k3.marks (g4.trans k4))
  |exact hh _ _ _ _ _ X q g1 g2 g3 g4
theorem VC.block {id:Nat}{x:IC}(h:VC P n x Γ H (bx id Q)):VC P n (.block id x) Γ H Q:=by
 intro ρ kp od code hl a w F QQ hr ha hs hh;obtain⟨p,rfl,h1⟩:=jd hl;refine wpIn_block (h ρ kp od _ h1 a w F _ hr ha hs (fun e a' w' ay H' X q g1 g2 g3 g4=>?_));cases e <;> first
  |exact hh _ _ _ _ _ X q g1 g2 g3 g4
  |skip
 rename_i i;simp only[bx]at q;simp only[Exit.inBlock];split at q
 ·rename_i e;rw[if_pos e];exact hh _ _ _ _ _ X q g1 g2 g3 g4
 ·rename_i e;rw[if_neg e];exact hh _ _ _ _ _ X q g1 g2 g3 g4
theorem za {P:Program}{b:Frame}{a:Act}{k:List Item}{cs:List Frame}{w:World}{c:Code}:step P (lone (b.atR a (.code (.scope c)::k)) cs w)=.next (lone (b.atR a (.code c:: .inScope c::k)) cs w):=
 step_lone_go (by simp[stepG,stepG.exec,Frame.atR])
theorem At {P:Program}{b:Frame}{a:Act}{k:List Item}{cs:List Frame}{w:World}{c:Code}:step P (lone (b.atR a (.inScope c::k)) cs w)=.next (lone (b.atR a k) cs w):=
 step_lone_go (by simp[stepG,stepG.exec,Frame.atR])
theorem HS {F:Fence}{n:Nat}{P:Program}{Q:Exit->Act->World->Prop}{a:Act}{w:World}{c:Code}(h:c.wpIn F n P (fun e a w=>(∀l,e≠.goto l)/\Q e a w) a w):(Code.scope c).wpIn F n P Q a w:=by
 intro b k cs hro hb hr;have h0:(lone (b.atR a (.code (.scope c)::k)) cs w).fenced P F:=fenced_calm hb hr rfl;obtain⟨e,Oi,TZ,⟨hg,hq⟩,oZ⟩:=h b (.inScope c::k) cs hro hb hr;cases e with
 |normal=>exact⟨.normal,Oi,TZ,hq,.head h0 za (StepsIn.trans oZ (.one (fenced_calm hb hr rfl) At))⟩
 |exit id=>
  have hx:exitTo id (.inScope c::k)=exitTo id k:=by simp[exitTo]
  exact⟨.exit id,Oi,TZ,hq,fun k' hk=>.head h0 za (oZ.1 k' (by rw[hx];exact hk)),
   fun AK hk=>let⟨k₁,h1,h2⟩:=oZ.2 AK (by rw[hx];exact hk);⟨k₁,h1,.head h0 za h2⟩⟩
 |goto l=>exact absurd rfl (hg l)
 |ret=>exact⟨_,Oi,TZ,hq,.of_steps (.one h0 za) oZ⟩
 |panic ch=>exact⟨_,Oi,TZ,hq,.of_steps (.one h0 za) oZ⟩
 |outgrown=>exact⟨_,Oi,TZ,hq,.of_steps (.one h0 za) oZ⟩
theorem VC.scope {x:IC}(h:VC P n x Γ H fun e ay H'=>(∀l,e≠.goto l)/\Q e ay H'):VC P n (.scope x) Γ H Q:=by
 intro ρ kp od code hl a w F QQ hr ha hs hh;obtain⟨p,rfl,h1⟩:=jd hl;exact HS (h ρ kp od _ h1 a w F _ hr ha hs fun e a' w' ay H' X q g1 g2 g3 g4=>⟨q.1,hh _ _ _ _ _ X q.2 g1 g2 g3 g4⟩)
theorem VC.label {l:Nat}(h:Q .normal Γ H):VC P n (.label l) Γ H Q:=by
 intro ρ kp od code hl a w F QQ hr ha hs hh;obtain rfl:=jd hl;exact wpIn_label (hh _ _ _ _ _ [] h ha rfl hs.cf (.refl w))
theorem jv {ops:Array Oper}:∀{l:List Oper} {rs:List RO},zx P n ops l=some rs->rs.length=l.length/\∀(i:Nat) r o,rs[i]? =some r->l[i]? =some o->dP P n ops o=some r:=by
 intro l
 induction l with
 |nil=>intro rs h;simp[zx]at h;subst h;simp
 |cons o l ih=>
  intro rs h;simp only[zx]at h;split at h
  ·rename_i x l' hx hl;cases h;obtain⟨h1,h2⟩:=ih hl;refine⟨by simp[h1],fun i r o' hr ho=>?_⟩;cases i with
   |zero=>simp at hr ho;subst hr ho;exact hx
   |succ i=>simp at hr ho;exact h2 i r o' hr ho
  ·cases h
theorem z7 {ops:Array Oper}{rs:List RO}(h:zx P n ops ops.toList=some rs){i:Nat}(hi:i < ops.size):
 ops[i]? =some ((rs.zip ops.toList).getD i default).2/\((rs.zip ops.toList).getD i default).1=rs.getD i default/\dP P n ops ((rs.zip ops.toList).getD i default).2=some ((rs.zip ops.toList).getD i default).1:=by
 obtain⟨h1,h2⟩:=jv h;have hl:i < rs.length:=by rw[h1];simpa using hi
 have hz:(rs.zip ops.toList)[i]? =some (rs[i],ops[i]):=by
  rw[Zg (by rw[List.length_zip];simp only[Array.length_toList];omega)];simp
 have he:(rs.zip ops.toList).getD i default=(rs[i],ops[i]):=by rw[Vh,hz];rfl
 rw[he];refine⟨by simp[hi],by simp[Vh,hl],?_⟩;exact h2 i rs[i] ops[i] (by simp[hl]) (by simp[hi])
theorem VC.lU {rs:List RO}{aV:List Nat}(h:VO P n rs Γ H (fun ch ay H'=>Q (.panic ch) ay H') fun ay H'=>Q .normal (aR aV ay) H'):VC P n (.lU rs aV) Γ H Q:=by
 intro ρ kp od code hl a w F QQ hr ha hs hh;obtain⟨id,ops,rfl,h1,rfl⟩:=jd hl;refine wpIn_region ?_;refine eY (P:=P) (ρ:=ρ) (n:=n) (ops:=ops) (X:=fun i=>(rs.zip ops.toList).getD i default) (QQ:=QQ) (fun i hi=>?_) (List.range ops.size) a w (fun i hi=>by simpa using hi) ?_
 ·exact zDJ
 ·have hlen:=(jv h1).1;have DL:(List.range ops.size).map (fun i=>(rs.zip ops.toList).getD i default)=rs.zip ops.toList:=by
   exact zBA
  rw[DL];refine h (rs.zip ops.toList) ⟨?_,?_⟩ a w F _ _ ha hs (fun a' w' ay H' q g1 g2 g3 g4=>hh .normal a' w' _ H' [] q (g1.sub (n6 _ _)) g2 g3.cf g4) (fun ch a' w' ay H' q g1 g2 g3 g4=>hh (.panic ch) a' w' _ H' [] q g1 g2 g3.cf g4)
  ·rw[List.map_fst_zip];simp[hlen]
  ·exact zBG
theorem VC.draw {rL:List (List RO)}{aV:List Nat}(h:∀rs∈rL,VO P n rs Γ H (fun _ _ _=>False) fun ay H'=>Q .normal (aR aV ay) H'):VC P n (.draw rL aV) Γ H Q:=by
 intro ρ kp od code hl a w F QQ hr ha hs hh;obtain⟨id,ops,rs,rfl,h1,hm,hc,rfl,rfl⟩:=jd hl;have hlen:=(jv h1).1;refine wpIn_region_draw (fun t=>?_);have o6:Region.schedule (P.follows .mixedOrders) ops t=jf ops ops.size t (Array.replicate ops.size false):=by simp[Region.schedule,hm,Region.linearise,jf]
 rw[o6];have hu:oI ops (Array.replicate ops.size false)=List.range ops.size:=by
  exact zAU
 have et:zC ops=true:=by
  exact zEL
 have bO:=(y8 et ops.size t (Array.replicate ops.size false) Zs (by rw[hu];simp)).2.1;refine eY (P:=P) (ρ:=ρ) (n:=n) (ops:=ops) (X:=fun i=>(rs.zip ops.toList).getD i default) (QQ:=QQ) (fun i hi=>?_) _ a _ (fun i hi=>by rw[bO,hu]at hi;simpa using hi) ?_
 ·exact zDJ
 ·refine Dn ?_;refine cover (P:=P) (n:=n) (by simp[hlen]) (fun i x hx=>?_) hc (fun o ho=>?_) t
  ·have L6:i < (rs.zip ops.toList).length:=(Vt.1 hx).1;have hi3:i < ops.size:=by simp[hlen]at L6;omega
   obtain⟨g1,g2,g3⟩:=z7 h1 hi3;have:(rs.zip ops.toList).getD i default=x:=by rw[Vh,hx];rfl
   rw[this]at g3;exact Good.Sd g3
  ·have au:o.all (·< ops.size)=true:=by
    rcases vS.1 hc with hc|hc <;>
    ·simp only[fk,vF,ve]at hc;have:=hc.1.2 o ho;simp only[ve];exact this.2
   have aS:∀i∈o,i < ops.size:=by simpa[ve]using au
   refine h (o.map fun i=>rs.getD i default) (QM.2 ⟨o,ho,rfl⟩) _ ⟨?_,?_⟩ a {w with drawn:=w.drawn+1} F _ _ ha (hs.drawn _) (fun a' w' ay H' q g1 g2 g3 g4=>hh .normal a' w' _ H' [] q (g1.sub (n6 _ _)) g2 g3.cf ?_) (fun _ _ _ _ _ q=>q.elim)
   ·rw[QD];refine QB (fun i hi=>?_);obtain⟨g1,g2,g3⟩:=z7 h1 (aS i hi);exact g2
   ·intro x hx;obtain⟨i,hi,rfl⟩:=QM.1 hx;obtain⟨g1,g2,g3⟩:=z7 h1 (aS i hi);exact⟨ops,g3⟩
   ·exact((kg.refl w).drawn _).trans g4
theorem VC.loop {x:IC}{α:Type}(bi:α->Env)(Hf:α->SH)(I:α->Prop)(μ:α->Nat)(s0:α)(h0:I s0)(bj:Sub Γ (bi s0))(hH:ao H (Hf s0))
 (round:∀s,I s->VC P n x (bi s) (Hf s) (bC (fun ay H'=>∃s',I s'/\μ s' < μ s/\Sub ay (bi s')/\ao H' (Hf s')) Q)):VC P n (.loop x) Γ H Q:=by
 intro ρ kp od code hl a w F QQ hr ha hs hh;obtain⟨body,rfl,h1⟩:=jd hl;intro b k cs hro uF bX;have key:∀m s X,μ s=m->I s->∀a1 w1,w8 n (bi s) a1->a1.defers=X.map oS++a.defers->Sat w1 ((Hf s).flatten++(F++marks X))->kg w w1->
  ∃e a' w',QQ e a' w'/\ArrivesIn (Machine.fenced P (AP ρ)) P (lone (b.atR a1 (.code body:: .inLoop body::k)) cs w1) b k cs e a' w':=by
  intro m
  induction m using Nat.strongRecOn with
  |_ m ih=>
   intro s X hm hI a1 w1 ha1 hd1 sC um;have uz:=round s hI ρ kp od body h1 a1 w1 (F++marks X) (Exit.then (fun a' w'=>∃s' Y,I s'/\μ s' < μ s/\w8 n (bi s') a'/\a'.defers=(Y++X).map oS++a.defers/\Sat w' ((Hf s').flatten++(F++marks (Y++X)))/\kg w w') QQ) (hr.more (fun x hx=>Zw _ hx)) ha1 sC (fun e a' w' ay H' Y q g1 g2 g3 g4=>by
    cases e <;> first
     |(obtain⟨s',i1,i2,i3,i4⟩:=q;exact⟨s',Y,i1,i2,g1.sub i3,by rw[g2,hd1];simp,(g3.imp i4).marks,um.trans g4⟩)
     |exact hh _ _ _ _ _ (Y++X) q g1 (by rw[g2,hd1];simp) g3.marks (um.trans g4))
   obtain⟨e,a2,w2,hq,oZ⟩:=uz b (.inLoop body::k) cs hro uF bX;cases e with
   |normal=>
    obtain⟨s',Y,i1,i2,i3,i3',i4,i5⟩:=hq;obtain⟨e2,a3,w3,iN,harr2⟩:=ih (μ s') (hm ▸ i2) s' (Y++X) rfl i1 a2 w2 i3 i3' i4 i5;exact⟨e2,a3,w3,iN,.of_steps (StepsIn.trans oZ (.one (fenced_calm (n:=0) (fr:=b.atR a2 (.inLoop body::k)) uF bX rfl) stepR_inLoop)) harr2⟩
   |exit id=>exact⟨_,a2,w2,hq,.pass (x:=.inLoop body) rfl (fun _ _=>.inl Zs) oZ⟩
   |goto l=>exact⟨_,a2,w2,hq,.pass (x:=.inLoop body) rfl (fun _ _=>.inl Zs) oZ⟩
   |ret=>exact⟨_,a2,w2,hq,.pass (x:=.inLoop body) rfl (fun _ _=>.inl Zs) oZ⟩
   |panic ch=>exact⟨_,a2,w2,hq,.pass (x:=.inLoop body) rfl (fun _ _=>.inl Zs) oZ⟩
   |outgrown=>exact⟨_,a2,w2,hq,.pass (x:=.inLoop body) rfl (fun _ _=>.inl Zs) oZ⟩
 obtain⟨e,a',w',hq,oZ⟩:=key _ s0 [] rfl h0 a w (ha.sub bj) rfl (hs.imp hH).cf (.refl w);exact⟨e,a',w',hq,.of_steps (.one (fenced_calm (n:=0) (fr:=b.atR a (.code (.loop body)::k)) uF bX rfl) stepR_loop) oZ⟩
theorem VC.join {x y:IC}{α:Type}(bi:α->Env)(Hf:α->SH)(I:α->Prop)(h1:VC P n x Γ H (bC (fun ay H'=>∃s,I s/\Sub ay (bi s)/\ao H' (Hf s)) Q))
 (h2:∀s,I s->VC P n y (bi s) (Hf s) Q):VC P n (.seq x y) Γ H Q:=by
 refine VC.seq (h1.mono ?_);intro e ay H' q;cases e <;> first
  |(obtain⟨s,i1,i2,i3⟩:=q;exact VC.sub i2 (VC.imp i3 (h2 s i1)))
  |exact q
end
def zK {α:Type}(l:List (Nat×List α))(i:Nat):List α:=match l with
 |[]=>[]
 |(k,v)::r=>if k=i then v else zK r i
def rep(n:Nat)(l:List Value):List Value:=match n with
 |0=>[]
 |n+1=>l++rep n l
inductive RV where
 |tmp (t:Nat)
 |bV (t:Nat)
 |aN (t n:Nat)
structure aQ where
 n:Nat
 bI:List RV
 body:IC
def ww(P:Program):List ResultVar->Option (List RV)
 |[]=>some []
 |.tmp t::r=>(ww P r).map (.tmp t::·)
 |.cell a t::r=>match P.underlying t,P.info? t with
  |some (.struct _),some i=>(ww P r).map (.aN a i.size::·)
  |some (.array _ _),some i=>(ww P r).map (.aN a i.size::·)
  |some _,some _=>(ww P r).map (.bV a::·)
  |_,_=>none
def oq(P:Program)(kp:Nat->List Nat)(od:Nat->List (List Nat))(f:Nat):Option aQ:=
 match P.funcs[f]? with
 |none=>none
 |some fn=>match fn.body with
  |none=>none
  | some c => if fn.name != "runtime.NumGoroutine" then
     match zG P fn.ntmps kp od c,ww P fn.results.toList with
     |some b,some r=>some ⟨fn.ntmps,r,b⟩
     |_,_=>none
    else none
def aM:Nat->List Value->Env
 |_,[]=>[]
 |k,v::r=>(k,v)::aM (k+1) r
def bH:List Value->Value
 |[v]=>v
 |vs=>.tuple vs.toArray
inductive Ns (Γ:Env)(H:SH):List RV->List Value->Prop where
 |nil:Ns Γ H [] []
 |tmp {t:Nat} {v:Value} {r:List RV} {vs:List Value}:look Γ t=some v->Ns Γ H r vs->Ns Γ H (.tmp t::r) (v::vs)
 |bV {t b o:Nat} {v:Value} {r:List RV} {vs:List Value}:look Γ t=some (.pointer (some ⟨b,o,none⟩))->kC.cell b o v∈H.flatten->Ns Γ H r vs->Ns Γ H (.bV t::r) (v::vs)
 |aN {t b o n:Nat} {us:List Value} {r:List RV} {vs:List Value}:look Γ t=some (.pointer (some ⟨b,o,none⟩))->us.length=n->(∀x∈kA b o us,x∈H.flatten)->Ns Γ H r vs->Ns Γ H (.aN t n::r) (.agg us.toArray::vs)
def sf(bI:List RV)(Q:Value->SH->Prop):Exit->Env->SH->Prop:=fun e Γ H=>(e=.normal∨e=.ret)/\∃vs Post,Ns Γ H bI vs/\ao H Post/\Q (bH vs) Post
theorem Ea:∀{vs:List Value} {k t:Nat} {v:Value},look (aM k vs) t=some v->k<=t/\vs[t - k]? =some v:=by
 intro vs
 induction vs with
 |nil=>intro k t v h;simp[aM,look]at h
 |cons u r ih=>
  intro k t v h;simp only[aM,look]at h;split at h
  ·rename_i e;subst e;cases h;simp
  ·obtain⟨h1,h2⟩:=ih h;refine⟨Zo,?_⟩;have:t - k=(t - (k+1))+1:=by omega
   rw[this];simpa using h2
theorem Bd {P:Program}{b o:Nat}:∀(k i:Nat) (acc:Array Value) (w1:World) (r:Array Value) (w2:World),(loadCellsFrom ⟨b,o,none⟩ i k acc).run P w1=.ok r w2->w2=w1:=by
 exact zBC
theorem run_loadCells {P:Program}{b o m:Nat}{us:List Value}{H:List kC}{F:List kC}{w:World}(hn:us.length=m)(hm:∀x∈kA b o us,x∈H)(hs:Sat w (H++F)):
 (loadCells ⟨b,o,none⟩ m).run P w=.ok us.toArray w:=by
 have hsw:aK P (loadCells ⟨b,o,none⟩ m) H (fun r L=>r=us.toArray/\L=H):=aK.loadCells hn hm ⟨rfl,rfl⟩;obtain⟨r,w',L,h1,⟨rfl,rfl⟩,h3,h4⟩:=hsw F w hs;obtain rfl:=Bd _ _ _ _ _ _ h1;exact h1
theorem gz {P:Program}{fn:Func}{r:List RV}{a:Act}{n:Nat}{Γ:Env}{vs:List Value}{w:World}{H:SH}{F:List kC}(hs:Sat w (H.flatten++F))(hr:ww P fn.results.toList=some r)(ha:w8 n Γ a)(hv:Ns Γ H r vs):
 (results fn a.tmps).run P w=.ok (bH vs) w:=by
 have key:∀(l:List ResultVar) (r:List RV) (vs:List Value) (f:ResultVar->Sem Value),(∀t,f (.tmp t)=pure (a.tmps.getD t undef))->(∀x t,f (.cell x t)=(do loadVar t (<- asAddr (a.tmps.getD x undef))))->
  ww P l=some r->Ns Γ H r vs->(l.mapM f).run P w=.ok vs w:=by
  intro l
  induction l with
  |nil=>intro r vs f _ _ h1 h2;simp[ww]at h1;subst h1;cases h2;simp
  |cons x l ih=>
   intro r vs f hf DF h1 h2;cases x with
   |cell x t=>
    simp only[ww]at h1;have slot:∀{v},look Γ x=some v->a.tmps.getD x undef=v:=fun h=>by simp[Array.getD_eq_getD_getElem?,ha.slots x _ h]
    split at h1
    ·exact zBR
    ·exact zBR
    ·rename_i d j g1 g2 hu hj;simp only[X0]at h1;obtain⟨r',h3,rfl⟩:=h1;have hag:(isAgg t).run P w=.ok false w:=by rw[dN hu];cases d <;> simp_all
     cases h2 with
     |bV k1 k2 k4=>
      have hc:=(hs.cell (Zw F k2)).1;simp only[List.mapM_cons,Sem.run_bind,DF,slot k1,asAddr,Sem.run_pure,Result.andThen_ok,loadVar,hag,vL,if_false,run_load,hc,ih r' _ f hf DF h3 k4]
    ·cases h1
   |tmp t=>
    simp only[ww,X0]at h1;obtain⟨r',h3,rfl⟩:=h1;cases h2 with
    |tmp k1 k2=>
     rename_i v0 _;have hslot:a.tmps.getD t undef=v0:=by simp[Array.getD_eq_getD_getElem?,ha.slots t _ k1]
     simp only[List.mapM_cons,Sem.run_bind,hf,Sem.run_pure,Result.andThen_ok,ih r' _ f hf DF h3 k2,hslot]
 unfold results;simp only[Sem.run_bind];rw[Array.mapM_eq_mapM_toList];simp only[Sem.run_map];rw[key fn.results.toList r vs _ (fun t=>rfl) (fun x t=>rfl) hr hv];cases vs with
 |nil=>simp[bH]
 |cons v l=>cases l <;> simp[bH]
theorem aw.intro {P:Program}{kp:Nat->List Nat}{od:Nat->List (List Nat)}{f:Nat}{F:aQ}{args:List Value}{bm:SH}{Q:Value->SH->Prop}(hl:oq P kp od f=some F)(hn:args.length<=F.n)
 (h:VC P F.n F.body (aM 0 args) bm (sf F.bI Q)):aw P f args bm Q:=by
 unfold oq at hl;split at hl
 ·cases hl
 rename_i fn uF;split at hl
 ·cases hl
 rename_i c hc;split at hl
 case isFalse=>cases hl
 rename_i iu;split at hl
 case h_2=>cases hl
 rename_i b r hb hr;cases hl;refine⟨by simp only[wE,uF,iu,hc];rfl,fun FF w hs=>?_⟩;refine(callsIn_wide (n:=0)).1 (callsIn_of_wp_marks uF hc trivial (h none kp od c hb _ w FF _ (fun l e=>by cases e) ⟨?_,fun t v e=>?_⟩ hs (fun e a' w' ay H' X q g1 g2 g3 g4=>?_)))
 ·simp at hn|-;omega
 ·exact zAQ
 ·obtain⟨he,vs,Post,h1,h2,h3⟩:=q;have hb:LeavesInM (AP none) 0 P fn a'.tmps (fun e w'=>∃v Post,e=.returned v/\Q v Post/\Sat w' (Post.flatten++FF)/\kg w w') a'.defers .returning w':=by
   rw[g2,vm];clear g2
   induction X generalizing w' with
   |nil=>
    have g3':Sat w' (H'.flatten++FF):=by simpa[V.marks]using g3
    exact⟨_,gz g3' hr g1 h1,_,Post,rfl,h3,g3'.imp h2,g4⟩
   |cons r X ih=>
    have hp:(H'.flatten++(FF++V.marks (r::X))).Perm (.obj r (.deferred (some []))::(H'.flatten++(FF++V.marks X))):=by
     exact zCR
    have g5:=g3.perm hp;obtain⟨k1,k2⟩:=g5.obj (QJ ..);obtain⟨s1,s2⟩:=Sat.setObj (u:=.deferred none) g5 rfl;refine⟨Zs,.inl ⟨r,_,rfl,?_,ih _ (s1.sub (Qd ..)) (g4.trans s2)⟩⟩;exact zEI
  rcases he with rfl|rfl <;> exact hb
theorem aw.mono {P:Program}{f:Nat}{args:List Value}{bm:SH}{Q Q':Value->SH->Prop}(h:aw P f args bm Q)(hq:∀v Post,Q v Post->Q' v Post):aw P f args bm Q':=
 ⟨h.1,fun F w hs=>(h.2 F w hs).mono fun _ _ ⟨v,Post,a,b,c⟩=>⟨v,Post,a,hq _ _ b,c⟩⟩
end Go.V
