/-
  What the evaluator finds is so, whatever its numbers stand for: memory, values, what is reckoned.
-/
import Derived.Test.YtijnokbblmbpkaaGreatDoorS8
set_option linter.unusedSimpArgs false
set_option linter.unusedVariables false
namespace Go.V
open Go
def Ag(k:Nat)(σ τ:Sg):Prop:=∀i,i < k->σ.blk i=τ.blk i/\σ.off i=τ.off i/\σ.cap i=τ.cap i/\σ.tl i=τ.tl i
theorem Ag.refl(k:Nat)(σ:Sg):Ag k σ σ:=fun _ _=>⟨rfl,rfl,rfl,rfl⟩
theorem Ag.symm {k:Nat}{σ τ:Sg}(h:Ag k σ τ):Ag k τ σ:=fun i hi=>let⟨a,b,c,d⟩:=h i hi;⟨a.symm,b.symm,c.symm,d.symm⟩
theorem Ag.mono {k l:Nat}{σ τ:Sg}(h:Ag l σ τ)(hk:k<=l):Ag k σ τ:=fun i hi=>h i Zo
theorem Ag.trans {k l:Nat}{σ τ υ:Sg}(h:Ag k σ τ)(g:Ag l τ υ)(hk:k<=l):Ag k σ υ:=fun i hi=>
 let⟨a,b,c,d⟩:=h i hi;let⟨a',b',c',d'⟩:=g i Zo;⟨a.trans a',b.trans b',c.trans c',d.trans d'⟩
def ScV(k:Nat)(v:Value):Prop:=∀σ τ,Ag k σ τ->rn σ v=rn τ v
theorem ScV.mono {k l:Nat}{v:Value}(h:ScV k v)(hk:k<=l):ScV l v:=fun σ τ a=>h σ τ (a.mono hk)
theorem ScV.plain {k:Nat}{v:Value}(h:plainV v=true):ScV k v:=fun σ τ _=>by rw[rn_plain h,rn_plain h]
theorem ScV.plain1 {k:Nat}{v:Value}(h:V.plain1 v=true):ScV k v:=fun σ τ _=>by rw[rn_plain1 h,rn_plain1 h]
theorem map_inj {f g:Value->Value}:∀{l:List Value},l.map f=l.map g->∀v∈l,f v=g v:=by
 intro l
 induction l with
 |nil=>intro _ v h;cases h
 |cons x l ih=>
  intro h v hv;simp only[Vy,ve]at h;rcases Q4.1 hv with rfl|hv
  ·exact h.1
  ·exact ih h.2 v hv
theorem ScV.cells {k:Nat}{v:Value}(h:ScV k v):∀c∈v.cells.toList,ScV k c:=fun c hc σ τ a=>by
 have h1:=congrArg (fun u=>(Value.cells u).toList) (h σ τ a);simp only[rn_cells,vD]at h1;exact map_inj h1 c hc
theorem ScV.agg {k:Nat}{l:List Value}(h:∀v∈l,ScV k v):ScV k (.agg l.toArray):=fun σ τ a=>by
 simp only[rn_agg];congr 1;apply vC.1;simp only[vD];exact Vx fun x hx=>h x hx σ τ a
theorem ScV.tup {k:Nat}{l:List Value}(h:∀v∈l,ScV k v):ScV k (V.tup l):=by
 have ht:ScV k (.tuple l.toArray):=fun σ τ a=>by
  simp only[rn_tuple];congr 1;apply vC.1;simp only[vD];exact Vx fun x hx=>h x hx σ τ a
 cases l with
 |nil=>exact ht
 |cons x l=>cases l with
  |nil=>exact h x Zs
  |cons y l=>exact ht
theorem rn_tup(σ:Sg)(l:List Value):rn σ (V.tup l)=V.tup (l.map (rn σ)):=by
 cases l with
 |nil=>simp[V.tup]
 |cons x l=>cases l with
  |nil=>simp[V.tup]
  |cons y l=>simp[V.tup]
def rnO(σ:Sg):Obj->Obj
 |.map es c=>.map (es.map fun e=>{e with key:=rn σ e.key,val:=rn σ e.val}) c
 |o=>o
def zY(σ:Sg)(i:Nat):Blk->List kC
 |.cells vs=>kA (σ.blk i) (σ.off i) (vs.map (rn σ))
 |.grow _ vs=>kA (σ.blk i) (σ.off i) (vs.map (rn σ)++σ.tl i)
 |.obj o=>[.obj (σ.blk i) (rnO σ o)]
def kT(A:List kC)(σ:Sg):Mp->List kC
 |[]=>A
 |p::h=>zY σ p.1 p.2++kT A σ h
variable {A:List kC}
theorem instH_split {σ:Sg}:∀{h:Mp},(kT A σ h).Perm (A++kT [] σ h):=by
 intro h
 induction h with
 |nil=>simp[kT]
 |cons p h ih=>exact(vU _ ih).trans (z4 _ _ _)
def ScB(k:Nat):Blk->Prop
 |.cells vs=>∀v∈vs,ScV k v
 |.grow _ vs=>∀v∈vs,ScV k v
 |.obj o=>∀σ τ,Ag k σ τ->rnO σ o=rnO τ o
theorem ScB.mono {k l:Nat}{b:Blk}(h:ScB k b)(hk:k<=l):ScB l b:=by
 cases b with
 |cells vs=>exact fun v hv=>(h v hv).mono hk
 |grow s vs=>exact fun v hv=>(h v hv).mono hk
 |obj o=>exact fun σ τ a=>h σ τ (a.mono hk)
def GrB(σ:Sg)(i:Nat):Blk->Prop
 |.cells _=>True
 |.grow s vs=>vs.length+(σ.tl i).length=σ.cap i*s
 |.obj _=>σ.off i=0
structure ke (N0:Nat)(σ:Sg)(vals:List Value)(h:Mp)(nx:Nat):Prop where
 fix:∀g,g < N0->σ.blk g=g/\σ.off g=0
 le:N0<=nx
 ids:∀p∈h,p.1 < nx
 grow:∀p∈h,GrB σ p.1 p.2
 cells:∀p∈h,ScB nx p.2
 vals:∀v∈vals,ScV nx v
theorem ke.with {N0:Nat}{σ:Sg}{vals vals':List Value}{h:Mp}{nx:Nat}(g:ke N0 σ vals h nx)(hv:∀v∈vals',ScV nx v):ke N0 σ vals' h nx:=⟨g.fix,g.le,g.ids,g.grow,g.cells,hv⟩
theorem instB_ag {k i:Nat}{σ τ:Sg}{b:Blk}(a:Ag k σ τ)(hi:i < k)(hb:ScB k b):zY σ i b=zY τ i b:=by
 obtain⟨a1,a2,a3,a4⟩:=a i hi;cases b with
 |cells vs=>simp only[zY,a1,a2];congr 1;exact Vx fun v hv=>hb v hv σ τ a
 |grow s vs=>simp only[zY,a1,a2,a4];congr 2;exact Vx fun v hv=>hb v hv σ τ a
 |obj o=>simp only[zY,a1,hb σ τ a]
theorem instH_ag {k:Nat}{σ τ:Sg}{h:Mp}(a:Ag k σ τ)(hi:∀p∈h,p.1 < k)(hb:∀p∈h,ScB k p.2):kT A σ h=kT A τ h:=by
 induction h with
 |nil=>rfl
 |cons p h ih=>
  simp only[kT];rw[instB_ag a (hi p Zs) (hb p Zs),ih (fun q hq=>hi q (by simp[hq])) (fun q hq=>hb q (by simp[hq]))]
theorem GrB.ag {k i:Nat}{σ τ:Sg}{b:Blk}(a:Ag k σ τ)(hi:i < k)(h:GrB σ i b):GrB τ i b:=by
 obtain⟨a1,a2,a3,a4⟩:=a i hi;cases b with
 |cells vs=>trivial
 |grow s vs=>simpa only[GrB,<- a3,<- a4]using h
 |obj o=>simpa only[GrB,<- a2]using h
theorem zd {a b:Nat}(h:Nat.beq a b=true):a=b:=Nat.eq_of_beq_eq_true h
theorem beqF {a b:Nat}(h:Nat.beq a b=false):a≠b:=Nat.ne_of_beq_eq_false h
theorem bleT {a b:Nat}(h:Nat.ble a b=true):a<=b:=QV h
theorem bltT {a b:Nat}(h:Nat.blt a b=true):a < b:=QV h
theorem zF {h:Mp}{b:Nat}{k:Blk}(e:getB h b=some k):(b,k)∈h:=by
 induction h with
 |nil=>cases e
 |cons p h ih=>
  obtain⟨i,c⟩:=p;simp only[getB]at e;split at e
  ·rename_i hb;cases e;rw[zd hb];simp
  ·simp[ih e]
theorem delB_sub {h:Mp}{b:Nat}{p:Nat×Blk}(e:p∈delB h b):p∈h:=by
 induction h with
 |nil=>cases e
 |cons q h ih=>
  obtain⟨i,c⟩:=q;simp only[delB]at e;split at e
  ·simp[e]
  ·rcases Q4.1 e with rfl|e
   ·simp
   ·simp[ih e]
theorem setB_sub {h:Mp}{b:Nat}{c:Blk}{p:Nat×Blk}(e:p∈setB h b c):p∈h∨p=(b,c):=by
 induction h with
 |nil=>cases e
 |cons q h ih=>
  obtain⟨i,d⟩:=q;simp only[setB]at e;split at e
  ·rename_i hb;rcases Q4.1 e with rfl|e
   ·right;rw[zd hb]
   ·left;simp[e]
  ·rcases Q4.1 e with rfl|e
   ·simp
   ·rcases ih e with h1|h1
    ·left;simp[h1]
    ·exact .inr h1
theorem instH_get {σ:Sg}{h:Mp}{b:Nat}{k:Blk}(e:getB h b=some k):(kT A σ h).Perm (zY σ b k++kT A σ (delB h b)):=by
 induction h with
 |nil=>cases e
 |cons p h ih=>
  obtain⟨i,c⟩:=p;simp only[getB]at e;split at e
  ·rename_i hb;cases e;simp only[delB,hb];rw[zd hb];exact .refl _
  ·rename_i hb;simp only[delB,hb];exact(vU _ (ih e)).trans (z4 _ _ _)
theorem instH_set {σ:Sg}{h:Mp}{b:Nat}{k c:Blk}(e:getB h b=some k):(kT A σ (setB h b c)).Perm (zY σ b c++kT A σ (delB h b)):=by
 induction h with
 |nil=>cases e
 |cons p h ih=>
  obtain⟨i,d⟩:=p;simp only[getB]at e;split at e
  ·rename_i hb;cases e;simp only[delB,setB,hb];rw[zd hb];exact .refl _
  ·rename_i hb;simp only[delB,setB,hb];exact(vU _ (ih e)).trans (z4 _ _ _)
theorem rowB_inst {σ:Sg}{b:Nat}{k:Blk}{vs:List Value}(e:rowB k=some vs):∃tl,(∀us,zY σ b (putB k us)=kA (σ.blk b) (σ.off b) (us.map (rn σ)++tl))/\zY σ b k=kA (σ.blk b) (σ.off b) (vs.map (rn σ)++tl):=by
 cases k with
 |cells ws=>cases e;exact⟨[],fun us=>by simp[zY,putB],by simp[zY]⟩
 |grow s ws=>cases e;exact⟨σ.tl b,fun us=>rfl,rfl⟩
 |obj o=>cases e
theorem readN_spec {h:Mp}{b o n:Nat}{us:List Value}(e:readN h b o n=some us):∃k vs,getB h b=some k/\rowB k=some vs/\o+n<=vs.length/\us=(vs.drop o).take n:=by
 unfold readN at e;split at e
 case h_2=>cases e
 rename_i k hk;split at e
 case h_2=>cases e
 rename_i vs hvs;split at e
 case h_2=>cases e
 rename_i hb;cases e;exact⟨k,vs,hk,hvs,bleT hb,rfl⟩
theorem readN_len {h:Mp}{b o n:Nat}{us:List Value}(e:readN h b o n=some us):us.length=n:=by
 obtain⟨k,vs,_,_,h1,rfl⟩:=readN_spec e;simp;omega
theorem readN_sc {N0:Nat}{σ:Sg}{vals:List Value}{h:Mp}{nx b o n:Nat}{us:List Value}(g:ke N0 σ vals h nx)(e:readN h b o n=some us):∀v∈us,ScV nx v:=by
 obtain⟨k,vs,h1,h2,_,rfl⟩:=readN_spec e;have hs:=g.cells _ (zF h1);intro v hv;have hm:v∈vs:=List.mem_of_mem_drop (QA hv);cases k with
 |cells ws=>cases h2;exact hs v hm
 |grow s ws=>cases h2;exact hs v hm
 |obj o=>cases h2
theorem cellsAt_mem_sub {b o i m:Nat}{vs us:List Value}(h:us=(vs.drop i).take m):∀x∈kA b (o+i) us,x∈kA b o vs:=by
 intro x hx;subst h;obtain⟨j,v,hj,rfl⟩:=kI.1 hx;refine kI.2 ⟨i+j,v,?_,by congr 1;omega⟩;simp only[List.getElem?_take,Va]at hj;split at hj
 ·exact hj
 ·cases hj
theorem readN_mem {σ:Sg}{h:Mp}{b o n:Nat}{us:List Value}(e:readN h b o n=some us):∀x∈kA (σ.blk b) (σ.off b+o) (us.map (rn σ)),x∈kT A σ h:=by
 obtain⟨k,vs,h1,h2,h3,rfl⟩:=readN_spec e;obtain⟨tl,_,ht⟩:=rowB_inst (σ:=σ) (b:=b) h2;intro x hx;refine(instH_get h1).mem_iff.2 (Zw _ ?_);rw[ht];refine cellsAt_mem_sub (m:=n) (i:=o) ?_ x hx;rw[List.drop_append_of_le_length Zam,List.take_append_of_le_length Zam];simp[List.map_take,List.map_drop]
theorem oneCell_rn(σ:Sg)(v:Value):jc (rn σ v)=jc v:=by
 cases v <;> try simp[jc]
 ·rename_i a;cases a <;> simp[jc]
 ·rename_i a _ _;cases a <;> simp[jc]
 ·rename_i a;cases a <;> simp[jc]
theorem oneCells_rn(σ:Sg)(l:List Value)(h:l.all jc=true):(l.map (rn σ)).all jc=true:=by
 rw[vX]at h|-;intro x hx;obtain⟨y,hy,rfl⟩:=Q9.1 hx;rw[oneCell_rn];exact h y hy
def rnE(σ:Sg)(Γ:Env):Env:=Γ.map fun p=>(p.1,rn σ p.2)
theorem look_rn(σ:Sg)(Γ:Env)(t:Nat):look (rnE σ Γ) t=(look Γ t).map (rn σ):=by
 induction Γ with
 |nil=>rfl
 |cons p Γ ih=>
  simp only[rnE,Vy,look];by_cases e:p.1=t
  ·simp[e]
  ·simp only[e,if_false];exact ih
theorem look_mem {Γ:Env}{t:Nat}{v:Value}(h:look Γ t=some v):v∈Γ.map (·.2):=by
 induction Γ with
 |nil=>cases h
 |cons p Γ ih=>
  simp only[look]at h;split at h
  ·cases h;simp
  ·simp[ih h]
theorem rnE_put(σ:Sg)(d:Option Nat)(v:Value)(Γ:Env):rnE σ (putE d v Γ)=putE d (rn σ v) (rnE σ Γ):=by cases d <;> rfl
theorem put_vals {k:Nat}{d:Option Nat}{v:Value}{Γ:Env}(h:∀u∈v::Γ.map (·.2),ScV k u):∀u∈(putE d v Γ).map (·.2),ScV k u:=by
 cases d with
 |none=>exact fun u hu=>h u (Q5 _ hu)
 |some d=>simpa[putE]using h
theorem rnE_restr(σ:Sg)(k:List Nat)(Γ:Env):rnE σ (restr k Γ)=restr k (rnE σ Γ):=by
 induction k with
 |nil=>rfl
 |cons t k ih=>
  simp only[restr,look_rn];cases look Γ t with
  |none=>exact ih
  |some v=>simp only[Qm,rnE,Vy];congr 1
theorem restr_vals {n:Nat}{k:List Nat}{Γ:Env}(h:∀u∈Γ.map (·.2),ScV n u):∀u∈(restr k Γ).map (·.2),ScV n u:=by
 induction k with
 |nil=>intro u hu;cases hu
 |cons t k ih=>
  simp only[restr];split
  ·rename_i v hv;intro u hu;simp only[Vy,Q4]at hu;rcases hu with rfl|hu
   ·exact h _ (look_mem hv)
   ·exact ih u hu
  ·exact ih
theorem rnE_ag {k:Nat}{σ τ:Sg}{Γ:Env}(a:Ag k σ τ)(h:∀u∈Γ.map (·.2),ScV k u):rnE σ Γ=rnE τ Γ:=by
 unfold rnE;refine Vx fun p hp=>?_
 rw[h p.2 (Q9.2 ⟨p,hp,rfl⟩) σ τ a]
section
variable {N0 nx:Nat} {σ:Sg} {Γ:Env} {h:Mp}
theorem ev_rn(g:ke N0 σ (Γ.map (·.2)) h nx){x:Operand}{v:Value}(e:evS N0 Γ x=some v):ev (rnE σ Γ) x=some (rn σ v)/\ScV nx v:=by
 cases x with
 |tmp t=>
  simp only[evS]at e;refine⟨by simp only[ev,look_rn,e,Qm],g.vals _ (look_mem e)⟩
 |const u=>
  simp only[evS]at e;split at e
  ·rename_i hp;cases e;exact⟨by simp only[ev,rn_plain hp],ScV.plain hp⟩
  ·cases e
 |global i=>
  simp only[evS]at e;split at e
  ·rename_i hi;cases e;obtain⟨f1,f2⟩:=g.fix i (bltT hi);refine⟨by simp only[ev,rn_ptr,rnA,f1,f2],fun σ' τ' a=>?_⟩;obtain⟨a1,a2,_⟩:=a i (QZ (bltT hi) g.le);simp only[rn_ptr,rnA,a1,a2]
  ·cases e
 |func f=>
  simp only[evS,Qo]at e;subst e;exact⟨by simp[ev,rnF],fun σ' τ' a=>by simp[rnF]⟩
theorem evs_rn(g:ke N0 σ (Γ.map (·.2)) h nx):∀{xs:List Operand} {vs:List Value},evSs N0 Γ xs=some vs->evs (rnE σ Γ) xs=some (vs.map (rn σ))/\∀v∈vs,ScV nx v:=by
 intro xs
 induction xs with
 |nil=>intro vs e;simp only[evSs,Qo]at e;subst e;exact⟨rfl,fun v hv=>by cases hv⟩
 |cons x xs ih=>
  intro vs e;simp only[evSs]at e;split at e
  case h_2=>cases e
  rename_i v hv;split at e
  case h_2=>cases e
  rename_i l hl;cases e;obtain⟨h1,h2⟩:=ev_rn g hv;obtain⟨h3,h4⟩:=ih hl;refine⟨by simp only[evs,h1,h3,Vy],fun u hu=>?_⟩;rcases Q4.1 hu with rfl|hu
  ·exact h2
  ·exact h4 u hu
theorem known_rn(g:ke N0 σ (Γ.map (·.2)) h nx){x:Operand}(e:knownS N0 Γ x=true):known (rnE σ Γ) x=true/\evD (rnE σ Γ) x=rn σ (evSD N0 Γ x)/\ScV nx (evSD N0 Γ x):=by
 obtain⟨v,hv⟩:=Qj.1 e;obtain⟨h1,h2⟩:=ev_rn g hv;exact⟨by simp[known,h1],by simp[evD,evSD,h1,hv],by simpa[evSD,hv]using h2⟩
end
def updG(σ:Sg)(k b o c:Nat)(t:List Value):Sg:=⟨fun i=>if i=k then b else σ.blk i,fun i=>if i=k then o else σ.off i,fun i=>if i=k then c else σ.cap i,fun i=>if i=k then t else σ.tl i⟩
theorem updG_ag(σ:Sg)(k b o c:Nat)(t:List Value):Ag k σ (updG σ k b o c t):=fun i hi=>by
 simp only[updG,if_neg (Nat.ne_of_lt hi),and_self]
theorem updG_at(σ:Sg)(k b o c:Nat)(t:List Value):(updG σ k b o c t).blk k=b/\(updG σ k b o c t).off k=o/\(updG σ k b o c t).cap k=c/\(updG σ k b o c t).tl k=t:=by simp[updG]
theorem ke.new {N0 nx:Nat}{σ:Sg}{vals vals':List Value}{h h':Mp}{B:Blk}{b o c:Nat}{t:List Value}(g:ke N0 σ vals h nx)(hh:∀p∈h',p∈h)(hB:ScB (nx+1) B)(hG:GrB (updG σ nx b o c t) nx B)
 (hv:∀v∈vals',ScV (nx+1) v):ke N0 (updG σ nx b o c t) vals' ((nx,B)::h') (nx+1):=by
 have a:=updG_ag σ nx b o c t;refine⟨fun i hi=>?_,Nat.le_succ_of_le g.le,fun p hp=>?_,fun p hp=>?_,fun p hp=>?_,hv⟩
 ·obtain⟨a1,a2,_⟩:=a i (QZ hi g.le);rw[<- a1,<- a2];exact g.fix i hi
 ·rcases Q4.1 hp with rfl|hp
  ·exact Qa _
  ·exact Nat.lt_succ_of_lt (g.ids p (hh p hp))
 ·rcases Q4.1 hp with rfl|hp
  ·exact hG
  ·exact(g.grow p (hh p hp)).ag a (g.ids p (hh p hp))
 ·rcases Q4.1 hp with rfl|hp
  ·exact hB
  ·exact(g.cells p (hh p hp)).mono (QX _)
theorem instH_new {N0 nx:Nat}{σ:Sg}{vals:List Value}{h h':Mp}{B:Blk}{b o c:Nat}{t:List Value}(g:ke N0 σ vals h nx)(hh:∀p∈h',p∈h):
 kT A (updG σ nx b o c t) ((nx,B)::h')=zY (updG σ nx b o c t) nx B++kT A σ h':=by
 have:=instH_ag (A:=A) (updG_ag σ nx b o c t) (fun p hp=>g.ids p (hh p hp)) (fun p hp=>g.cells p (hh p hp));rw[this];rfl
theorem ScV.ptr {k i o:Nat}{s:Option Nat}(hi:i < k):ScV k (.pointer (some ⟨i,o,s⟩)):=fun σ τ a=>by
 obtain⟨a1,a2,_⟩:=a i hi;simp only[rn_ptr,rnA,a1,a2]
theorem ScV.slc {k i o n c:Nat}{s:Option Nat}(hi:i < k):ScV k (.slice (some ⟨i,o,s⟩) n c):=fun σ τ a=>by
 obtain⟨a1,a2,a3,_⟩:=a i hi;simp only[rn_slice,rnA,rnC,a1,a2,a3]
end Go.V
namespace Go.V
open Go
set_option maxHeartbeats 1600000
variable {A:List kC}
def rnCh(σ:Sg)(ch:List PanicEntry):List PanicEntry:=ch.map fun e=>{e with v:=rn σ e.v}
def SoundF(A:List kC)(P:Program)(N0:Nat)(F:CF):Prop:=∀f args h nx res,F f args h nx=some res->∀σ,ke N0 σ args h nx->
 jY P f (args.map (rn σ)) [kT A σ h] (fun v Post=>∃v0 h' nx' σ',res=.val v0 h' nx'/\Ag nx σ σ'/\nx<=nx'/\ke N0 σ' [v0] h' nx'/\v=rn σ' v0/\Post=[kT A σ' h'])
  (fun ch Post=>∃ch0 h' nx' σ',res=.pan ch0 h' nx'/\Ag nx σ σ'/\nx<=nx'/\ke N0 σ' (ch0.map (·.v)) h' nx'/\ch=rnCh σ' ch0/\Post=[kT A σ' h'])
section
variable {P:Program} {N0 nx n:Nat} {σ:Sg} {Γ:Env} {h:Mp} {rs:List RO} {d:Option Nat} {Z:List PanicEntry->Env->SH->Prop} {K:Env->SH->Prop}
theorem op_pure {r:R}{v:Value}(g:ke N0 σ (Γ.map (·.2)) h nx)(hp:kY r=true)(hc:okC r=true)(hk:(rOps r).all (knownS N0 Γ)=true)(ho:okS (evSD N0 Γ) r=true)(hv:kS (evSD N0 Γ) r=some v)
 (hok:ScV nx v->VO P n rs (putE d (rn σ v) (rnE σ Γ)) [kT A σ h] Z K):VO P n (⟨d,none,r⟩::rs) (rnE σ Γ) [kT A σ h] Z K:=by
 have hkk:=vX.1 hk;refine st_pure hp ?_ (v:=rn σ v) ?_ (hok fun τ υ a=>?_)
 ·rw[vX];exact fun x hx=>(known_rn g (hkk x hx)).1
 ·rw[<- pureV_rn (σ:=σ) hc ho hv];exact pureV_congr hp fun x hx=>(known_rn g (hkk x hx)).2.1
 ·have e1:=pureV_rn (σ:=τ) hc ho hv;have e2:=pureV_rn (σ:=υ) hc ho hv;have e3:kS (fun x=>rn τ (evSD N0 Γ x)) r=kS (fun x=>rn υ (evSD N0 Γ x)) r:=pureV_congr hp fun x hx=>(known_rn g (hkk x hx)).2.2 τ υ a
  rw[e1,e2]at e3;exact Qn e3
theorem op_load1 {x:Operand}{b o:Nat}{v:Value}(g:ke N0 σ (Γ.map (·.2)) h nx)(hx:evS N0 Γ x=some (.pointer (some ⟨b,o,none⟩)))(hr:readN h b o 1=some [v])
 (hok:ScV nx v->VO P n rs (putE d (rn σ v) (rnE σ Γ)) [kT A σ h] Z K):VO P n (⟨d,none,.load1 x⟩::rs) (rnE σ Γ) [kT A σ h] Z K:=by
 have hx':=(ev_rn g hx).1;simp only[rn_ptr,rnA]at hx';refine wL hx' (.among ?_) (hok (readN_sc g hr v Zs));exact readN_mem hr _ Zan
theorem op_loadN {x:Operand}{b o m:Nat}{us:List Value}(g:ke N0 σ (Γ.map (·.2)) h nx)(hx:evS N0 Γ x=some (.pointer (some ⟨b,o,none⟩)))(hr:readN h b o m=some us)
 (hok:ScV nx (.agg us.toArray)->VO P n rs (putE d (rn σ (.agg us.toArray)) (rnE σ Γ)) [kT A σ h] Z K):VO P n (⟨d,none,.loadN m x⟩::rs) (rnE σ Γ) [kT A σ h] Z K:=by
 have hx':=(ev_rn g hx).1;simp only[rn_ptr,rnA]at hx';have hk:=hok (ScV.agg (readN_sc g hr));have he:rn σ (.agg us.toArray)=.agg (us.map (rn σ)).toArray:=by simp
 rw[he]at hk;refine kZ hx' (fun a ha=>?_) (by rw[Vp];exact readN_len hr) hk;simp only[vz,V0,vd];exact readN_mem hr a ha
theorem new_imp {C:List kC}{B:List kC}(e:B=C++kT A σ h):Imp (C::[kT A σ h]) [B]:=by subst e;exact Imp.perm Zs
theorem op_alloc {t:TypeId}{z:List Value}(g:ke N0 σ (Γ.map (·.2)) h nx)(hz:z.all plain1=true)
 (hok:∀σ',Ag nx σ σ'->ke N0 σ' (.pointer (some ⟨nx,0,none⟩)::Γ.map (·.2)) ((nx,.cells z)::h) (nx+1)->VO P n rs (putE d (rn σ' (.pointer (some ⟨nx,0,none⟩))) (rnE σ' Γ)) [kT A σ' ((nx,.cells z)::h)] Z K):
 VO P n (⟨d,none,.alloc t z⟩::rs) (rnE σ Γ) [kT A σ h] Z K:=by
 refine kL fun b=>?_
 have a:=updG_ag σ nx b 0 0 [];obtain⟨u1,u2,_⟩:=updG_at σ nx b 0 0 [];have hk:=hok (updG σ nx b 0 0 []) a (g.new (fun p hp=>hp) (fun v hv=>ScV.plain1 (vX.1 hz v hv)) trivial (fun v hv=>by
  rcases Q4.1 hv with rfl|hv
  ·exact ScV.ptr (Qa _)
  ·exact(g.vals v hv).mono (QX _)))
 simp only[rn_ptr,rnA,u1,u2]at hk;rw[rnE_ag a g.vals];refine VO.imp (new_imp (B:=kT A (updG σ nx b 0 0 []) ((nx,.cells z)::h)) ?_) hk;rw[instH_new g (fun p hp=>hp)];simp only[zY,u1,u2,rn_plains hz]
theorem op_box {t:TypeId}{x:Operand}{v:Value}(g:ke N0 σ (Γ.map (·.2)) h nx)(hx:evS N0 Γ x=some v)
 (hok:∀σ',Ag nx σ σ'->ke N0 σ' (.pointer (some ⟨nx,0,none⟩)::Γ.map (·.2)) ((nx,.cells v.cells.toList)::h) (nx+1)->VO P n rs (putE d (rn σ' (.pointer (some ⟨nx,0,none⟩))) (rnE σ' Γ)) [kT A σ' ((nx,.cells v.cells.toList)::h)] Z K):
 VO P n (⟨d,none,.box t x⟩::rs) (rnE σ Γ) [kT A σ h] Z K:=by
 obtain⟨hx',hs⟩:=ev_rn g hx;refine kd hx' fun b=>?_
 have a:=updG_ag σ nx b 0 0 [];obtain⟨u1,u2,_⟩:=updG_at σ nx b 0 0 [];have hk:=hok (updG σ nx b 0 0 []) a (g.new (fun p hp=>hp) (fun w hw=>(hs.cells w hw).mono (QX _)) trivial (fun v hv=>by
  rcases Q4.1 hv with rfl|hv
  ·exact ScV.ptr (Qa _)
  ·exact(g.vals v hv).mono (QX _)))
 simp only[rn_ptr,rnA,u1,u2]at hk;rw[rnE_ag a g.vals];refine VO.imp (new_imp (B:=kT A (updG σ nx b 0 0 []) ((nx,.cells v.cells.toList)::h)) ?_) hk;rw[instH_new g (fun p hp=>hp)];simp only[zY,u1,u2];rw[rn_cells,vD]
 congr 2
 exact Vx fun w hw=>(hs.cells w hw _ _ a.symm)
theorem evParts_rn(g:ke N0 σ (Γ.map (·.2)) h nx){ps:List (Nat×Nat×Operand)}(hk:(ps.map (·.2.2)).all (knownS N0 Γ)=true):
 jP (evD (rnE σ Γ)) ps=(jP (evSD N0 Γ) ps).map fun(a,b,v)=>(a,b,rn σ v):=by
 simp only[jP,Vz];refine Vx fun p hp=>?_
 obtain⟨a,b,c⟩:=p;have:=(known_rn g (vX.1 hk c (Q9.2 ⟨_,hp,rfl⟩))).2.1;simp[this]
theorem putParts_sc {k:Nat}:∀{ps:List (Nat×Nat×Value)} {cs out:List Value},(∀v∈cs,ScV k v)->(∀p∈ps,ScV k p.2.2)->jT cs ps=some out->∀v∈out,ScV k v:=by
 intro ps
 induction ps with
 |nil=>intro cs out hc _ e;simp only[jT,Qo]at e;subst e;exact hc
 |cons p ps ih=>
  intro cs out hc hp e;obtain⟨o,s,v⟩:=p;simp only[jT]at e;split at e
  ·refine ih (fun u hu=>?_) (fun q hq=>hp q (by simp[hq])) e;rcases Q1.1 hu with hu|hu
   ·rcases Q1.1 hu with hu|hu
    ·exact hc u (QA hu)
    ·exact(hp (o,s,v) Zs).cells u hu
   ·exact hc u (List.mem_of_mem_drop hu)
  ·cases e
theorem zeroRow_plain {k:Nat}{z:List Value}(h:z.all plain1=true):(kf k z).all plain1=true:=by
 rw[vX]at h|-;intro x hx;simp only[kf,Q9,QB]at hx;obtain⟨i,hi,rfl⟩:=hx;have hz:0 < z.length:=Nat.pos_of_ne_zero fun e=>by rw[e]at hi;simp at hi
 have hlt:i % z.length < z.length:=Nat.mod_lt _ hz;rw[getElem!_pos z _ hlt];exact h _ (List.getElem_mem hlt)
theorem op_bslice {t:TypeId}{len:Nat}{z out:List Value}{ps:List (Nat×Nat×Operand)}(g:ke N0 σ (Γ.map (·.2)) h nx)(hz:z.all plain1=true)(hk:(ps.map (·.2.2)).all (knownS N0 Γ)=true)
 (ho:jT (kf len z) (jP (evSD N0 Γ) ps)=some out) (hlen:len < BIG)
 (hok:∀σ',Ag nx σ σ'->ke N0 σ' (.slice (some ⟨nx,0,none⟩) len len::Γ.map (·.2)) ((nx,.cells out)::h) (nx+1)->VO P n rs (putE d (rn σ' (.slice (some ⟨nx,0,none⟩) len len)) (rnE σ' Γ)) [kT A σ' ((nx,.cells out)::h)] Z K):
 VO P n (⟨d,none,.bslice t len z ps⟩::rs) (rnE σ Γ) [kT A σ h] Z K:=by
 have hzr:=zeroRow_plain (k:=len) hz;have hout:∀v∈out,ScV nx v:=putParts_sc (fun v hv=>ScV.plain1 (vX.1 hzr v hv)) (fun p hp=>by
  simp only[jP,Q9]at hp;obtain⟨q,hq,rfl⟩:=hp;exact(known_rn g (vX.1 hk _ (Q9.2 ⟨q,hq,rfl⟩))).2.2) ho
 refine j9 (out:=out.map (rn σ)) ?_ ?_ fun b=>?_
 ·rw[vX]at hk|-;exact fun x hx=>(known_rn g (hk x hx)).1
 ·rw[evParts_rn g hk];have:=putParts_rn (σ:=σ) ho;rw[rn_plains hzr]at this;exact this
 have a:=updG_ag σ nx b 0 0 [];obtain⟨u1,u2,_⟩:=updG_at σ nx b 0 0 [];have hk2:=hok (updG σ nx b 0 0 []) a (g.new (fun p hp=>hp) (fun w hw=>(hout w hw).mono (QX _)) trivial (fun v hv=>by
  rcases Q4.1 hv with rfl|hv
  ·exact ScV.slc (Qa _)
  ·exact(g.vals v hv).mono (QX _)))
 simp only[rn_slice,rnA,rnC,u1,u2,if_pos hlen]at hk2;rw[rnE_ag a g.vals];refine VO.imp (new_imp (B:=kT A (updG σ nx b 0 0 []) ((nx,.cells out)::h)) ?_) hk2;rw[instH_new g (fun p hp=>hp)];simp only[zY,u1,u2]
 congr 2
 exact Vx fun w hw=>(hout w hw _ _ a.symm)
theorem op_store {x y:Operand}{m b o:Nat}{u:Value}{h':Mp}(g:ke N0 σ (Γ.map (·.2)) h nx)(hx:evS N0 Γ x=some (.pointer (some ⟨b,o,none⟩)))(hy:evS N0 Γ y=some u)(hm:u.cells.toList.length=m)(hw:writeN h b o u.cells.toList=some h')
 (hok:ke N0 σ (undef::Γ.map (·.2)) h' nx->VO P n rs (putE d (rn σ undef) (rnE σ Γ)) [kT A σ h'] Z K):VO P n (⟨d,none,.store m x y⟩::rs) (rnE σ Γ) [kT A σ h] Z K:=by
 have hx':=(ev_rn g hx).1;obtain⟨hy',hs⟩:=ev_rn g hy;simp only[rn_ptr,rnA]at hx';have hcl:(rn σ u).cells.toList=u.cells.toList.map (rn σ):=by rw[rn_cells,vD]
 have hsc:=hs.cells;generalize u.cells.toList=us at hm hw hcl hsc;unfold writeN at hw;split at hw
 case h_2=>cases hw
 rename_i k hk;split at hw
 case h_2=>cases hw
 rename_i vs hvs;split at hw
 case h_2=>cases hw
 rename_i hlen;split at hw
 case h_2=>cases hw
 rename_i hone;cases hw;have hle:=bleT hlen;obtain⟨tl,t1,t2⟩:=rowB_inst (σ:=σ) (b:=b) hvs;have hsv:∀v∈vs,ScV nx v:=by
  have:=g.cells _ (zF hk);cases k with
  |cells ws=>cases hvs;exact this
  |grow s ws=>cases hvs;exact this
  |obj q=>cases hvs
 have hnew:∀v∈vs.take o++us++vs.drop (o+us.length),ScV nx v:=fun v hv=>by
  rcases Q1.1 hv with hv|hv
  ·rcases Q1.1 hv with hv|hv
   ·exact hsv v (QA hv)
   ·exact hsc v hv
  ·exact hsv v (List.mem_of_mem_drop hv)
 have hlen2:(vs.take o++us++vs.drop (o+us.length)).length=vs.length:=by simp;omega
 have hk2:=hok ⟨g.fix,g.le,fun p hp=>?_,fun p hp=>?_,fun p hp=>?_,fun v hv=>?_⟩
 ·refine VO.imp (Imp.perm (B:=[kA (σ.blk b) (σ.off b) (vs.map (rn σ)++tl),kT A σ (delB h b)]) ?_) ?_
  ·have:=instH_get (A:=A) (σ:=σ) hk;rw[t2]at this;simpa using this
  refine st_store (H':=[kA (σ.blk b) (σ.off b) ((vs.take o++us++vs.drop (o+us.length)).map (rn σ)++tl),kT A σ (delB h b)]) hx' hy' ?_ ?_ ?_ ?_
  ·rw[<- hm,<- Array.length_toList,hcl,Vp]
  ·rw[hcl];exact oneCells_rn σ _ hone
  ·rw[hcl];refine .cells Zo Zam ?_;have e0:σ.off b+o - σ.off b=o:=by omega
   rw[e0,List.take_append_of_le_length Zam,Vp,List.drop_append_of_le_length Zam];simp[List.map_take,List.map_drop]
  ·have hu:rn σ undef=undef:=rn_plain rfl;rw[hu]at hk2;refine VO.imp (Imp.perm ?_) hk2;have:=instH_set (A:=A) (σ:=σ) (c:=putB k (vs.take o++us++vs.drop (o+us.length))) hk;rw[t1]at this;simpa using this.symm
 ·rcases setB_sub hp with hp|rfl
  ·exact g.ids p hp
  ·exact g.ids (b,k) (zF hk)
 ·rcases setB_sub hp with hp|rfl
  ·exact g.grow p hp
  ·have:=g.grow (b,k) (zF hk);cases k with
   |cells ws=>trivial
   |grow s ws=>cases hvs;simp only[GrB,putB]at this|-;rw[hlen2];exact this
   |obj q=>cases hvs
 ·rcases setB_sub hp with hp|rfl
  ·exact g.cells p hp
  ·cases k with
   |cells ws=>exact hnew
   |grow s ws=>exact hnew
   |obj q=>cases hvs
 ·rcases Q4.1 hv with rfl|hv
  ·exact ScV.plain rfl
  ·exact g.vals v hv
end
end Go.V
namespace Go.V
open Go
set_option maxHeartbeats 1600000
variable {A:List kC}
section
variable {P:Program} {N0 nx n:Nat} {σ:Sg} {Γ:Env} {h:Mp} {rs:List RO} {d:Option Nat} {Z:List PanicEntry->Env->SH->Prop} {K:Env->SH->Prop}
theorem takeE_spec {size:Nat}{sv:Value}{xs:List Value}{h':Mp}(g:ke N0 σ (Γ.map (·.2)) h nx)(hsize:0 < size)(e:takeE h size sv=some (xs,h')):
 ∃k sp,jC size (rn σ sv) k (xs.map (rn σ)) sp/\(kT A σ h).Perm (slA (rn σ sv) (xs.map (rn σ)) sp++kT A σ h')/\(∀p∈h',p∈h)/\(∀v∈xs,ScV nx v):=by
 unfold takeE at e;split at e
 ·cases e;exact⟨0,[],by simpa using jC.nil,by simp[slA],fun p hp=>hp,fun v hv=>by cases hv⟩
 ·rename_i b o m c;split at e
  case h_2=>cases e
  split at e
  ·rename_i vs hk;split at e
   case h_2=>cases e
   rename_i hb;cases e;simp only[vF]at hb;obtain⟨hb1,hb2,hb3⟩:=hb;have e1:=zd hb1;have e2:=bleT hb2;have e3:=bltT hb3;have hms:m*size<=c*size:=Qc _ e2;refine⟨m,(vs.drop (m*size)).map (rn σ),?_,?_,fun p hp=>delB_sub hp,fun v hv=>g.cells _ (zF hk) v (QA hv)⟩
   ·simp only[rn_slice,rnA,rnC,if_pos e3];refine .mk ?_ ?_ e2
    ·rw[Vp,Vv];omega
    ·rw[Vp,Vp,Vv,Vm];omega
   ·refine(instH_get hk).trans (vV _ ?_);simp only[rn_slice,rnA,slA,zY,QU,<- Vw,QP];exact .refl _
  ·rename_i s vs hk;split at e
   case h_2=>cases e
   rename_i hb;cases e;simp only[vF]at hb;obtain⟨hb1,hb2,hb3⟩:=hb;have e1:=zd hb1;have e2:=zd hb2;have e3:=bleT hb3;subst e1;have hg:=g.grow _ (zF hk);simp only[GrB]at hg;have hC:rnC σ b c=σ.cap b:=by rw[e2,rnC,if_neg (Nat.lt_irrefl _),Qd,Nat.sub_zero]
   refine⟨m,(vs.drop (m*s)).map (rn σ)++σ.tl b,?_,?_,fun p hp=>delB_sub hp,fun v hv=>g.cells _ (zF hk) v (QA hv)⟩
   ·simp only[rn_slice,rnA,hC];refine .mk ?_ ?_ ?_
    ·rw[Vp,Vv];omega
    ·rw[Vj,Vp,Vp,Vv,Vm];omega
    ·have:m*s<=σ.cap b*s:=by omega
     exact Nat.le_of_mul_le_mul_right this hsize
   ·refine(instH_get hk).trans (vV _ ?_);simp only[rn_slice,rnA,slA,zY,QU,<- vZ,<- Vw,QP];exact .refl _
  ·cases e
 ·cases e
theorem srcE_spec {size m:Nat}{xv:Value}{ys:List Value}{h':Mp}{vals:List Value}(g:ke N0 σ vals h' nx)(e:srcE h' size xv=some (m,ys)):
 seqLen (rn σ xv)=some m/\Src (kT A σ h') size m (ys.map (rn σ)) (rn σ xv)/\ys.length=m*size/\∀v∈ys,ScV nx v:=by
 unfold srcE at e;split at e
 ·split at e
  case h_2=>cases e
  rename_i l hl;cases e;have hlen:=readN_len hl;refine⟨by simp[seqLen],?_,hlen,readN_sc g hl⟩;simp only[rn_slice,rnA,Src];exact⟨by rw[Vp,hlen],readN_mem hl⟩
 ·split at e
  case h_2=>cases e
  cases e;exact⟨by simp[seqLen],by simp[Src],Zs,fun v hv=>by cases hv⟩
 ·rename_i s;split at e
  case h_2=>cases e
  cases e;have hpl:(sBytes s).all plain1=true:=by
   rw[vX];intro x hx;simp only[sBytes,Q9]at hx;obtain⟨c,_,rfl⟩:=hx;rfl
  refine⟨by simp[seqLen],?_,by simp[sBytes],fun v hv=>ScV.plain1 (vX.1 hpl v hv)⟩;rw[rn_plains hpl];simp only[rn_string,Src,sBytes];rw[QR Zs]
 ·cases e
theorem op_append {t:TypeId}{size bytes m:Nat}{zero xs ys:List Value}{s x:Operand}{sv xv:Value}{h':Mp}(g:ke N0 σ (Γ.map (·.2)) h nx)(hs:evS N0 Γ s=some sv)(hx:evS N0 Γ x=some xv)(ht:takeE h size sv=some (xs,h'))(hy:srcE h' size xv=some (m,ys))
 (hone:ys.all jc=true) (hz:zero.length=size) (hb:bytes≠0) (h1:xs.length+m<=1048576) (h2:bytes<=65536) (hsize:0 < size) (h0:xs.length+m≠0)
 (hok:∀σ',Ag nx σ σ'->ke N0 σ' (.slice (some ⟨nx,0,none⟩) (xs.length / size+m) BIG::Γ.map (·.2)) ((nx,.grow size (xs++ys))::h') (nx+1)->
   VO P n rs (putE d (rn σ' (.slice (some ⟨nx,0,none⟩) (xs.length / size+m) BIG)) (rnE σ' Γ)) [kT A σ' ((nx,.grow size (xs++ys))::h')] Z K):
 VO P n (⟨d,none,.append t size bytes zero s x⟩::rs) (rnE σ Γ) [kT A σ h] Z K:=by
 obtain⟨k,sp,k1,k2,k3,k4⟩:=takeE_spec g hsize ht;have g':ke N0 σ (Γ.map (·.2)) h' nx:=⟨g.fix,g.le,fun p hp=>g.ids p (k3 p hp),fun p hp=>g.grow p (k3 p hp),fun p hp=>g.cells p (k3 p hp),g.vals⟩;obtain⟨s1,s2,s3,s4⟩:=srcE_spec g' hy;have hkl:=k1.len;rw[Vp]at hkl;have hk0:k<=xs.length:=by rw[hkl];exact Nat.le_mul_of_pos_right _ hsize
 have hdiv:xs.length / size=k:=by rw[hkl];exact Nat.mul_div_cancel _ hsize
 refine VO.imp (Imp.perm (B:=[slA (rn σ sv) (xs.map (rn σ)) sp,kT A σ h']) (by simpa using k2)) ?_;refine jF (ev_rn g hs).1 (ev_rn g hx).1 k1 .here s1 (R:=[kT A σ h']) (by simpa using s2) (by rw[Vp];exact s3) (oneCells_rn σ _ hone) hz hb ?_ fun sv' sp' hsl=>?_
 ·have:(2*(k+m)+192)*bytes<=2097344*65536:=Nat.mul_le_mul Zo h2;omega
 obtain⟨b,o,c,rfl,hc1,hc2⟩:=hsl.some (by
  rcases Nat.eq_zero_or_pos (k+m)with e|e
  ·exfalso;have ek:k=0:=by omega
   rw[ek,Qg]at hkl;omega
  ·exact e)
 have a:=updG_ag σ nx b o c sp';obtain⟨u1,u2,u3,u4⟩:=updG_at σ nx b o c sp';have hk:=hok (updG σ nx b o c sp') a (g.new k3 (fun v hv=>by
  rcases Q1.1 hv with hv|hv
  ·exact(k4 v hv).mono (QX _)
  ·exact(s4 v hv).mono (QX _)) (by
  simp only[GrB,u3,u4];have:((xs.map (rn σ))++(ys.map (rn σ))).length+sp'.length=c*size:=hc2;simpa using this) (fun v hv=>by
  rcases Q4.1 hv with rfl|hv
  ·exact ScV.slc (Qa _)
  ·exact(g.vals v hv).mono (QX _)))
 have hC:rnC (updG σ nx b o c sp') nx BIG=c:=by simp[rnC,u3]
 simp only[rn_slice,rnA,u1,u2,hC,QU,hdiv]at hk;rw[rnE_ag a g.vals];refine VO.imp (new_imp (B:=kT A (updG σ nx b o c sp') ((nx,.grow size (xs++ys))::h')) ?_) hk;rw[instH_new g k3];simp only[zY,u1,u2,u4,slA]
 congr 2
 rw[Vw]
 congr 1
 congr 1
 ·exact Vx fun w hw=>(k4 w hw _ _ a.symm)
 ·exact Vx fun w hw=>(s4 w hw _ _ a.symm)
theorem op_call {F:CF}(hF:SoundF A P N0 F){f:Nat}{xs:List Operand}{args:List Value}{res:PR}(g:ke N0 σ (Γ.map (·.2)) h nx)(he:evSs N0 Γ xs=some args)(hf:F f args h nx=some res)
 (hok:∀v h' nx' σ',res=.val v h' nx'->Ag nx σ σ'->nx<=nx'->ke N0 σ' (v::Γ.map (·.2)) h' nx'->VO P n rs (putE d (rn σ' v) (rnE σ' Γ)) [kT A σ' h'] Z K)
 (hpan:∀ch h' nx' σ',res=.pan ch h' nx'->Ag nx σ σ'->nx<=nx'->ke N0 σ' (ch.map (·.v)) h' nx'->Z (rnCh σ' ch) (rnE σ Γ) [kT A σ' h']):
 VO P n (⟨d,none,.call f xs⟩::rs) (rnE σ Γ) [kT A σ h] Z K:=by
 obtain⟨h1,h2⟩:=evs_rn g he;refine kJ (hF f args h nx res hf σ (g.with h2)) h1 (R:=[]) (by simp[Spl]) ?_ ?_
 ·rintro v Post ⟨v0,h',nx',σ',r1,r2,r3,r4,rfl,rfl⟩
  rw[vd,rnE_ag r2 g.vals];exact hok v0 h' nx' σ' r1 r2 r3 (r4.with fun u hu=>by
   rcases Q4.1 hu with rfl|hu
   ·exact r4.vals _ Zs
   ·exact(g.vals u hu).mono r3)
 ·rintro ch Post ⟨v0,h',nx',σ',r1,r2,r3,r4,rfl,rfl⟩
  rw[vd];exact hpan v0 h' nx' σ' r1 r2 r3 r4
end
end Go.V
namespace Go.V
open Go
set_option maxHeartbeats 1600000
variable {A:List kC}
section
variable {P:Program} {N0 nx n:Nat} {σ:Sg} {Γ:Env} {h:Mp} {rs:List RO} {d:Option Nat} {Z:List PanicEntry->Env->SH->Prop} {K:Env->SH->Prop}
theorem same_vals(g:ke N0 σ (Γ.map (·.2)) h nx){v:Value}(hv:ScV nx v):ke N0 σ (v::Γ.map (·.2)) h nx:=g.with fun u hu=>by
 rcases Q4.1 hu with rfl|hu
 ·exact hv
 ·exact g.vals u hu
theorem bnd_sound(g:ke N0 σ (Γ.map (·.2)) h nx){d y:Nat}{x:Option Operand}{l:Nat}{dd:Option Nat}(hd:dd=some d)(e:bndE N0 Γ d x=some l)(hl:l<=y):ju y dd (x.map (evD (rnE σ Γ)))=some l/\∀o∈optl x,known (rnE σ Γ) o=true:=by
 cases x with
 |none=>simp only[bndE,Qo]at e;subst e;exact⟨hd,fun o ho=>by cases ho⟩
 |some x=>
  simp only[bndE]at e;split at e
  case h_2=>cases e
  rename_i k z hz;cases e;have h1:=(ev_rn g hz).1;rw[rn_int]at h1;refine⟨?_,fun o ho=>?_⟩
  ·have h2:evD (rnE σ Γ) x=.int k (Int.ofNat l):=by simp[evD,h1]
   have h3:(0:Int)<=Int.ofNat l/\Int.ofNat l<=(y:Int):=⟨Int.natCast_nonneg _,Int.ofNat_le.2 hl⟩;simp only[Qm,ju,h2,bound,if_pos h3];rfl
  ·simp only[optl,Option.toList_some,QC]at ho;subst ho;simp[known,h1]
theorem op_slcU {size b o k c:Nat}{x:Operand}{lo hi:Option Operand}{v:Value}(g:ke N0 σ (Γ.map (·.2)) h nx)(hx:evS N0 Γ x=some (.slice (some ⟨b,o,none⟩) k c))(hc:Nat.blt c BIG=false)(hs:slcU N0 Γ h size lo hi b o k c=some v)
 (hok:ScV nx v->VO P n rs (putE d (rn σ v) (rnE σ Γ)) [kT A σ h] Z K):VO P n (⟨d,none,.slcL size x lo hi none⟩::rs) (rnE σ Γ) [kT A σ h] Z K:=by
 unfold slcU at hs;split at hs
 case h_2=>cases hs
 rename_i s vs hb;split at hs
 case h_2=>cases hs
 rename_i l m hl hm;split at hs
 case h_2=>cases hs
 rename_i hcond;simp only[vF]at hcond;obtain⟨c1,c2,c3,c4,c5,c6,c7⟩:=hcond;cases hs;have e1:=zd c1;have e2:=bltT c2;have e3:=zd c3;have e4:=bleT c4;have e5:=bleT c5;have e6:=bleT c6;have hcB:¬c < BIG:=fun hh=>by have:Nat.blt c BIG=true:=Nat.ble_eq_true_of_le hh;rw[hc]at this;cases this
 have hg:=g.grow _ (zF hb);simp only[GrB]at hg;have hcap:(c - BIG+k)*size<=σ.cap b*size:=by rw[e1]at hg;omega
 have hcap2:c - BIG+k<=σ.cap b:=Nat.le_of_mul_le_mul_right hcap e2;have hid:=g.ids _ (zF hb);have hx':=(ev_rn g hx).1;have hxe:evD (rnE σ Γ) x=.slice (some ⟨σ.blk b,σ.off b+o,none⟩) k (σ.cap b - (c - BIG)):=by
  simp only[evD,hx',Qi,rn_slice,rnA,rnC,if_neg hcB]
 have hlo:=bnd_sound (y:=m) (dd:=some 0) g rfl hl e5;have hhi:=bnd_sound (y:=σ.cap b - (c - BIG)) (dd:=some k) g rfl hm Zo;refine st_pure rfl ?_ (v:=rn σ (.slice (some ⟨b,o+l*size,none⟩) (m - l) (c+l))) ?_ (hok (ScV.slc hid))
 ·rw[vX];intro y hy;simp only[rOps,Q4,Q1]at hy;rcases hy with rfl|(hy|hy)|hy
  ·simp[known,hx']
  ·exact hlo.2 y hy
  ·exact hhi.2 y hy
  ·cases hy
 ·have hbd:zC k (σ.cap b - (c - BIG)) (lo.map (evD (rnE σ Γ))) (hi.map (evD (rnE σ Γ))) none=some (l,m,σ.cap b - (c - BIG)):=by
   have b0:ju (σ.cap b - (c - BIG)) (some (σ.cap b - (c - BIG))) none=some (σ.cap b - (c - BIG)):=rfl;unfold zC;rw[b0,Option.bind_some];simp only[Option.isSome_none,vI,if_false];rw[hhi.1,Option.bind_some,hlo.1];rfl
  simp only[kS,hxe,Ql,hbd,Qm,rn_slice,rnA,rnC,if_neg (show ¬c+l < BIG by omega)];have hcl:c+l - BIG=c - BIG+l:=by omega
  have haddr:(if σ.cap b - (c - BIG)=l then σ.off b+o else σ.off b+o+l*size)=σ.off b+(o+l*size):=by
   split
   ·rename_i hh;rcases vP.1 c7 with q|q
    ·have:=bltT q;omega
    ·have:=zd q;subst this;simp
   ·omega
  rw[haddr,hcl,Nat.sub_sub]
theorem op_sound {F:CF}(hF:SoundF A P N0 F){r:R}{res:PR}(he:zb N0 F r Γ h nx=some res)(g:ke N0 σ (Γ.map (·.2)) h nx)
 (hok:∀v h' nx' σ',res=.val v h' nx'->Ag nx σ σ'->nx<=nx'->ke N0 σ' (v::Γ.map (·.2)) h' nx'->VO P n rs (putE d (rn σ' v) (rnE σ' Γ)) [kT A σ' h'] Z K)
 (hpan:∀ch h' nx' σ',res=.pan ch h' nx'->Ag nx σ σ'->nx<=nx'->ke N0 σ' (ch.map (·.v)) h' nx'->Z (rnCh σ' ch) (rnE σ Γ) [kT A σ' h']):
 VO P n (⟨d,none,r⟩::rs) (rnE σ Γ) [kT A σ h] Z K:=by
 have same:∀v,res=.val v h nx->ScV nx v->VO P n rs (putE d (rn σ v) (rnE σ Γ)) [kT A σ h] Z K:=fun v e hs=>hok v h nx σ e (.refl _ _) (QW _) (same_vals g hs)
 have pur:kY r=true->pureE N0 r Γ h nx=some res->VO P n (⟨d,none,r⟩::rs) (rnE σ Γ) [kT A σ h] Z K:=fun hp he=>by
  unfold pureE at he;split at he
  case h_2=>cases he
  rename_i hb;simp only[vF]at hb;split at he
  case h_2=>cases he
  rename_i v hv;cases he;exact op_pure g hp hb.2.1 hb.2.2.1 hb.2.2.2 hv (same v rfl)
 cases r
 case load1 x=>
  simp only[zb]at he;split at he
  case h_2=>cases he
  rename_i b o hx;split at he
  case h_2=>cases he
  rename_i v hr;cases he;exact op_load1 g hx hr (same v rfl)
 case loadN m x=>
  simp only[zb]at he;split at he
  case h_2=>cases he
  rename_i b o hx;split at he
  case h_2=>cases he
  rename_i us hr;cases he;exact op_loadN g hx hr (same _ rfl)
 case alloc t z=>
  simp only[zb]at he;split at he
  case h_2=>cases he
  rename_i hz;cases he;exact op_alloc g hz fun σ' a g'=>hok _ _ _ σ' rfl a (QX _) g'
 case box t x=>
  simp only[zb]at he;split at he
  case h_2=>cases he
  rename_i v hx;cases he;exact op_box g hx fun σ' a g'=>hok _ _ _ σ' rfl a (QX _) g'
 case bslice t len z ps=>
  simp only[zb]at he;split at he
  case h_2=>cases he
  rename_i hb;simp only[vF]at hb;split at he
  case h_2=>cases he
  rename_i out ho;cases he;exact op_bslice g hb.1 hb.2.1 ho (bltT hb.2.2) fun σ' a g'=>hok _ _ _ σ' rfl a (QX _) g'
 case store m x y=>
  simp only[zb]at he;split at he
  case h_2=>cases he
  rename_i b o u hx hy;split at he
  case h_2=>cases he
  rename_i hm;split at he
  case h_2=>cases he
  rename_i h' hw;cases he;exact op_store g hx hy (zd hm) hw fun g'=>hok _ _ _ σ rfl (.refl _ _) (QW _) g'
 case append t size bytes zero s x=>
  simp only[zb]at he;split at he
  case h_2=>cases he
  rename_i sv xv hs hx;split at he
  case h_2=>cases he
  rename_i xs h' ht;split at he
  case h_2=>cases he
  rename_i m ys hy;split at he
  case h_2=>cases he
  rename_i hb;simp only[vF,vK]at hb;cases he;exact op_append g hs hx ht hy hb.1 (zd hb.2.1) (beqF hb.2.2.1) (bleT hb.2.2.2.1) (bleT hb.2.2.2.2.1) (bltT hb.2.2.2.2.2.1) (beqF hb.2.2.2.2.2.2) fun σ' a g'=>hok _ _ _ σ' rfl a (QX _) g'
 case call f xs=>
  simp only[zb]at he;split at he
  case h_2=>cases he
  rename_i args ha;exact op_call hF g ha he hok hpan
 case slcL size x lo hi mx=>
  simp only[zb]at he;split at he
  ·rename_i b o k c hx;split at he
   ·exact pur rfl he
   ·rename_i hc;split at he
    case h_2=>cases he
    rename_i v hs;cases he;exact op_slcU g hx hc hs (same v rfl)
  ·exact pur rfl he
 all_goals first
  |exact pur rfl he
  |(simp only[zb,pureE,kY,vH]at he;cases he;done)
theorem ops_sound {F:CF}(hF:SoundF A P N0 F):∀{rs:List RO} {Γ:Env} {h:Mp} {nx:Nat} {σ:Sg} {res:OR},wJ N0 F rs Γ h nx=some res->ke N0 σ (Γ.map (·.2)) h nx->
 (∀Γ' h' nx' σ',res=.ok Γ' h' nx'->Ag nx σ σ'->nx<=nx'->ke N0 σ' (Γ'.map (·.2)) h' nx'->K (rnE σ' Γ') [kT A σ' h'])->
 (∀Γ' ch h' nx' σ',res=.pan ch Γ' h' nx'->Ag nx σ σ'->nx<=nx'->ke N0 σ' (ch.map (·.v)++Γ'.map (·.2)) h' nx'->Z (rnCh σ' ch) (rnE σ' Γ') [kT A σ' h'])->VO P n rs (rnE σ Γ) [kT A σ h] Z K:=by
 intro rs
 induction rs with
 |nil=>
  intro Γ h nx σ res he g hok hpan;simp only[wJ,Qo]at he;exact VO.nil (hok Γ h nx σ he.symm (.refl _ _) (QW _) g)
 |cons x rs ih=>
  intro Γ h nx σ res he g hok hpan;obtain⟨d,gd,r⟩:=x;have go:∀{res:OR},(match zb N0 F r Γ h nx with
   |none=>none
   |some (.pan ch h' nx')=>some (.pan ch Γ h' nx')
   |some (.val v h' nx')=>wJ N0 F rs (putE d v Γ) h' nx')=some res->
   (∀Γ' h' nx' σ',res=.ok Γ' h' nx'->Ag nx σ σ'->nx<=nx'->ke N0 σ' (Γ'.map (·.2)) h' nx'->K (rnE σ' Γ') [kT A σ' h'])->
   (∀Γ' ch h' nx' σ',res=.pan ch Γ' h' nx'->Ag nx σ σ'->nx<=nx'->ke N0 σ' (ch.map (·.v)++Γ'.map (·.2)) h' nx'->Z (rnCh σ' ch) (rnE σ' Γ') [kT A σ' h'])->VO P n (⟨d,none,r⟩::rs) (rnE σ Γ) [kT A σ h] Z K:=by
   intro res he hok hpan;cases hr:zb N0 F r Γ h nx with
   |none=>rw[hr]at he;cases he
   |some pr=>
    rw[hr]at he;refine op_sound hF hr g ?_ ?_
    ·rintro v h' nx' σ' rfl a le g'
     simp only at he;rw[<- rnE_put];refine ih he ⟨g'.fix,g'.le,g'.ids,g'.grow,g'.cells,put_vals g'.vals⟩ ?_ ?_
     ·intro Γ2 h2 nx2 σ2 e a2 le2 g2;exact hok Γ2 h2 nx2 σ2 e (a.trans a2 le) (QY le le2) g2
     ·intro Γ2 ch h2 nx2 σ2 e a2 le2 g2;exact hpan Γ2 ch h2 nx2 σ2 e (a.trans a2 le) (QY le le2) g2
    ·rintro ch h' nx' σ' rfl a le g'
     simp only[Qo]at he;rw[rnE_ag a g.vals];exact hpan Γ ch h' nx' σ' he.symm a le (g'.with fun u hu=>by
      rcases Q1.1 hu with hu|hu
      ·exact g'.vals u hu
      ·exact(g.vals u hu).mono le)
  have skip:∀{res:OR},wJ N0 F rs (putE d undef Γ) h nx=some res->
   (∀Γ' h' nx' σ',res=.ok Γ' h' nx'->Ag nx σ σ'->nx<=nx'->ke N0 σ' (Γ'.map (·.2)) h' nx'->K (rnE σ' Γ') [kT A σ' h'])->
   (∀Γ' ch h' nx' σ',res=.pan ch Γ' h' nx'->Ag nx σ σ'->nx<=nx'->ke N0 σ' (ch.map (·.v)++Γ'.map (·.2)) h' nx'->Z (rnCh σ' ch) (rnE σ' Γ') [kT A σ' h'])->VO P n rs (putE d undef (rnE σ Γ)) [kT A σ h] Z K:=by
   intro res he hok hpan;have hu:rn σ undef=undef:=rn_plain rfl;have:=ih (σ:=σ) he (g.with (put_vals (same_vals g (ScV.plain rfl)).vals)) hok hpan;rw[rnE_put,hu]at this;exact this
  cases gd with
  |none=>
   simp only[wJ,guardE]at he;exact go he hok hpan
  |some sb=>
   obtain⟨s,b⟩:=sb;simp only[wJ,guardE]at he;cases hl:look Γ s with
   |none=>rw[hl]at he;cases he
   |some u=>
    rw[hl]at he;cases u <;> try (cases he;done)
    case tuple vs=>
     simp only at he;cases hv:vs.toList with
     |cons x l=>rw[hv]at he;cases he
     |nil=>
      rw[hv]at he;have e:vs=#[]:=vC.1 (by rw[hv]);subst e;exact st_gu (by rw[look_rn,hl];simp[undef]) (skip he hok hpan)
    rename_i c;have hl2:look (rnE σ Γ) s=some (.bool c):=by rw[look_rn,hl];simp
    simp only at he;cases hcb:(c==b)with
    |true=>
     rw[hcb]at he;have e:c=b:=by simpa using hcb
     subst e;exact st_gt hl2 (go he hok hpan)
    |false=>
     rw[hcb]at he;exact st_gf hl2 hcb (skip he hok hpan)
end
def rnX(σ:Sg):Ex->Exit
 |.normal=>.normal
 |.exit i=>.exit i
 |.ret=>.ret
 |.pan ch=>.panic (rnCh σ ch)
def za:Ex->List Value
 |.pan ch=>ch.map (·.v)
 |_=>[]
section
variable {P:Program} {N0 n L:Nat}
def SoundC(A:List kC)(P:Program)(N0 n:Nat)(c:IC)(f:Env->Mp->Nat->IR):Prop:=∀Γ h nx e Γ' h' nx',f Γ h nx=some (e,Γ',h',nx')->∀σ,ke N0 σ (Γ.map (·.2)) h nx->∀Q:Exit->Env->SH->Prop,
 (∀σ',Ag nx σ σ'->nx<=nx'->ke N0 σ' (za e++Γ'.map (·.2)) h' nx'->Q (rnX σ' e) (rnE σ' Γ') [kT A σ' h'])->VC P n c (rnE σ Γ) [kT A σ h] Q
theorem loop_sound {c:IC}{f:Env->Mp->Nat->IR}(hc:SoundC A P N0 n c f):∀k,SoundC A P N0 n (.loop c) (loopE f k):=by
 intro k Γ h nx e Γ' h' nx' he σ g Q hq;refine VC.loop (α:=Nat×Env×Mp×Nat×Sg) (Γf:=fun s=>rnE s.2.2.2.2 s.2.1) (Hf:=fun s=>[kT A s.2.2.2.2 s.2.2.1])
  (I:=fun s=>loopE f s.1 s.2.1 s.2.2.1 s.2.2.2.1=some (e,Γ',h',nx')/\Ag nx σ s.2.2.2.2/\nx<=s.2.2.2.1/\ke N0 s.2.2.2.2 (s.2.1.map (·.2)) s.2.2.1 s.2.2.2.1) (μ:=fun s=>s.1) (k,Γ,h,nx,σ)
  ⟨he,.refl _ _,QW _,g⟩ Sub.refl (Imp.refl _) ?_
 rintro⟨j,Γ1,h1,nx1,σ1⟩ ⟨e1,a1,le1,g1⟩
 simp only at e1 a1 le1 g1|-;cases j with
 |zero=>cases e1
 |succ j=>
  simp only[loopE]at e1;cases hb:f Γ1 h1 nx1 with
  |none=>rw[hb]at e1;cases e1
  |some r=>
   obtain⟨x,Γ2,h2,nx2⟩:=r;rw[hb]at e1;refine hc _ _ _ _ _ _ _ hb σ1 g1 _ fun σ' a le g'=>?_
   cases x with
   |normal=>
    simp only at e1;exact⟨(j,Γ2,h2,nx2,σ'),⟨e1,a1.trans a le1,QY le1 le,by simpa[za]using g'⟩,Qa _,Sub.refl,Imp.refl _⟩
   |exit i=>cases e1;exact hq σ' (a1.trans a le1) (QY le1 le) g'
   |ret=>cases e1;exact hq σ' (a1.trans a le1) (QY le1 le) g'
   |pan ch=>cases e1;exact hq σ' (a1.trans a le1) (QY le1 le) g'
theorem eqL_sound {e:Value->Value->Bool}(he:∀a b,e a b=true->a=b):∀{l m:List Value},eqL e l m=true->l=m:=by
 intro l
 induction l with
 |nil=>intro m h;cases m with
  |nil=>rfl
  |cons=>simp[eqL]at h
 |cons a l ih=>intro m h;cases m with
  |nil=>simp[eqL]at h
  |cons b m=>
   simp only[eqL,vF]at h;rw[he _ _ h.1,ih h.2]
theorem eqV_sound:∀(k:Nat) {a b:Value},eqV k a b=true->a=b:=by
 intro k
 induction k with
 |zero=>intro a b h;simp[eqV]at h
 |succ k ih=>
  intro a b h;unfold eqV at h;split at h <;> (try simp only[vF,beq_iff_eq,decide_eq_true_eq]at h)
  all_goals first
   |rfl
   |(cases h;done)
   |(obtain⟨h1,h2⟩:=h;subst h1;subst h2;rfl)
   |(subst h;rfl)
   |(obtain⟨h1,h2⟩:=h;rw[zd h1,zd h2])
   |(obtain⟨h1,h2,h3⟩:=h;rw[h1,zd h2,zd h3])
   |(rw[zd h])
   |(obtain⟨h1,h2⟩:=h;rw[h1,ih h2])
   |(rw[vC.1 (eqL_sound (fun _ _=>ih) h)])
   |(obtain⟨h1,h2,h3⟩:=h;rw[h1,vC.1 (eqL_sound (fun _ _=>ih) h2),vC.1 (eqL_sound (fun _ _=>ih) h3)])
theorem eqE_sound:∀{Γ Δ:Env},eqE Γ Δ=true->Γ=Δ:=by
 intro Γ
 induction Γ with
 |nil=>intro Δ h;cases Δ with
  |nil=>rfl
  |cons=>simp[eqE]at h
 |cons p Γ ih=>
  intro Δ h;obtain⟨s,x⟩:=p;cases Δ with
  |nil=>simp[eqE]at h
  |cons q Δ=>
   obtain⟨t,y⟩:=q;simp only[eqE,vF]at h;rw[zd h.1,eqV_sound 20 h.2.1,ih h.2.2]
theorem eqM_sound:∀{l m:List MapEntry},eqM l m=true->l=m:=by
 intro l
 induction l with
 |nil=>intro m h;cases m with
  |nil=>rfl
  |cons=>simp[eqM]at h
 |cons a l ih=>intro m h;cases m with
  |nil=>simp[eqM]at h
  |cons b m=>
   simp only[eqM,vF]at h;obtain⟨⟨h1,h2⟩,h3,h4⟩:=h;cases a;cases b;simp only at h1 h2 h3;rw[eqV_sound 20 h1,eqV_sound 20 h2,zd h3,ih h4]
theorem eqB_sound {a b:Blk}(h:eqB a b=true):a=b:=by
 unfold eqB at h;split at h <;> (try simp only[vF,decide_eq_true_eq]at h)
 ·rw[eqL_sound (fun _ _=>eqV_sound 20) h]
 ·rw[zd h.1,eqL_sound (fun _ _=>eqV_sound 20) h.2]
 ·rw[zd h.2,vC.1 (eqM_sound h.1)]
 ·rw[h.1,zd h.2]
 ·cases h
theorem eqH_sound:∀{Γ Δ:Mp},eqH Γ Δ=true->Γ=Δ:=by
 intro Γ
 induction Γ with
 |nil=>intro Δ h;cases Δ with
  |nil=>rfl
  |cons=>simp[eqH]at h
 |cons p Γ ih=>
  intro Δ h;obtain⟨s,x⟩:=p;cases Δ with
  |nil=>simp[eqH]at h
  |cons q Δ=>
   obtain⟨t,y⟩:=q;simp only[eqH,vF]at h;rw[zd h.1,eqB_sound h.2.1,ih h.2.2]
theorem drawE_mem {F:CF}{keep:List Nat}{Γ Δ:Env}{h h1:Mp}{nx n1:Nat}:∀{r:List (List RO)},drawE N0 F keep Γ h nx Δ h1 n1 r=true->∀rs∈r,∃Γ2,wJ N0 F rs Γ h nx=some (.ok Γ2 h1 n1)/\restr keep Γ2=Δ:=by
 intro r
 induction r with
 |nil=>intro _ rs h;cases h
 |cons x r ih=>
  intro he rs hrs;simp only[drawE]at he;split at he
  case h_2=>cases he
  rename_i Γ' h' nx' ho;split at he
  case h_2=>cases he
  rename_i hE;simp only[vF]at hE;rcases Q4.1 hrs with rfl|hrs
  ·exact⟨Γ',by rw[ho,zd hE.2.1,eqH_sound hE.2.2],eqE_sound hE.1⟩
  ·exact ih he rs hrs
theorem ic_sound {F:CF}(hF:SoundF A P N0 F)(L:Nat):∀c:IC,SoundC A P N0 n c (jl N0 F L c):=by
 intro c
 induction c with
 |skip=>
  intro Γ h nx e Γ' h' nx' he σ g Q hq;simp only[jl,Qo,Qp]at he;obtain⟨rfl,rfl,rfl,rfl⟩:=he;exact VC.skip (hq σ (.refl _ _) (QW _) (by simpa[za]using g))
 |reg rs keep=>
  intro Γ h nx e Γ' h' nx' he σ g Q hq;simp only[jl]at he;cases ho:wJ N0 F rs Γ h nx with
  |none=>rw[ho]at he;cases he
  |some r=>
   rw[ho]at he;refine VC.reg (ops_sound hF ho g ?_ ?_)
   ·rintro Γ2 h2 nx2 σ2 rfl a le g2
    simp only[Qo,Qp]at he;obtain⟨rfl,rfl,rfl,rfl⟩:=he;have:=hq σ2 a le (by simpa[za]using g2.with (restr_vals g2.vals));rw[rnE_restr]at this;exact this
   ·rintro Γ2 ch h2 nx2 σ2 rfl a le g2
    simp only[Qo,Qp]at he;obtain⟨rfl,rfl,rfl,rfl⟩:=he;exact hq σ2 a le (by simpa[za]using g2)
 |draw rss keep=>
  intro Γ h nx e Γ' h' nx' he σ g Q hq;simp only[jl]at he;split at he
  case h_1=>cases he
  rename_i rs r;cases ho:wJ N0 F rs Γ h nx with
  |none=>rw[ho]at he;cases he
  |some res=>
   rw[ho]at he;cases res with
   |pan ch Γ1 h1 n1=>
    cases he
   |ok Γ1 h1 n1=>
    simp only at he;have first:∀Q2:Env->SH->Prop,(∀σ',Ag nx σ σ'->nx<=n1->ke N0 σ' (Γ1.map (·.2)) h1 n1->Q2 (restr keep (rnE σ' Γ1)) [kT A σ' h1])->VO P n rs (rnE σ Γ) [kT A σ h] (fun _ _ _=>False) fun Γ' H'=>Q2 (restr keep Γ') H':=fun Q2 hq2=>by
     refine ops_sound hF ho g ?_ ?_
     ·rintro Γ2 h2 nx2 σ2 e2 a le g2
      cases e2;exact hq2 σ2 a le g2
     ·rintro Γ2 ch h2 nx2 σ2 e2
      cases e2
    cases r with
    |nil=>
     simp only[Qo,Qp]at he;obtain⟨rfl,rfl,rfl,rfl⟩:=he;exact VC.draw1 (first (fun Γ H=>Q .normal Γ H) fun σ' a le g2=>by have:=hq σ' a le (by simpa[za]using g2.with (restr_vals g2.vals));rw[rnE_restr]at this;exact this)
    |cons r0 r1=>
     simp only at he;split at he
     case h_2=>cases he
     rename_i hb;simp only[Qo,Qp]at he;obtain⟨rfl,rfl,rfl,rfl⟩:=he;refine VC.draw fun rs2 hrs2=>?_
     have go:∀Γ2,wJ N0 F rs2 Γ h nx=some (.ok Γ2 h1 n1)->restr keep Γ2=restr keep Γ1->VO P n rs2 (rnE σ Γ) [kT A σ h] (fun _ _ _=>False) fun Γ' H'=>Q .normal (restr keep Γ') H':=fun Γ2 ho2 e2=>by
      refine ops_sound hF ho2 g ?_ ?_
      ·rintro Γ3 h3 nx3 σ3 e3 a le g3
       cases e3;have:=hq σ3 a le (by rw[<- e2];simpa[za]using g3.with (restr_vals g3.vals));rw[<- e2,rnE_restr]at this;exact this
      ·rintro Γ3 ch h3 nx3 σ3 e3
       cases e3
     rcases Q4.1 hrs2 with rfl|hrs2
     ·exact go Γ1 ho rfl
     ·obtain⟨Γ2,o1,o2⟩:=drawE_mem hb _ hrs2;exact go Γ2 o1 o2
 |seq x y ihx ihy=>
  intro Γ h nx e Γ' h' nx' he σ g Q hq;simp only[jl]at he;cases hb:jl N0 F L x Γ h nx with
  |none=>rw[hb]at he;cases he
  |some r=>
   obtain⟨e2,Γ2,h2,nx2⟩:=r;rw[hb]at he;refine VC.seq (ihx _ _ _ _ _ _ _ hb σ g _ fun σ' a le g'=>?_);cases e2 with
   |normal=>
    exact ihy _ _ _ _ _ _ _ he σ' (by simpa[za]using g') Q fun σ2 a2 le2 g2=>hq σ2 (a.trans a2 le) (QY le le2) g2
   |exit i=>cases he;exact hq σ' a le g'
   |ret=>cases he;exact hq σ' a le g'
   |pan ch=>cases he;exact hq σ' a le g'
 |cond c x y ihx ihy=>
  intro Γ h nx e Γ' h' nx' he σ g Q hq;simp only[jl]at he;split at he
  ·rename_i hc;have hc':=(ev_rn g hc).1;rw[rn_bool]at hc';exact VC.cond_t hc' (ihx _ _ _ _ _ _ _ he σ g Q hq)
  ·rename_i hc;have hc':=(ev_rn g hc).1;rw[rn_bool]at hc';exact VC.cond_f hc' (ihy _ _ _ _ _ _ _ he σ g Q hq)
  ·cases he
 |block id x ih=>
  intro Γ h nx e Γ' h' nx' he σ g Q hq;simp only[jl]at he;cases hb:jl N0 F L x Γ h nx with
  |none=>rw[hb]at he;cases he
  |some r=>
   obtain⟨e2,Γ2,h2,nx2⟩:=r;rw[hb]at he;refine VC.block (ih _ _ _ _ _ _ _ hb σ g _ fun σ' a le g'=>?_);cases e2 with
   |normal=>cases he;exact hq σ' a le g'
   |exit i=>
    simp only at he;cases hi:Nat.beq i id with
    |true=>
     rw[hi]at he;cases he;show blockQ id Q (.exit i) _ _;simp only[blockQ,zd hi,if_true];exact hq σ' a le (by simpa[za]using g')
    |false=>
     rw[hi]at he;cases he;show blockQ id Q (.exit i) _ _;simp only[blockQ,if_neg (beqF hi)];exact hq σ' a le g'
   |ret=>cases he;exact hq σ' a le g'
   |pan ch=>cases he;exact hq σ' a le g'
 |loop x ih=>exact loop_sound ih L
 |exit id=>
  intro Γ h nx e Γ' h' nx' he σ g Q hq;simp only[jl,Qo,Qp]at he;obtain⟨rfl,rfl,rfl,rfl⟩:=he;exact VC.exit (hq σ (.refl _ _) (QW _) (by simpa[za]using g))
 |ret=>
  intro Γ h nx e Γ' h' nx' he σ g Q hq;simp only[jl,Qo,Qp]at he;obtain⟨rfl,rfl,rfl,rfl⟩:=he;exact VC.ret (hq σ (.refl _ _) (QW _) (by simpa[za]using g))
 |scope x ih=>
  intro Γ h nx e Γ' h' nx' he σ g Q hq;simp only[jl]at he;refine VC.scope (ih _ _ _ _ _ _ _ he σ g _ fun σ' a le g'=>⟨fun l=>?_,hq σ' a le g'⟩);cases e <;> simp[rnX]
 |label l=>
  intro Γ h nx e Γ' h' nx' he σ g Q hq;simp only[jl,Qo,Qp]at he;obtain⟨rfl,rfl,rfl,rfl⟩:=he;exact VC.label (hq σ (.refl _ _) (QW _) (by simpa[za]using g))
 |rangef g ps x y ihx ihy=>intro Γ h nx e Γ' h' nx' he;simp only[jl]at he;cases he
 |free rs an keep=>intro Γ h nx e Γ' h' nx' he;simp only[jl]at he;cases he
theorem res_sound {nx:Nat}{σ:Sg}{Γ:Env}{h:Mp}{vals:List Value}(g:ke N0 σ vals h nx)(hv:∀v∈Γ.map (·.2),ScV nx v):∀{r:List RV} {vs:List Value},resE Γ h r=some vs->Res (rnE σ Γ) [kT A σ h] r (vs.map (rn σ))/\∀v∈vs,ScV nx v:=by
 intro r
 induction r with
 |nil=>intro vs e;simp only[resE,Qo]at e;subst e;exact⟨.nil,fun v hv=>by cases hv⟩
 |cons x r ih=>
  intro vs e;cases x with
  |tmp t=>
   simp only[resE]at e;split at e
   case h_2=>cases e
   rename_i v l hl hr;cases e;obtain⟨i1,i2⟩:=ih hr;refine⟨.tmp (by rw[look_rn,hl];rfl) i1,fun u hu=>?_⟩;rcases Q4.1 hu with rfl|hu
   ·exact hv _ (look_mem hl)
   ·exact i2 u hu
  |cell1 t=>
   simp only[resE]at e;split at e
   case h_2=>cases e
   rename_i b o hl;split at e
   case h_2=>cases e
   rename_i v l hr hr2;cases e;obtain⟨i1,i2⟩:=ih hr2;refine⟨.cell1 (b:=σ.blk b) (o:=σ.off b+o) (by rw[look_rn,hl];simp[rnA]) ?_ i1,fun u hu=>?_⟩
   ·simp only[vz,V0,vd];exact readN_mem hr _ Zan
   ·rcases Q4.1 hu with rfl|hu
    ·exact readN_sc g hr _ Zs
    ·exact i2 u hu
  |cellN t m=>
   simp only[resE]at e;split at e
   case h_2=>cases e
   rename_i b o hl;split at e
   case h_2=>cases e
   rename_i us l hr hr2;cases e;obtain⟨i1,i2⟩:=ih hr2;refine⟨?_,fun u hu=>?_⟩
   ·have he:rn σ (.agg us.toArray)=.agg (us.map (rn σ)).toArray:=by simp
    rw[Vy,he];refine .cellN (b:=σ.blk b) (o:=σ.off b+o) (by rw[look_rn,hl];simp[rnA]) (by rw[Vp];exact readN_len hr) ?_ i1;simp only[vz,V0,vd];exact readN_mem hr
   ·rcases Q4.1 hu with rfl|hu
    ·exact ScV.agg (readN_sc g hr)
    ·exact i2 u hu
def FeOk(P:Program)(f:Nat):FE->Prop
 |.fir F=>∃kp od,ki P kp od f=some F
def TabOk(P:Program)(tab:List (Nat×FE)):Prop:=∀p∈tab,FeOk P p.1 p.2
theorem TabOk.nil:TabOk P []:=fun p hp=>by cases hp
theorem TabOk.cons {f:Nat}{R:FIR}{kp:Nat->List Nat}{od:Nat->List (List Nat)}{tab:List (Nat×FE)}(h:ki P kp od f=some R)(t:TabOk P tab):TabOk P ((f,.fir R)::tab):=fun p hp=>by
 rcases Q4.1 hp with rfl|hp
 ·exact⟨kp,od,h⟩
 ·exact t p hp
theorem tab_mem {tab:List (Nat×FE)}{f:Nat}{R:FE}(e:tabF tab f=some R):(f,R)∈tab:=by
 induction tab with
 |nil=>cases e
 |cons p tab ih=>
  obtain⟨i,b⟩:=p;simp only[tabF]at e;split at e
  ·rename_i hb;cases e;rw[zd hb];simp
  ·simp[ih e]
theorem args_vals:∀{vs:List Value} {k:Nat},(argsEnv k vs).map (·.2)=vs:=by
 intro vs
 induction vs with
 |nil=>intro k;rfl
 |cons v vs ih=>intro k;simp only[argsEnv,Vy,ih]
theorem args_rn(σ:Sg):∀{vs:List Value} {k:Nat},rnE σ (argsEnv k vs)=argsEnv k (vs.map (rn σ)):=by
 intro vs
 induction vs with
 |nil=>intro k;rfl
 |cons v vs ih=>intro k;simp only[argsEnv,Vy,<- ih];rfl
theorem f_sound {tab:List (Nat×FE)}{orc:CF}(ht:TabOk P tab)(ho:SoundF A P N0 orc)(L:Nat):∀k,SoundF A P N0 (evalF N0 tab orc L k):=by
 intro k
 induction k with
 |zero=>intro f args h nx res he;simp only[evalF]at he;cases he
 |succ k ih=>
  intro f args h nx res he σ g;simp only[evalF]at he;cases hor:orc f args h nx with
  |some v=>
   rw[hor]at he;cases he;exact ho f args h nx _ hor σ g
  |none=>
   rw[hor]at he;simp only at he;cases hta:tabF tab f with
   |none=>rw[hta]at he;cases he
   |some E=>
    have hfe:=ht _ (tab_mem hta);rw[hta]at he;cases E with
    |fir R=>
     simp only at he;split at he
     case h_1=>cases he
     rename_i hn;obtain⟨kp,od,hl⟩:=hfe;refine jY.intro hl (by rw[Vp];exact bleT hn) ?_;rw[<- args_rn];cases hb:jl N0 (evalF N0 tab orc L k) L R.body (argsEnv 0 args) h nx with
     |none=>rw[hb]at he;cases he
     |some r=>
      obtain⟨e,Γ',h',nx'⟩:=r;rw[hb]at he;refine ic_sound ih L R.body _ _ _ _ _ _ _ hb σ (g.with (by rw[args_vals];exact g.vals)) _ fun σ' a le g'=>?_
      have fin:∀x:Exit,(x=.normal∨x=.ret)->(match resE Γ' h' R.res with|some vs=>some (PR.val (tup vs) h' nx')|none=>none)=some res->ke N0 σ' (Γ'.map (·.2)) h' nx'->
       endP R.res (fun v Post=>∃v0 h' nx' σ',res=.val v0 h' nx'/\Ag nx σ σ'/\nx<=nx'/\ke N0 σ' [v0] h' nx'/\v=rn σ' v0/\Post=[kT A σ' h'])
        (fun ch Post=>∃ch0 h' nx' σ',res=.pan ch0 h' nx'/\Ag nx σ σ'/\nx<=nx'/\ke N0 σ' (ch0.map (·.v)) h' nx'/\ch=rnCh σ' ch0/\Post=[kT A σ' h']) x (rnE σ' Γ') [kT A σ' h']:=by
       intro x hx he g2;split at he
       case h_2=>cases he
       rename_i vs hvs;cases he;obtain⟨r1,r2⟩:=res_sound g2 g2.vals hvs;refine jI ⟨hx,_,_,r1,Imp.refl _,V.tup vs,h',nx',σ',rfl,a,le,g2.with (fun w hw=>by rw[QC.1 hw];exact ScV.tup r2),(rn_tup σ' vs).symm,rfl⟩
      cases e with
      |normal=>exact fin .normal (.inl rfl) he (by simpa[za]using g')
      |ret=>exact fin .ret (.inr rfl) he (by simpa[za]using g')
      |exit i=>cases he
      |pan ch=>
       cases he;exact⟨_,Imp.refl _,ch,h',nx',σ',rfl,a,le,g'.with (fun u hu=>g'.vals u (Zw _ hu)),rfl,rfl⟩
end
end Go.V
