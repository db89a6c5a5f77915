/-
  A datum that was read from old blocks is read again behind a call that leaves them.
-/
import Derived.Test.YtijnokbblmbpkaaGreatDoorM10
import Derived.ChangeSame
import Derived.ChangeSlices
import Derived.RowKit
import Derived.Test.YtijnokbblmbpkaaGreatDoorM6
import Derived.Deep.Slices
import Derived.Deep.Fields
import Derived.Test.YtijnokbblmbpkaaGreatDoorM7
import Derived.Test.YtijnokbblmbpkaaGreatDoorM9
set_option linter.all false
namespace Go.V
open Go
theorem mapM_mono {α β:Type}{f g:α->Option β}:∀{l:List α} {r:List β},(∀x∈l,∀y,f x=some y->g x=some y)->l.mapM f=some r->l.mapM g=some r:=by
 intro l
 induction l with
 |nil=>intro r _ h;simpa using h
 |cons a l ih=>
  intro r hfg h;simp only[List.mapM_cons,Option.bind_eq_bind,Option.pure_def,Qx]at h|-;obtain⟨y,h1,ys,h2,h3⟩:=h;exact⟨y,hfg a Zs y h1,ys,ih (fun x hx=>hfg x (by simp[hx])) h2,h3⟩
theorem tg {w w':World}(hold:∀i,i < w.heap.size->w'.heap[i]? =w.heap[i]?){base n:Nat}{a:Addr}{cs:List Value}(h:w.cells? base a n=some cs):w'.cells? base a n=some cs:=by
 unfold World.cells? at h|-;split at h
 ·rename_i hb;rw[if_pos hb];refine mapM_mono (fun i _ v hv=>?_) h;have aS:=World.block_lt_of_cell? w _ hv;unfold World.cell? at hv|-;rw[hold _ aS];exact hv
 ·cases h
section
variable {H:Type} {enc:TypeId×Value->H} {P:Program} {w w':World} {base:Nat} {sp:Nat->Bool} {held:Bool}
structure rM (P:Program)(ok:TypeId->Prop):Prop where
 ptr:∀t e,ok t->P.underlying t=some (.pointer e)->ok e
 slice:∀t e,ok t->P.underlying t=some (.slice e)->ok e/\0 < P.cellsOf e
 struct:∀t fs,ok t->P.underlying t=some (.struct fs)->∀f∈fs.toList,ok f.type
 array:∀t n e,ok t->P.underlying t=some (.array n e)->ok e
 map:∀t k e,ok t->P.underlying t=some (.map k e)->ok e
def Kh(P:Program)(S:List TypeId):Bool:=S.all fun t=>match P.underlying t with
 |some (.pointer e)=>S.contains e
 |some (.slice e)=>S.contains e&&decide (0 < P.cellsOf e)
 |some (.struct fs)=>fs.toList.all fun f=>S.contains f.type
 |some (.array _ e)=>S.contains e
 |some (.map _ e)=>S.contains e
 |_=>true
theorem Lq {S:List TypeId}(h:Kh P S=true):rM P (·∈S):=by
 have h':=ve.1 h;refine⟨fun t e ht hu=>?_,fun t e ht hu=>?_,fun t fs ht hu f hf=>?_,fun t n e ht hu=>?_,fun t k e ht hu=>?_⟩
 all_goals have:=h' t ht
 all_goals rw[hu]at this
 all_goals simp only[vt,vF,decide_eq_true_eq,ve]at this
 ·exact this
 ·exact this
 ·exact this f hf
 ·exact this
 ·exact this
theorem Bt {ok:TypeId->Prop}(oB:rM P ok)(hold:∀i,i < w.heap.size->w'.heap[i]? =w.heap[i]?)(Gw:∀b,b < w.heap.size->sp b=true)
 {r r':TypeId->List Value->Option (DataW H×List MemPlace)} (hr:∀t cs x,ok t->r t cs=some x->r' t cs=some x) {t:TypeId} {cs:List Value} {x:DataW H×List MemPlace} (ht:ok t)
 (h:DataW.trodStep enc P w base (fun _=>true) true r t cs=some x):DataW.trodStep enc P w' base sp true r' t cs=some x:=by
 unfold DataW.trodStep at h;split at h
 case h_1 hu=>unfold DataW.trodStep;simp only[hu];exact h
 case h_2 hu=>unfold DataW.trodStep;simp only[hu];exact h
 case h_3 hu=>unfold DataW.trodStep;simp only[hu];exact h
 case h_4 hu=>unfold DataW.trodStep;simp only[hu];exact h
 case h_5 hu=>unfold DataW.trodStep;simp only[hu];exact h
 case h_6 e a hu=>
  unfold DataW.trodStep;simp only[hu];simp only[X0,Qx]at h|-;obtain⟨y,⟨YD,hc,hy⟩,hx⟩:=h;exact⟨y,⟨YD,tg hold hc,hr _ _ _ (oB.ptr t e ht hu) hy⟩,hx⟩
 case h_7 hu=>unfold DataW.trodStep;simp only[hu];exact h
 case h_8 e a len cap hu=>
  unfold DataW.trodStep;simp only[hu];obtain⟨hoe,iv⟩:=oB.slice t e ht hu;simp only at h;split at h
  ·rename_i hb;rw[if_pos hb];simp only[X0,Qx,if_true]at h|-;obtain⟨elems,he,rest,bM,hx⟩:=h;have one:∀i y,(w.cells? base (a.add (i*P.cellsOf e)) (P.cellsOf e)).bind (r e)=some y->(w'.cells? base (a.add (i*P.cellsOf e)) (P.cellsOf e)).bind (r' e)=some y:=by
    intro i y hy;simp only[Qx]at hy|-;obtain⟨YD,hc,hy⟩:=hy;exact⟨YD,tg hold hc,hr _ _ _ hoe hy⟩
   have mJ:(cap - len=0)∨a.block < w.heap.size:=by
    rcases Ql (cap - len)with h0|h0
    ·exact .inl h0
    ·right;have bZ:rest≠[]:=by
      intro hn;subst hn;have:=congrArg List.length (show []=_ from rfl:([]:List Nat)=[]);have hlen:∀{l:List Nat} {g:Nat->Option (DataW H×List MemPlace)} {q:List (DataW H×List MemPlace)},l.mapM g=some q->q.length=l.length:=by
       intro l g
       induction l with
       |nil=>intro q hq;simp at hq;subst hq;rfl
       |cons a l ih=>
        intro q hq;simp only[List.mapM_cons,Option.bind_eq_bind,Option.pure_def,Qx]at hq;obtain⟨y,_,ys,h2,h3⟩:=hq;cases h3;simp[ih h2]
      have:=hlen bM;simp at this;omega
     obtain⟨y,hy⟩:=List.exists_mem_of_ne_nil _ bZ;obtain⟨j,_,hj⟩:=mapM_mem_of bM y hy;simp only[Qx]at hj;obtain⟨YD,hc,_⟩:=hj;have:=World.cells?_block hc iv;have e1:(a.add ((len+j)*P.cellsOf e)).block=a.block:=by unfold Addr.add;split <;> rfl
     rw[e1]at this;exact this
   refine⟨elems,mapM_mono (fun i _ y hy=>one i y hy) he,rest,?_,hx⟩;rcases mJ with h0|h0
   ·rw[h0]at bM|-;simp at bM|-;subst bM;rfl
   ·rw[Gw _ h0];exact mapM_mono (fun i _ y hy=>one _ y hy) bM
  ·cases h
 case h_9 fs hu=>
  unfold DataW.trodStep;simp only[hu];split at h
  ·rename_i hl;rw[if_pos hl];simp only[X0]at h|-;obtain⟨xs,hx,e⟩:=h;exact⟨xs,mapM_mono (fun f hf y hy=>hr _ _ _ (oB.struct t fs ht hu f hf) hy) hx,e⟩
  ·cases h
 case h_10 n e hu=>
  unfold DataW.trodStep;simp only[hu];split at h
  ·rename_i hl;rw[if_pos hl];simp only[X0]at h|-;obtain⟨xs,hx,e1⟩:=h;exact⟨xs,mapM_mono (fun f _ y hy=>hr _ _ _ (oB.array t n e ht hu) hy) hx,e1⟩
  ·cases h
 case h_11 hu=>unfold DataW.trodStep;simp only[hu];exact h
 case h_12 u v hu=>
  unfold DataW.trodStep;simp only[hu];exact h
 case h_13 hu=>unfold DataW.trodStep;simp only[hu];exact h
 case h_14 k e b hu=>
  unfold DataW.trodStep;simp only[hu];split at h
  ·rename_i es clock hb;have aS:b < w.heap.size:=by
    rcases Nat.lt_or_ge b w.heap.size with h'|h'
    ·exact h'
    ·simp[Array.getElem?_eq_none h']at hb
   rw[hold b aS,hb];dsimp only;split at h
   ·rename_i hc;rw[if_pos hc];simp only[Qx]at h|-;obtain⟨entries,he,hd⟩:=h;refine⟨entries,mapM_mono (fun x _ y hy=>?_) he,hd⟩;obtain⟨key,hk,Ja⟩:=Qx.1 hy;refine Qx.2 ⟨key,hk,?_⟩;split at Ja
    ·rename_i hf;rw[if_pos hf];simp only[X0]at Ja|-;obtain⟨q,hq,e⟩:=Ja;exact⟨q,hr _ _ _ (oB.map t k _ ht hu) hq,e⟩
    ·cases Ja
   ·cases h
  ·cases h
 case h_15 hu=>unfold DataW.trodStep;simp only[hu];exact h
 case h_16 hu=>unfold DataW.trodStep;simp only[hu];exact h
 case h_17 hu=>unfold DataW.trodStep;simp only[hu];exact h
 case h_18 hu=>unfold DataW.trodStep;simp only[hu];exact h
 case h_19 hu=>unfold DataW.trodStep;simp only[hu];exact h
 case h_20 hu=>unfold DataW.trodStep;simp only[hu];exact h
 case h_21=>cases h
theorem Nc {ok:TypeId->Prop}(oB:rM P ok)(hold:∀i,i < w.heap.size->w'.heap[i]? =w.heap[i]?)(Gw:∀b,b < w.heap.size->sp b=true):
 ∀(n:Nat) (t:TypeId) (cs:List Value) (x:DataW H×List MemPlace),ok t->DataW.trod enc P w base (fun _=>true) true n t cs=some x->DataW.trod enc P w' base sp true n t cs=some x:=by
 intro n
 induction n with
 |zero=>intro t cs x _ h;simp[DataW.trod]at h
 |succ n ih=>
  intro t cs x ht h;rw[DataW.trod_step]at h|-;exact Bt oB hold Gw ih ht h
theorem rC {ok:TypeId->Prop}(oB:rM P ok)(hold:∀i,i < w.heap.size->w'.heap[i]? =w.heap[i]?)(Gw:∀b,b < w.heap.size->sp b=true):
 ∀{ts:List TypeId} {vs:List Value} {ds:List (DataW H)} {ps:List MemPlace},(∀t∈ts,ok t)->DataW.TrodAll enc P w base (fun _=>true) true ts vs ds ps->DataW.TrodAll enc P w' base sp true ts vs ds ps
 |[],[],[],_,_,h=>h
 |_::_,_::_,_::_,_,ho,⟨p,q,⟨n,h1⟩,h2,e⟩=>⟨p,q,⟨n,Nc oB hold Gw n _ _ _ (ho _ Zs) h1⟩,rC oB hold Gw (fun t ht=>ho t (by simp[ht])) h2,e⟩
end
open Go Go.ChangeShapes Go.WideShapes
section
variable {H:Type} {enc:TypeId×Value->H} {P:Program}
theorem glue {f:FuncId}{fn:Func}{s:ChangeSpec}{rt:TypeId}{apart fresh handsOn:Bool}{W:World}{args:List Value}{ds gs:List (DataW H)}{before:List MemPlace}
 (Za:s.vars=[]) (hrt:fn.resultTypes=#[rt]) (hb:P.underlying rt=some .bool) (uF:s.fn H (ds++gs)={results:=[.lit (.bool true)],args:=ds})
 {ok:TypeId->Prop} (oB:rM P ok) (aP:∀t∈fn.params.toList,ok t) (hW:DataW.Whole enc P fn.params.toList s.vars apart W args ds gs before)
 (hF:∀A,(∀a:kC,a.holds W->a∈A)->aw P f args [A] fun v Post=>v=.bool true/\Post=[A]):
 Calls P f args.toArray W fun e W'=>∃v,e=.returned v/\s.post enc P fn apart fresh handsOn false W args.toArray v W':=by
 obtain⟨A,hA,au⟩:=XY W;have h:=(hF A au).2 [] W (by simpa using hA);refine h.mono ?_
 rintro e W' ⟨v,Post,rfl,⟨rfl,rfl⟩,hs,hk⟩
 have sB:Sat W' A:=by simpa using hs
 have hold:=Sh au sB hk;refine⟨_,rfl,ds,gs,before,[],before,[],by simpa using hW,?_,?_,?_,?_,fun h=>by cases h⟩
 ·rw[hrt,uF];exact trodAll_mk1 ⟨1,by simp[DataW.trod,hb,Value.cells]⟩
 ·obtain⟨p,q,h1,h2,h3,_,_⟩:=hW;rw[Za]at h2;obtain⟨rfl,rfl⟩:=trodVars_none h2;rw[uF];simp only[vm]at h3;subst h3;simpa using rC oB hold (fun b hb=>by simpa using hb) aP h1
 ·rw[uF,Za];rfl
 ·refine⟨hk.os,hk.output,fun i hi=>?_⟩;rw[hold i hi];have:W.heap[i]? =some W.heap[i]:=v7 hi;generalize W.heap[i]=o at this;rw[this];cases o <;> first|exact⟨rfl,rfl,rfl,fun _ _=>rfl⟩|exact .inr ⟨rfl,rfl⟩|rfl
theorem cj {W:World}{b o:Nat}{v:Value}(h:W.cell? ⟨b,o,none⟩=some v)(hf:W.frozen? ⟨b,o,none⟩=false):(kC.cell b o v).holds W:=by
 unfold World.cell? at h;unfold World.frozen? at hf;split at h
 ·rename_i c t fr hb;obtain⟨lo,hi⟩:=fr;simp only at hb hf h;rw[hb]at hf;simp only[vE,decide_eq_false_iff_not]at hf;refine⟨c,t,lo,hi,hb,by simpa using h,fun hh=>?_⟩;rcases hf with hf|hf
  ·exact hf hh.1
  ·exact hf hh.2
 ·cases h
end
open Go Go.ChangeShapes Go.WideShapes Go.Deep
inductive SC where
 |int (k:IntKind)
 |str
section
variable {H:Type} {enc:TypeId×Value->H} {P:Program} {W:World} {base:Nat}
theorem Fi(b o i:Nat):(⟨b,o,none⟩:Addr).add i=⟨b,o+i,none⟩:=by
 unfold Addr.add;split
 ·rename_i h0;have:i=0:=by simpa using h0
  subst this;rfl
 ·rfl
theorem gf {α:Type}{Q:Nat->α->Prop}{n:Nat}(h:∀i,i < n->∃x,Q i x):∃l:List α,l.length=n/\∀i x,l[i]? =some x->Q i x:=by
 induction n with
 |zero=>exact⟨[],rfl,Zs⟩
 |succ n ih=>
  obtain⟨l,h1,h2⟩:=ih (fun i hi=>h i Zo);obtain⟨x,hx⟩:=h n Zo;refine⟨l++[x],by simp[h1],fun i y hy=>?_⟩;by_cases hi:i < l.length
  ·rw[Vj hi]at hy;exact h2 i y hy
  ·rw[Vl Zo]at hy;have:i=n:=by
    have:=(Vt.1 hy).1;simp at this;omega
   subst this;simp[h1]at hy;subst hy;exact hx
end
structure NX {H:Type}(bulk:DataW H->Nat):Prop where
 agg:∀l d,d∈l->bulk d < bulk (.agg l)
 sl:∀es sp d,d∈es->bulk d < bulk (.slice es sp)
 len:∀es sp,es.length<=bulk (.slice es sp)
 sls:∀es sp,(es.map bulk).sum<=bulk (.slice es sp)
 aggs:∀l,(l.map bulk).sum < bulk (.agg l)
 str:∀bs,bs.length<=bulk (.lit (.string bs))
theorem Aq {W:World}{a:Addr}{v:Value}(h:W.cell? a=some v):a=⟨a.block,a.off,none⟩:=by
 obtain⟨b,o,s⟩:=a;cases s with
 |none=>rfl
 |some s=>
  unfold World.cell? at h;split at h
  ·simp at h
  ·cases h
section
variable {H:Type} {enc:TypeId×Value->H} {P:Program} {bulk:DataW H->Nat}
theorem uM(hb:NX bulk){t e:TypeId}{sz:Nat}(ht:P.underlying t=some (.slice e))(hc:P.cellsOf e=sz)(iv:0 < sz){W:World}{u:Value}{n:Nat}{x:DataW H×List MemPlace}{A:List kC}(h:DataW.trod enc P W 0 (fun _=>true) true n t [u]=some x)(hf:W.noneFrozen x.2)(hA:∀a:kC,a.holds W->a∈A):
 ∃(a:Option Addr) (k c bk o:Nat) (us:Nat->List Value) (D:Nat->DataW H) (Pl:Nat->List MemPlace) (m:Nat),u=.slice a k c/\(k<=bulk x.1/\((List.range' 0 k).map fun i=>bulk (D i)).sum<=bulk x.1/\k<=c)/\(0 < k->a=some ⟨bk,o,none⟩)/\∀i,i < k->bulk (D i) < bulk x.1/\(us i).length=sz/\(∀y∈kA bk (o+i*sz) (us i),y∈A)/\DataW.trod enc P W 0 (fun _=>true) true m e (us i)=some (D i,Pl i)/\W.noneFrozen (Pl i):=by
 rcases open_slice ht h with⟨h1,_⟩|⟨a,len,cap,m,n',D,Pl,AV,_,hl,_,hm,hx,hi⟩
 ·simp only[vq,and_true]at h1;exact⟨none,0,0,0,0,fun _=>[],fun _=>.nil,fun _=>[],0,h1,⟨Qv _,Qv _,Qn _⟩,fun h=>absurd h (Nat.lt_irrefl 0),fun i hi=>absurd hi (Nat.not_lt_zero _)⟩
 ·simp only[vq,and_true]at AV;simp only[if_true]at hm;subst hm;subst hx;rw[hc]at hi;obtain⟨us,x4⟩:∃us:Nat->List Value,∀i,i < m->W.cells? 0 (a.add (i*sz)) sz=some (us i)/\DataW.trod enc P W 0 (fun _=>true) true n' e (us i)=some (D i,Pl i):=
   ⟨fun i=>if h:i < m then(hi i h).choose else [],fun i h=>by simp only[dif_pos h];exact(hi i h).choose_spec⟩
  refine⟨some a,len,m,a.block,a.off,us,D,Pl,n',AV,⟨?_,?_,Zo⟩,fun hk=>?_,fun i Ug=>?_⟩
  ·have:=hb.len ((List.range len).map D) ((List.range (m - len)).map fun j=>D (len+j));simpa using this
  ·have:=hb.sls ((List.range len).map D) ((List.range (m - len)).map fun j=>D (len+j));rw[QD]at this;rw[<- List.range_eq_range'];exact this
  ·obtain⟨h0,_⟩:=x4 0 Zo;obtain⟨_,_,T8⟩:=World.cells?_some h0;have h00:=T8 0 iv;obtain⟨_,hlen,_⟩:=World.cells?_some h0;rw[Zg Zo]at h00;have e1:(a.add (0*sz)).add 0=a:=by rw[Qw];rfl
   rw[e1]at h00;rw[<- Aq h00]
  ·obtain⟨h0,h1⟩:=x4 i Zo;obtain⟨_,hlen,T8⟩:=World.cells?_some h0;have ha:a=⟨a.block,a.off,none⟩:=by
    obtain⟨g0,_⟩:=x4 0 Zo;obtain⟨_,glen,gat⟩:=World.cells?_some g0;have h00:=gat 0 iv;rw[Zg Zo]at h00;have e1:(a.add (0*sz)).add 0=a:=by rw[Qw];rfl
    rw[e1]at h00;exact Aq h00
   refine⟨hb.sl _ _ _ (QM.2 ⟨i,QO.2 Ug,rfl⟩),hlen,fun y hy=>?_,h1,fun b o U7=>hf b o ?_⟩
   ·obtain⟨j,v,hj,rfl⟩:=kJ.1 hy;have xT:=(Vt.1 hj).1;have gh:=T8 j Zo;rw[ha,Fi,Fi,hj]at gh;refine hA _ (cj gh (hf _ _ ?_));refine Zw _ (MemPlace.mem_row.2 ⟨i*sz+j,?_,?_⟩)
    ·rw[hc];have:(i+1)*sz<=m*sz:=Qs _ Zo;rw[Nat.succ_mul]at this;omega
    ·rw[Qi]
   ·exact QG _ (QL.2 ⟨i,QO.2 Zo,U7⟩)
theorem np(hb:NX bulk){t e:TypeId}(ht:P.underlying t=some (.slice e))(he:P.underlying e=some .string)(hc:P.cellsOf e=1){W:World}{u:Value}{n:Nat}{x:DataW H×List MemPlace}{A:List kC}(h:DataW.trod enc P W 0 (fun _=>true) true n t [u]=some x)(hf:W.noneFrozen x.2)(hA:∀a:kC,a.holds W->a∈A)(eC:bulk x.1<=1048576):
 ∃l:List ByteArray,dG A u l/\l.length<=bulk x.1:=by
 obtain⟨a,k,c,bk,o,us,D,Pl,m,rfl,⟨hk,_⟩,ha,hi⟩:=uM hb ht hc Zd h hf hA;obtain⟨l,hl,hx⟩:=gf (α:=ByteArray) (Q:=fun i t=>kC.cell bk (o+i) (.string t)∈A/\t.size<=140737488355328) (n:=k) (fun i Ug=>by
  obtain⟨h1,h2,h3,h4,h5⟩:=hi i Ug;obtain⟨s,hs,hd,_⟩:=DataW.trod_string he h4;refine⟨s,h3 _ (kJ.2 ⟨0,.string s,by rw[hs];rfl,by rw[Nat.mul_one];rfl⟩),?_⟩;have e1:D i=.lit (.string s.data.toList):=congrArg Prod.fst hd;have:=hb.str s.data.toList;rw[e1]at h1;have e2:s.data.toList.length=s.size:=by simp
  omega)
 refine⟨l,⟨a,c,by rw[hl],Zo,fun i t h=>?_⟩,Zo⟩;have Ug:i < k:=by have:=(Vt.1 h).1;omega
 exact⟨bk,o,ha Zo,(hx i t h).1,(hx i t h).2⟩
structure Z2 (P:Program)(t:TypeId)(sl:TypeId):Prop where
 str:∃fs:Array Field,P.underlying t=some (.struct fs)/\fs.size=5/\∃t0 t1 t2 t3,(fs.toList.map fun f=>(f.type,f.offset))=[(t0,0),(t1,1),(t2,2),(t3,3),(sl,4)]/\P.underlying t0=some (.int .u8)/\P.underlying t1=some (.int .i64)/\P.underlying t2=some (.int .u64)/\P.underlying t3=some .string/\
  P.cellsOf t0=1/\P.cellsOf t1=1/\P.cellsOf t2=1/\P.cellsOf t3=1/\P.cellsOf sl=1
 cells:P.cellsOf t=5
 items:P.underlying sl=some (.slice t)
theorem wf_u8 {n:Int}(h:(Lit.int .u8 n).wf=true):∃k:Nat,n=k/\k < 256:=by
 simp[Lit.wf]at h;have e1:IntKind.u8.min=0:=by decide
 have e2:IntKind.u8.max=255:=by decide
 exact⟨n.toNat,Zo,Zo⟩
theorem wf_u64 {n:Int}(h:(Lit.int .u64 n).wf=true):∃k:Nat,n=k/\k < 18446744073709551616:=by
 simp[Lit.wf]at h;have e1:IntKind.u64.min=0:=by decide
 have e2:IntKind.u64.max=18446744073709551615:=by decide
 exact⟨n.toNat,Zo,Zo⟩
theorem wf_i64 {n:Int}(h:(Lit.int .i64 n).wf=true):-9223372036854775808<=n/\n<=9223372036854775807:=by
 simp[Lit.wf]at h;have e1:IntKind.i64.min=-9223372036854775808:=by decide
 have e2:IntKind.i64.max=9223372036854775807:=by decide
 omega
theorem zM {α:Type}{l:List α}{i:Nat}{v:α}(h:(l.drop i).take 1=[v]):l[i]? =some v:=by
 have:=congrArg (fun m:List α=>m[0]?) h;simp only[List.getElem?_take,Vo]at this;simpa using this
theorem xH {ys:List (DataW H×List MemPlace)}{i:Nat}{y:DataW H×List MemPlace}(h:ys[i]? =some y){q:MemPlace}(hq:q∈y.2):q∈ys.flatMap (·.2):=QL.2 ⟨y,Zv h,hq⟩
theorem rd_lit(hb:NX bulk){t sl:TypeId}(hT:Z2 P t sl){W:World}{A:List kC}(hA:∀a:kC,a.holds W->a∈A):∀(N:Nat) (n:Nat) (cs:List Value) (x:DataW H×List MemPlace),bulk x.1<=N->N<=1048576->DataW.trod enc P W 0 (fun _=>true) true n t cs=some x->W.noneFrozen x.2->∃l:Lt,zk A l cs/\l.size<=bulk x.1:=by
 obtain⟨fs,hu,eC,t0,t1,t2,t3,Gl,u0,u1,u2,u3,c0,c1,c2,c3,c4⟩:=hT.str;intro N
 induction N using Nat.strongRecOn with
 |_ N ih=>
  intro n cs x hx hN h hf;obtain⟨ys,k,_,rfl,hlen,fT,hfld⟩:=DataW.trod_struct hu h;rw[hT.cells]at hlen
  replace hx:bulk (.agg (ys.map (·.1)))<=N:=hx
  have aB:∀(i:Nat) (ty off:Nat),(fs.toList.map fun f=>(f.type,f.offset))[i]? =some (ty,off)->DataW.trod enc P W 0 (fun _=>true) true k ty ((cs.drop off).take (P.cellsOf ty))=ys[i]?:=fun i ty off hi=>by
   exact zC0
  have lS:∀i,i < 5->ys[i]? =some (ys.getD i (.nil,[])):=fun i hi=>by
   rw[Vh,Zg Zo];rfl
  have g0:=(aB 0 t0 0 (by rw[Gl];rfl)).trans (lS 0 Zo);have g1:=(aB 1 t1 1 (by rw[Gl];rfl)).trans (lS 1 Zo);have g2:=(aB 2 t2 2 (by rw[Gl];rfl)).trans (lS 2 Zo);have g3:=(aB 3 t3 3 (by rw[Gl];rfl)).trans (lS 3 Zo);have g4:=(aB 4 sl 4 (by rw[Gl];rfl)).trans (lS 4 Zo);rw[c0]at g0;rw[c1]at g1;rw[c2]at g2;rw[c3]at g3;rw[c4]at g4;obtain⟨z0,e0,_,w0⟩:=DataW.trod_int u0 g0;obtain⟨z1,e1,_,w1⟩:=DataW.trod_int u1 g1;obtain⟨z2,e2,_,w2⟩:=DataW.trod_int u2 g2;obtain⟨s,e3,d3,_⟩:=DataW.trod_string u3 g3;have aS:∀i,i < 5->bulk (ys.getD i (.nil,[])).1 < bulk (.agg (ys.map (·.1))):=fun i hi=>hb.agg _ _ (QM.2 ⟨_,Zv (lS i hi),rfl⟩)
  have uG:∀i,i < 5->W.noneFrozen (ys.getD i (.nil,[])).2:=fun i hi b o U7=>hf b o (xH (lS i hi) U7)
  obtain⟨v4,e4⟩:∃v,(cs.drop 4).take 1=[v]:=Q1.1 pJ;rw[e4]at g4;obtain⟨a,kk,c,bk,o,us,D,Pl,m,rfl,⟨hk,AX,hkc⟩,ha,hi⟩:=uM hb hT.items hT.cells Zd g4 (uG 4 Zo) hA;obtain⟨l,hl,hq⟩:=gf (α:=Lt) (Q:=fun i y=>zk A y (us i)/\y.size<=bulk (D i)) (n:=kk) (fun i Ug=>by
   obtain⟨q1,_,_,q4,q5⟩:=hi i Ug;have q6:=aS 4 Zo;exact ih (bulk (D i)) Zo m (us i) (D i,Pl i) (Qn _) Zo q4 q5)
  obtain⟨k0,rfl,b0⟩:=wf_u8 w0;obtain⟨k2,rfl,b2⟩:=wf_u64 w2;have b1:=wf_i64 w1;have AV:cs=[cv k0,vi z1,uv k2,.string s,.slice a l.length c]:=by
   exact zB9
  have Me:s.size<=1048576:=by
   have h3:=aS 3 Zo;have e:(ys.getD 3 (.nil,[])).1=.lit (.string s.data.toList):=congrArg Prod.fst d3;rw[e]at h3;have h5:=hb.str s.data.toList;exact zCW
  have h4:=aS 4 Zo;have hsz4:Lt.aq l<=bulk (ys.getD 4 (.nil,[])).1:=by
   refine Qp (Lt.SU (f:=fun i=>bulk (D i)) (o:=0) (fun i x hx=>?_)) ?_
   ·rw[Qu];exact(hq i x hx).2
   ·rw[hl];exact AX
  rw[AV];refine⟨.mk k0 z1 k2 s l,.mk ⟨b0,b1,b2,Zo,Zo⟩ (fun hp=>ha Zo) (fun i bQ=>(hi i Zo).2.2.1) (fun i x hx=>(hq i x hx).1),?_⟩;show 1+Lt.aq l<=bulk (.agg (ys.map (·.1)));omega
structure NodT (P:Program)(t tl sl st:TypeId):Prop where
 str:∃fs:Array Field,P.underlying t=some (.struct fs)/\fs.size=7/\∃t0 t1 t6,(fs.toList.map fun f=>(f.type,f.offset))=[(t0,0),(t1,1),(tl,2),(st,7),(st,8),(sl,9),(t6,10)]/\P.underlying t0=some (.int .u8)/\P.underlying t1=some .string/\P.underlying t6=some (.int .i64)/\
  P.cellsOf t0=1/\P.cellsOf t1=1/\P.cellsOf t6=1/\P.underlying st=some (.slice t1)
 cells:P.cellsOf t=11
 cs:P.cellsOf sl=1
 ct:P.cellsOf st=1
 cl:P.cellsOf tl=5
 kids:P.underlying sl=some (.slice t)
theorem XM(hb:NX bulk){t tl sl st ll:TypeId}(hT:NodT P t tl sl st)(hL:Z2 P tl ll){W:World}{A:List kC}(hA:∀a:kC,a.holds W->a∈A):∀(N:Nat) (n:Nat) (cs:List Value) (x:DataW H×List MemPlace),bulk x.1<=N->N<=1048576->DataW.trod enc P W 0 (fun _=>true) true n t cs=some x->W.noneFrozen x.2->∃l:Nd,jJ A l cs/\l.w<=bulk x.1:=by
 obtain⟨fs,hu,eC,t0,t1,t6,Gl,u0,u1,u6,c0,c1,c6,us3⟩:=hT.str;intro N
 induction N using Nat.strongRecOn with
 |_ N ih=>
  intro n cs x hx hN h hf;obtain⟨ys,k,_,rfl,hlen,fT,hfld⟩:=DataW.trod_struct hu h;rw[hT.cells]at hlen
  replace hx:bulk (.agg (ys.map (·.1)))<=N:=hx
  have aB:∀(i:Nat) (ty off:Nat),(fs.toList.map fun f=>(f.type,f.offset))[i]? =some (ty,off)->DataW.trod enc P W 0 (fun _=>true) true k ty ((cs.drop off).take (P.cellsOf ty))=ys[i]?:=fun i ty off hi=>by
   exact zC0
  have lS:∀i,i < 7->ys[i]? =some (ys.getD i (.nil,[])):=fun i hi=>by
   rw[Vh,Zg Zo];rfl
  have g0:=(aB 0 t0 0 (by rw[Gl];rfl)).trans (lS 0 Zo);have g1:=(aB 1 t1 1 (by rw[Gl];rfl)).trans (lS 1 Zo);have g2:=(aB 2 tl 2 (by rw[Gl];rfl)).trans (lS 2 Zo);have g3:=(aB 3 st 7 (by rw[Gl];rfl)).trans (lS 3 Zo);have g4:=(aB 4 st 8 (by rw[Gl];rfl)).trans (lS 4 Zo);have g5:=(aB 5 sl 9 (by rw[Gl];rfl)).trans (lS 5 Zo);have g6:=(aB 6 t6 10 (by rw[Gl];rfl)).trans (lS 6 Zo);rw[c0]at g0;rw[c1]at g1;rw[hT.cl]at g2;rw[hT.ct]at g3 g4;rw[hT.cs]at g5;rw[c6]at g6;obtain⟨z0,e0,_,w0⟩:=DataW.trod_int u0 g0;obtain⟨s,e1,d1,_⟩:=DataW.trod_string u1 g1;obtain⟨z6,e6,_,w6⟩:=DataW.trod_int u6 g6;have aS:∀i,i < 7->bulk (ys.getD i (.nil,[])).1 < bulk (.agg (ys.map (·.1))):=fun i hi=>hb.agg _ _ (QM.2 ⟨_,Zv (lS i hi),rfl⟩)
  have uG:∀i,i < 7->W.noneFrozen (ys.getD i (.nil,[])).2:=fun i hi b o U7=>hf b o (xH (lS i hi) U7)
  obtain⟨v3,e3⟩:∃v,(cs.drop 7).take 1=[v]:=Q1.1 pJ;obtain⟨v4,e4⟩:∃v,(cs.drop 8).take 1=[v]:=Q1.1 pJ;obtain⟨v5,e5⟩:∃v,(cs.drop 9).take 1=[v]:=Q1.1 pJ;rw[e3]at g3;rw[e4]at g4;rw[e5]at g5;have l2:=aS 2 Zo;have l3:=aS 3 Zo;have l4:=aS 4 Zo;have l5:=aS 5 Zo;obtain⟨lit,mO,KD⟩:=rd_lit hb hL hA 1048576 k _ _ Zo (Qn _) g2 (uG 2 Zo);obtain⟨args,cp,hargl⟩:=np hb us3 u1 c1 g3 (uG 3 Zo) hA Zo;obtain⟨ab,DS,htempl⟩:=np hb us3 u1 c1 g4 (uG 4 Zo) hA Zo;obtain⟨a,kk,c,bk,o,us,D,Pl,m,rfl,⟨hk,AX,hkc⟩,ha,hi⟩:=uM hb hT.kids hT.cells Zd g5 (uG 5 Zo) hA;obtain⟨l,hl,hq⟩:=gf (α:=Nd) (Q:=fun i y=>jJ A y (us i)/\y.w<=bulk (D i)) (n:=kk) (fun i Ug=>by
   obtain⟨q1,_,_,q4,q5⟩:=hi i Ug;exact ih (bulk (D i)) Zo m (us i) (D i,Pl i) (Qn _) Zo q4 q5)
  have hyl2:ys.length=7:=by rw[fT];exact eC
  obtain⟨k0,rfl,b0⟩:=wf_u8 w0;have b6:=wf_i64 w6;have AV:cs=[cv k0,.string s]++(cs.drop 2).take 5++[v3,v4,.slice a l.length c,vi z6]:=by
   have p0:=zM e0;have p1:=zM e1;have p3:=zM e3;have p4:=zM e4;have p5:=zM e5;have p6:=zM e6;obtain⟨a0,a1,a2,a3,a4,a5,a6,a7,a8,a9,a10,rfl⟩:∃a0 a1 a2 a3 a4 a5 a6 a7 a8 a9 a10,cs=[a0,a1,a2,a3,a4,a5,a6,a7,a8,a9,a10]:=by
    match cs,hlen with
    |[a0,a1,a2,a3,a4,a5,a6,a7,a8,a9,a10],_=>exact⟨a0,a1,a2,a3,a4,a5,a6,a7,a8,a9,a10,rfl⟩
   simp only[Vn,Vm,X4]at p0 p1 p3 p4 p5 p6;rw[p0,p1,p3,p4,p5,p6,hl];rfl
  have hs0:s.size<=bulk (ys.getD 1 (.nil,[])).1:=by
   have e:(ys.getD 1 (.nil,[])).1=.lit (.string s.data.toList):=congrArg Prod.fst d1;rw[e];have h5:=hb.str s.data.toList;exact zCW
  have sC:s.size<=1048576:=by
   have h3:=aS 1 Zo;have e:(ys.getD 1 (.nil,[])).1=.lit (.string s.data.toList):=congrArg Prod.fst d1;rw[e]at h3;have h5:=hb.str s.data.toList;exact zCW
  rw[AV];have hsz5:Nd.ws l<=bulk (ys.getD 5 (.nil,[])).1:=by
   refine Qp (Nd.ZN (f:=fun i=>bulk (D i)) (o:=0) (fun i x hx=>?_)) ?_
   ·rw[Qu];exact(hq i x hx).2
   ·rw[hl];exact AX
  refine⟨.mk k0 s lit args ab l z6,.mk ⟨b0,Zo,Zo,b6⟩ mO cp DS (fun hp=>ha Zo) (fun i bQ=>(hi i Zo).2.2.1) (fun i x hx=>(hq i x hx).1) Zo,?_⟩;have hag:=hb.aggs (ys.map (·.1));have hsum:bulk (ys.getD 1 (.nil,[])).1+bulk (ys.getD 2 (.nil,[])).1+bulk (ys.getD 3 (.nil,[])).1+bulk (ys.getD 4 (.nil,[])).1+bulk (ys.getD 5 (.nil,[])).1<=((ys.map (·.1)).map bulk).sum:=by
   match ys,hyl2 with
   |[y0,y1,y2,y3,y4,y5,y6],_=>simp only[QC,QE,List.sum_cons,List.sum_nil,List.getD_cons_zero,List.getD_cons_succ];omega
  show 1+s.size+lit.size+args.length+ab.length+Nd.ws l<=bulk (.agg (ys.map (·.1)));omega
end
end Go.V
namespace Go.Proofs.YtijnokbblmbpkaaGreatDoor
open Go Go.V
set_option maxHeartbeats 3200000
set_option maxRecDepth 100000
abbrev aZ (lb:Nat)(m d:Bool):List kC:=kA lb 0 [.bool m,.bool d]
def LkQ(A:List kC)(lb:Nat)(m0 deep:Bool)(r:Rs):Value->SH->Prop:=fun v Post=>∃(d:Nat) (m:Bool),r=some (d,m)/\v=vi d/\Post=[A,aZ lb (m0||m) deep]
def LkZ(A:List kC)(lb:Nat)(deep:Bool)(r:Rs):List PanicEntry->SH->Prop:=fun ch Post=>r=none/\ch=wZ/\∃m,Post=[A,aZ lb m deep]
abbrev AM (f:Nat)(args:List Value)(A:List kC)(lb:Nat)(m0 deep:Bool)(r:Rs):Prop:=ji Tryz.prog f args [A,aZ lb m0 deep] (LkQ A lb m0 deep r) (LkZ A lb deep r)
theorem fE(B:List kC)(v:Value)(l:List ByteArray)(h:dG B v l)(lb Jx:Nat)(m0 deep:Bool):ji Tryz.prog 106 [kF lb,vi Jx,v] [B,aZ lb m0 deep]
 (fun v Post=>l.all jO=true/\v=.tuple #[]/\Post=[B,aZ lb (m0||decide (Jx < l.length)) deep]) (fun ch Post=>l.all jO=false/\ch=wZ/\∃m,Post=[B,aZ lb m deep]):=by
 refine ji.intro low106 (by simp[n106]) ?_;have hc:=x7 B v l h;obtain⟨a,c,rfl,hl,hr⟩:=h;cases m0 with
 |true=>
  exact zAZ
 |false=>
  refine ae ?_;by_cases hm:Jx < l.length
  ·rw[show decide ((l.length:Int) > (Jx:Int))=true from Zt Zo,Zt hm];exact zAZ
  ·rw[show decide ((l.length:Int) > (Jx:Int))=false from Zf Zo,Zf hm];refine ae ?_;refine kH hc Zr ZP (fun v Post hv=>?_);obtain⟨rfl,rfl⟩:=hv;simp only[aJ];refine ae ?_;refine kL (jC _) Zr ZP (fun v Post hv=>?_) (fun ch Post hz=>?_)
   ·obtain⟨h1,rfl,rfl⟩:=hv;simp only[QS];refine ae ?_;exact jL (kG (Post:=[B,aZ lb false deep]) (.inl rfl) .nil ⟨by simpa using h1,rfl,rfl⟩ ZI)
   ·obtain⟨h1,rfl,rfl⟩:=hz;exact⟨[B,aZ lb false deep],ZI,by simpa using h1,rfl,false,rfl⟩
theorem qM {A:List kC}{x:Nd}{vs:List Value}(h:jJ A x vs):∃c2 c3 c4 c5 c6 c7 c8 c9 rH,vs=[cv x.kind,.string x.name,c2,c3,c4,c5,c6,c7,c8,c9,rH]/\x.name.size<=140737488355328/\x.kind < 256:=by
 cases h with
 |mk wf hl bJ bF ha hm hr=>
  cases hl with
  |mk Tt IS p8 du=>exact⟨_,_,_,_,_,_,_,_,_,rfl,wf.name,wf.kind⟩
def zZ(A:List kC)(x:Nd)(vs:List Value):Prop:=(∀lb m0 deep,AM 169 [kF lb,.agg vs.toArray] A lb m0 deep (kN x))/\∀d m,kN x=some (d,m)->d<=1099511627776
theorem ML(A:List kC)(x:Nd)(vs:List Value)(h:jJ A x vs)(hn:zZ A x vs)(place lb:Nat)(m0 deep:Bool):AM 206 [kF lb,.agg vs.toArray,vi place] A lb m0 deep (yS x place (kN x)):=by
 obtain⟨L7,AY⟩:=hn;obtain⟨c2,c3,c4,c5,c6,c7,c8,c9,rH,rfl,eC,hk⟩:=qM h;have Pb:wI x=eD x.kind x.name:=rfl;have EY:=Jm x.kind x.name eC c2 c3 c4 c5 c6 c7 c8 c9 rH;have aC:=L7 lb m0 deep;refine ji.intro low206 (by simp[n206]) ?_;unfold yS;rw[Pb];generalize x.kind=k at*;generalize x.name=s at*;generalize kN x=r at*;generalize eD k s=lv at*;refine ae ?_;refine kX Zr (fun q=>?_);simp only[Value.cells];refine ae ?_;by_cases h9:k=9
 ·have aH:kQ (decide (k≠9/\k≠6)) (if lv < place then wi r else r)=none:=by simp[kQ,h9]
  rw[show decide ((k:Int)=9)=true from Zt Zo,Bool.not_true];exact Bz
 rw[show decide ((k:Int)=9)=false from Zf Zo,vO];refine ae ?_;by_cases h6:k=6
 ·have aH:kQ (decide (k≠9/\k≠6)) (if lv < place then wi r else r)=none:=by simp[kQ,h6]
  rw[show decide ((k:Int)=6)=true from Zt Zo,Bool.not_true];exact Bz
 rw[show decide ((k:Int)=6)=false from Zf Zo,vO];have hmust:kQ (decide (k≠9/\k≠6)) (if lv < place then wi r else r)=(if lv < place then wi r else r):=by simp[kQ,h9,h6]
 rw[hmust];refine ae ?_;refine kL (jC true) Zr ZP (fun v Post hv=>?_) HZ;obtain⟨_,rfl,rfl⟩:=hv;simp only[QS];refine ae ?_;refine kL aC Zr ZP (fun v Post hv=>?_) (fun ch Post hz=>?_);rotate_left
 ·obtain⟨hb,rfl,m2,rfl⟩:=hz;exact⟨[A,aZ lb m2 deep],ZI,by rw[hb];split <;> rfl,rfl,m2,rfl⟩
 obtain⟨d,m2,he,rfl,rfl⟩:=hv;have hd:=AY d m2 he;simp only[aJ];refine ae ?_;refine kK EY Zr ?_;refine ae ?_;by_cases aS:lv < place
 ·rw[show decide ((lv:Int) < (place:Int))=true from Zt Zo];refine ae ?_;refine jL (kG (Post:=[A,aZ lb (m0||m2) deep]) (.inr rfl) (.tmp Zr .nil) ⟨d+1,m2,by rw[if_pos aS,he];rfl,rfl,rfl⟩ ZI)
 ·rw[show decide ((lv:Int) < (place:Int))=false from Zf Zo];refine ae ?_;refine jL (kG (Post:=[A,aZ lb (m0||m2) deep]) (.inr rfl) (.tmp Zr .nil) ⟨d,m2,by rw[if_neg aS,he],rfl,rfl⟩ ZI)
theorem zz(A:List kC)(x:Nd)(vs:List Value)(h:jJ A x vs)(hn:zZ A x vs)(place lb:Nat)(m0 deep:Bool):AM 170 [kF lb,.agg vs.toArray,vi place] A lb m0 deep (ja x place (kN x)):=by
 have hp:=ML A x vs h hn place lb m0 deep;obtain⟨c2,c3,c4,c5,c6,c7,c8,c9,rH,rfl,eC,hk⟩:=qM h;have xZ:jR x=zI x.kind x.name:=rfl;have hss:=Au x.kind x.name c2 c3 c4 c5 c6 c7 c8 c9 rH;refine ji.intro low170 (by simp[n170]) ?_;unfold ja;rw[xZ];generalize yS x place (kN x)=r at*;refine ae ?_;refine kX Zr (fun q=>?_);simp only[Value.cells];refine ae ?_;refine kK hss Zr ?_;cases hs:zI x.kind x.name with
 |true=>
  have aH:kQ (!true) r=none:=rfl;exact Bz
 |false=>
  have hm:kQ (!false) r=r:=rfl;rw[hm];refine ae ?_;refine kL (jC true) Zr ZP (fun v Post hv=>?_) HZ;obtain⟨_,rfl,rfl⟩:=hv;simp only[QS];refine ae ?_;refine kL hp Zr ZP (fun v Post hv=>?_) (fun ch Post hz=>?_);rotate_left
  ·obtain⟨hb,rfl,m2,rfl⟩:=hz;exact⟨[A,aZ lb m2 deep],ZI,hb,rfl,m2,rfl⟩
  exact zD4
end Go.Proofs.YtijnokbblmbpkaaGreatDoor
namespace Go.V
open Go
section
variable {ops:Array Oper}
theorem χ {both:Bool}{rs:List (RO×Oper)}{orders:List (List Nat)}(hc:fk both rs ops orders=true)(t:Nat):
 ∃o∈orders,o.Perm (jf ops ops.size t (Array.replicate ops.size false))/\(jf ops ops.size t (Array.replicate ops.size false)).Nodup/\(∀i∈o,i < ops.size)/\
  o.Pairwise (fun x y=>indep (rs.getD y default) (rs.getD x default)=true∨[x,y].Sublist (jf ops ops.size t (Array.replicate ops.size false))):=by
 simp only[fk,vF]at hc;obtain⟨⟨⟨hb,hd⟩,ho⟩,hp⟩:=hc;have hu:oI ops (Array.replicate ops.size false)=List.range ops.size:=by
  exact zAU
 obtain⟨s1,s2,_⟩:=y8 hb ops.size t (Array.replicate ops.size false) Zs (by rw[hu];simp);generalize hl:jf ops ops.size t (Array.replicate ops.size false)=l at s1 s2|-;have U6:∀{x y:Nat},y < ops.size->x∈(ij ops).getD y []->J8 l x y:=fun hy hx=>hl ▸ uE hb (Qn _) (iQ hx) hy
 have bO:∀i,i∈l↔i < ops.size:=fun i=>by rw[s2,hu];simp
 generalize IW:Fv both rs (ij ops) ops.size=d at hd hp;have hdlt:∀x∈d,x < ops.size:=by
  exact zCX
 have Gw:(l.filter (d.contains ·)).Perm d:=by
  exact zBE
 have au:=ve.1 hp _ (sM Gw);simp only[vR,vN,vh]at au;have Gs:zm (fun x y=>!((ij ops).getD x []).contains y) (l.filter (d.contains ·))=true:=by
  exact zAD
 rcases au with au|⟨o,NH,hpo⟩
 ·rw[Gs]at au;cases au
 have xV:=ve.1 ho o NH;simp only[vF,beq_iff_eq,ve,decide_eq_true_eq]at xV;obtain⟨⟨o1,o2⟩,o3⟩:=xV;have dI:o.Perm l:=by
  exact zAI
 refine⟨o,NH,dI,s1,fun i hi=>(bO i).1 (dI.subset hi),?_⟩;exact zAN
theorem ti {o l:List Nat}(hp:o.Perm l)(hn:l.Nodup)(h:o.Pairwise fun x y=>[x,y].Sublist l):o=l:=by
 refine List.Perm.eq_of_pairwise (le:=fun x y=>[x,y].Sublist l) (fun a b _ _ h1 h2=>?_) h (List.pairwise_iff_forall_sublist.2 fun h=>h) hp;have b1:=(uW hn h1).2.2;have b2:=(uW hn h2).2.2;omega
def il(X:Nat->RO×Oper)(val:Nat->Value):List Nat->Env->Env
 |[],Γ=>Γ
 |i::r,Γ=>il X val r (ap (X i).1.dst (val i) Γ)
def writes(X:Nat->RO×Oper)(t j:Nat):Bool:=(X j).1.dst==some t
theorem th {X:Nat->RO×Oper}{val:Nat->Value}{t:Nat}:∀{p:List Nat} {Γ Δ:Env},look Γ t=look Δ t->look (il X val p Γ) t=look (il X val (p.filter (writes X t)) Δ) t:=by
 intro p
 induction p with
 |nil=>intro Γ Δ h;exact h
 |cons j p ih=>
  intro Γ Δ h;simp only[il,V6];by_cases hw:writes X t j=true
  ·rw[if_pos hw];simp only[il];refine ih ?_;simp only[writes,beq_iff_eq]at hw;rw[hw];simp[ap,look]
  ·rw[if_neg hw];refine ih ?_;simp only[writes,beq_iff_eq]at hw;rw[<- h];cases hd:(X j).1.dst with
   |none=>rfl
   |some d=>
    have:d≠t:=fun e=>hw (by rw[hd,e])
    simp[ap,look,this]
theorem SZ {i:Nat}:∀{a b c d:List Nat},a++i::b=c++i::d->i∉a->i∉c->a=c:=by
 intro a
 induction a with
 |nil=>
  intro b c d h _ hc;cases c with
  |nil=>rfl
  |cons x c=>simp at h;exact absurd (by simp[h.1]) hc
 |cons x a ih=>
  intro b c d h ha hc;cases c with
  |nil=>simp at h;exact absurd (by simp[h.1]) ha
  |cons y c=>
   simp only[vr,vq]at h;rw[h.1,ih h.2 (fun h=>ha (by simp[h])) (fun h=>hc (by simp[h]))]
theorem LF {X:Nat->RO×Oper}{val:Nat->Value}{Γ:Env}{p q l1 l2:List Nat}{i t:Nat}(hp:(p++i::q).Perm (l1++i::l2))(hn:(l1++i::l2).Nodup)
 (DP:(p++i::q).Pairwise (fun x y=>indep (X y) (X x)=true∨[x,y].Sublist (l1++i::l2))) (ht:t∈looks (X i)):look (il X val p Γ) t=look (il X val l1 Γ) t:=by
 have key:(p++i::q).filter (fun j=>decide (j=i)||writes X t j)=(l1++i::l2).filter (fun j=>decide (j=i)||writes X t j):=by
  refine ti (hp.filter _) (hn.filter _) ?_;have dt:(p++i::q).Pairwise (fun x y=>x≠y):=hp.nodup_iff.2 hn;refine((DP.and dt).filter _).imp_of_mem ?_;intro x y hx hy ⟨h,bZ⟩;have fx:=(QK.1 hx).2;have fy:=(QK.1 hy).2;rcases h with h|h
  ·exfalso;simp only[indep,vF]at h;obtain⟨⟨h1,h2⟩,_⟩:=h;have a1:=zX h1;have a2:=zX h2;simp only[vR,decide_eq_true_eq,writes,beq_iff_eq]at fx fy;rcases fx with fx|fx <;> rcases fy with fy|fy
   ·exact bZ (fx.trans fy.symm)
   ·subst fx;exact(a1 t fy).1 ht
   ·subst fy;exact(a2 t fx).1 ht
   ·exact(a1 t fy).2 fx
  ·have:=h.filter (fun j=>decide (j=i)||writes X t j)
   rwa [show List.filter (fun j=>decide (j=i)||writes X t j) [x,y]=[x,y] by simp only[List.filter,fx,fy]]at this
 have hip:i∉p:=by
  have:=hp.nodup_iff.2 hn;intro h;exact(QT.1 this).2.2 i h i Zs rfl
 have cF:i∉l1:=fun h=>(QT.1 hn).2.2 i h i Zs rfl
 rw[V5,V5,List.filter_cons_of_pos Zs,List.filter_cons_of_pos Zs]at key;have h2:=SZ key (fun h=>hip ((QK.1 h).1)) (fun h=>cF ((QK.1 h).1));have fe:∀l:List Nat,i∉l->l.filter (fun j=>decide (j=i)||writes X t j)=l.filter (writes X t):=fun l hl=>List.filter_congr fun j hj=>by
  have:j≠i:=fun e=>hl (e ▸ hj)
  simp[this]
 rw[fe p hip,fe l1 cF]at h2;rw[th (p:=p) rfl,th (p:=l1) rfl,h2]
theorem LD {X:Nat->RO×Oper}{val:Nat->Value}{i:Nat}:∀{p:List Nat} {Γ:Env},il X val (p++[i]) Γ=ap (X i).1.dst (val i) (il X val p Γ):=by
 intro p
 induction p with
 |nil=>intro Γ;rfl
 |cons j p ih=>intro Γ;exact ih
def Yu(P:Program)(n:Nat)(X:Nat->RO×Oper)(PZ:List PanicEntry->SH->Prop)(Hs:SH->Prop)(val:Nat->Value)(φ:Nat->Prop)(i:Nat)(Δ:Env):Prop:=
 ∀Γ H,(∀t∈looks (X i),∀v,look Δ t=some v->look Γ t=some v)->Hs H->VO P n [(X i).1] Γ H (fun ch _ H'=>PZ ch H') (fun ay H'=>ay=ap (X i).1.dst (val i) Γ/\Hs H'/\φ i)
theorem XT {P:Program}{n:Nat}{X:Nat->RO×Oper}{PZ:List PanicEntry->SH->Prop}{Hs:SH->Prop}{val:Nat->Value}{φ:Nat->Prop}{Nr:Env}{o l:List Nat}(hp:o.Perm l)(hn:l.Nodup)
 (DP:o.Pairwise (fun x y=>indep (X y) (X x)=true∨[x,y].Sublist l)) (mP:∀i∈l,rQ P n [(X i).1] [X i]) (xY:∀p i q,o=p++i::q->Yu P n X PZ Hs val φ i (il X val p Nr))
 {F:List kC} {ZZ:Exit->Act->World->Prop} {Q:Act->World->Prop} {a0:Act} {w0:World}
 (hq:∀a' w' H',w8 n (il X val l Nr) a'->a'.defers=a0.defers->Sat w' (H'.flatten++F)->kg w0 w'->Hs H'->(∀i∈l,φ i)->Q a' w')
 (hz:∀ch a' w' H',a'.tmps.size=n->a'.defers=a0.defers->Sat w' (H'.flatten++F)->kg w0 w'->PZ ch H'->ZZ (.panic ch) a' w'):
 ∀(l2 l1:List Nat),l=l1++l2->∀a w H,w8 n (il X val l1 Nr) a->a.defers=a0.defers->Sat w (H.flatten++F)->kg w0 w->Hs H->(∀i∈l1,φ i)->cr P ZZ Q (l2.map X) a w:=by
 intro l2
 induction l2 with
 |nil=>
  intro l1 hl a w H ha hd hs hk hh WI;rw[vm]at hl;subst hl;exact hq a w H ha hd hs hk hh WI
 |cons i l2 ih=>
  intro l1 hl a w H ha hd hs hk hh WI;have hi:i∈o:=hp.mem_iff.2 (by rw[hl];simp);obtain⟨p,q,ho⟩:=vp hi;have st:=xY p i q ho (il X val l1 Nr) H (fun t ht v hv=>by
   rw[<- LF (val:=val) (Γ:=Nr) (by rw[<- ho,<- hl];exact hp) (by rw[<- hl];exact hn) (by rw[<- ho,<- hl];exact DP) ht];exact hv) hh
  have:=st [X i] (mP i (by rw[hl];simp)) a w F ZZ (cr P ZZ Q (l2.map X)) ha hs
   (fun a' w' ay H' ⟨k1,k2,k3⟩ g1 g2 g3 g4=>by
     subst k1;exact ih (l1++[i]) (by rw[hl];simp) a' w' H' (by rw[LD];exact g1) (g2.trans hd) g3 (hk.trans g4) k2 (fun j hj=>by
      rcases QF.1 hj with h|h
      ·exact WI j h
      ·rw[QR.1 h];exact k3))
   (fun ch a' w' ay H' k g1 g2 g3 g4=>hz ch a' w' H' g1.size (g2.trans hd) g3 (hk.trans g4) k)
  exact this
def θ:R->List Operand
 |.call _ xs=>xs
 |r=>lB r
def yg(r:RO):List Nat:=cO r.guard++cX (θ r.op)
def okR(r:RO):Bool:=kd r.op||jG r.op||(match r.op with|.call _ _=>true|_=>false)
def xg(P:Program)(n:Nat)(PZ:List PanicEntry->SH->Prop)(Hs:SH->Prop):List RO->Env->Prop->Prop
 |[],_,Φ=>¬Φ
 |r::rs,Δ,Φ=>okR r=true/\∃(v:Value) (φ:Prop),(∀Γ H,(∀t∈yg r,∀u,look Δ t=some u->look Γ t=some u)->Hs H->VO P n [r] Γ H (fun ch _ H'=>PZ ch H') (fun ay H'=>ay=ap r.dst v Γ/\Hs H'/\φ))/\
   xg P n PZ Hs rs (ap r.dst v Δ) (Φ/\φ)
theorem kI {P:Program}{n:Nat}{PZ:List PanicEntry->SH->Prop}{Hs:SH->Prop}{r:RO}{rs:List RO}{Δ:Env}{Φ:Prop}{v:Value}(h2:xg P n PZ Hs rs (ap r.dst v Δ) (Φ/\True))(ok:okR r=true:=by rfl)
 (h1:∀Γ H,(∀t∈yg r,∀u,look Δ t=some u->look Γ t=some u)->Hs H->VO P n [r] Γ H (fun ch _ H'=>PZ ch H') (fun ay H'=>ay=ap r.dst v Γ/\Hs H'/\True):=by
   intro Γ H bj hH
   first
    |(subst hH
      first
       |exact Dh (bj _ Zd _ rfl) rfl Fh
       |exact nz (bj _ Zd _ rfl) Fh
       |exact ny (bj _ Zd _ rfl) rfl Fh
       |exact z8 (bj _ Zd _ rfl) Zh Fh
       |exact Yc (bj _ Zd _ rfl) (VO.nil ⟨rfl,rfl,trivial⟩)
       |exact iH (bj _ Zd _ rfl) rfl Fh
       |exact iI (bj _ Zd _ rfl) (bj _ Zd _ rfl) Fh
       |exact rq (bj _ Zd _ rfl) (ny (bj _ Zd _ rfl) rfl Fh)
       |exact rq (bj _ Zd _ rfl) (z8 (bj _ Zd _ rfl) Zh Fh))
    |(obtain⟨mz,hz⟩:=hH
      refine VO.imp hz ?_
      first
       |exact nz (bj _ Zd _ rfl) Zae
       |exact ny (bj _ Zd _ rfl) rfl Zae
       |exact ny (bj _ Zd _ rfl) Zo (VO.nil ⟨rfl,⟨mz,ao.refl _⟩,trivial⟩)
       |exact z8 (bj _ Zd _ rfl) (by first|(exact Zh)|(exact Zm)) Zae
       |exact kS (bj _ Zd _ rfl) Dt fT Zae
       |exact ru (bj _ Zd _ rfl) rfl Zo Zz (VO.nil ⟨rfl,⟨mz,ao.refl _⟩,trivial⟩)
       |exact nA (bj _ Zd _ rfl) rfl (l:=1) rfl Zo (VO.nil ⟨rfl,⟨mz,ao.refl _⟩,trivial⟩))):xg P n PZ Hs (r::rs) Δ Φ:=⟨ok,v,True,h1,h2⟩
theorem Jn {P:Program}{n:Nat}{x:RO×Oper}(hl:dP P n ops x.2=some x.1)(aP:okR x.1=true):∀t∈yg x.1,t∈looks x:=by
 intro t ht;simp only[yg,looks,QF]at ht|-;rcases ht with ht|ht
 ·exact .inl ht
 right;by_cases hq:(kd x.1.op||jG x.1.op)=true
 ·rw[if_pos hq];have:θ x.1.op=lB x.1.op:=by
   cases Mb:x.1.op <;> first|rfl|(rw[Mb]at hq;cases hq)
  rwa [this]at ht
 ·rw[if_neg hq];simp only[okR,hq,vM]at aP;cases Mb:x.1.op with
  |call f xs=>
   have g1:=(jI hl).1;rw[Mb]at g1;obtain⟨c,h1,h2,h3,h4⟩:=qG g1;rw[Mb]at ht;simp only[θ]at ht;rw[h1];simp only[Op.operands,Call.operands,Array.toList_append,h3,cX,List.filterMap_append,QF];exact .inr ht
  |_=>rw[Mb]at aP;cases aP
theorem IF {X:Nat->RO×Oper}{val val':Nat->Value}:∀{p:List Nat} {Γ:Env},(∀j∈p,val j=val' j)->il X val p Γ=il X val' p Γ:=by
 intro p
 induction p with
 |nil=>intro Γ _;rfl
 |cons j p ih=>intro Γ h;simp only[il];rw[h j Zs];exact ih fun k hk=>h k (by simp[hk])
theorem Hz {P:Program}{n:Nat}{X:Nat->RO×Oper}{PZ:List PanicEntry->SH->Prop}{Hs:SH->Prop}:∀(o:List Nat) (Γ:Env) (Φ:Prop),o.Nodup->(∀i∈o,okR (X i).1=true->∀t∈yg (X i).1,t∈looks (X i))->xg P n PZ Hs (o.map fun i=>(X i).1) Γ Φ->
 ∃(val:Nat->Value) (φ:Nat->Prop),(∀p i q,o=p++i::q->Yu P n X PZ Hs val φ i (il X val p Γ))/\¬(Φ/\∀i∈o,φ i):=by
 intro o
 induction o with
 |nil=>intro Γ Φ _ _ h;exact⟨fun _=>undef,fun _=>True,fun p i q e=>by simp at e,fun hh=>h hh.1⟩
 |cons i o ih=>
  intro Γ Φ hn iZ h;obtain⟨aP,v,φ0,h1,h2⟩:=h;have EZ:=QU.1 hn;obtain⟨val,φ,g1,g2⟩:=ih _ _ EZ.2 (fun j hj=>iZ j (by simp[hj])) h2;refine⟨fun j=>if j=i then v else val j,fun j=>if j=i then φ0 else φ j,fun p j q e=>?_,fun hh=>g2 ⟨⟨hh.1,?_⟩,fun j hj=>?_⟩⟩
  ·cases p with
   |nil=>
    simp only[QS,vq]at e;obtain⟨rfl,rfl⟩:=e;intro ay H hl hH;have:=h1 ay H (fun t ht=>hl t (iZ i Zs aP t ht)) hH;simpa using this
   |cons k p=>
    simp only[vr,vq]at e;obtain⟨rfl,e⟩:=e;have hj:j∈o:=by rw[e];simp
    have ND:j≠i:=fun e2=>EZ.1 (e2 ▸ hj)
    have st:=g1 p j q e;have hc:il X (fun j=>if j=i then v else val j) p (ap (X i).1.dst v Γ)=il X val p (ap (X i).1.dst v Γ):=IF fun k hk=>by
     have tx:k∈o:=by rw[e];simp[hk]
     have hki:k≠i:=fun e2=>EZ.1 (e2 ▸ tx)
     simp[hki]
    intro ay H hl hH;simp only[il,if_pos]at hl;rw[hc]at hl;have:=st ay H hl hH;simpa[ND]using this
  ·have:=hh.2 i Zs;simpa using this
  ·have h3:=hh.2 j (by simp[hj]);have ND:j≠i:=fun e2=>EZ.1 (e2 ▸ hj)
   simpa[ND]using h3
end
theorem VC.xC {P:Program}{n:Nat}{Γ:Env}{H:SH}{Q:Exit->Env->SH->Prop}{rL:List (List RO)}{aV:List Nat}(PZ:List PanicEntry->SH->Prop)(Hs:SH->Prop)(h0:Hs H)
 (h:∀rs∈rL,xg P n PZ Hs rs Γ True) (hz:∀ch H',PZ ch H'->Q (.panic ch) [] H'):VC P n (.draw rL aV) Γ H Q:=by
 intro ρ kp od code hl a w F QQ hr ha hs hh;obtain⟨id,ops,rs,rfl,h1,hm,hc,rfl,rfl⟩:=jd hl;have hlen:=(jv h1).1;refine wpIn_region_draw (fun t=>?_);have o6:Region.schedule (P.follows .mixedOrders) ops t=jf ops ops.size t (Array.replicate ops.size false):=by simp[Region.schedule,hm,Region.linearise,jf]
 rw[o6];obtain⟨both,IU⟩:∃both,fk both (rs.zip ops.toList) ops (od id)=true:=by
  unfold oT at hc;rcases vS.1 hc with hc|hc
  ·exact⟨_,hc⟩
  ·exact⟨_,hc⟩
 obtain⟨o,NH,hp,hn,aS,DP⟩:=χ IU t;have hX:∀i,i < ops.size->ops[i]? =some ((rs.zip ops.toList).getD i default).2/\((rs.zip ops.toList).getD i default).1=rs.getD i default/\dP P n ops ((rs.zip ops.toList).getD i default).2=some ((rs.zip ops.toList).getD i default).1:=fun i hi=>z7 h1 hi
 have ur:∀i∈jf ops ops.size t (Array.replicate ops.size false),i < ops.size:=fun i hi=>aS i (hp.mem_iff.2 hi)
 refine eY (P:=P) (ρ:=ρ) (n:=n) (ops:=ops) (X:=fun i=>(rs.zip ops.toList).getD i default) (QQ:=QQ) (fun i hi=>⟨(hX i hi).1,(hX i hi).2.2⟩) _ a _ ur ?_;have l7:=h (o.map fun i=>rs.getD i default) (QM.2 ⟨o,NH,rfl⟩);have DL:(o.map fun i=>rs.getD i default)=o.map fun i=>((rs.zip ops.toList).getD i default).1:=QB fun i hi=>(hX i (aS i hi)).2.1.symm
 rw[DL]at l7;obtain⟨val,φ,g1,g2⟩:=Hz (X:=fun i=>(rs.zip ops.toList).getD i default) o Γ True (hp.nodup_iff.2 hn) (fun i hi aP=>Jn (hX i (aS i hi)).2.2 aP) l7;refine XT (X:=fun i=>(rs.zip ops.toList).getD i default) (l:=jf ops ops.size t (Array.replicate ops.size false)) (val:=val) (φ:=φ) (Nr:=Γ) (a0:=a) (w0:={w with drawn:=w.drawn+1}) (F:=F) hp hn DP (fun i hi=>⟨rfl,fun x hx=>by rw[QR.1 hx];exact⟨ops,(hX i (ur i hi)).2.2⟩⟩) g1 ?_ ?_ _ [] rfl a _ H ha rfl (hs.drawn _) (.refl _) h0 (fun i hi=>by cases hi)
 ·intro a' w' H' _ _ _ _ _ au;exact absurd ⟨trivial,fun i hi=>au i (hp.mem_iff.1 hi)⟩ g2
 ·intro ch a' w' H' k1 k2 k3 k4 k5;exact hh (.panic ch) a' w' [] H' [] (hz ch H' k5) ⟨k1,fun t v e=>by cases e⟩ k2 k3.cf (((kg.refl w).drawn _).trans k4)
end Go.V
namespace Go.Proofs.YtijnokbblmbpkaaGreatDoor
open Go Go.V
set_option maxHeartbeats 3200000
set_option maxRecDepth 100000
theorem xG(A:List kC)(x:Nd)(vs:List Value)(h:jJ A x vs)(hn:zZ A x vs)(aE:ByteArray)(bY:aE.size<=140737488355328)(lb:Nat)(m0 deep:Bool):AM 203 [kF lb,.agg vs.toArray,.string aE] A lb m0 deep (zV x aE (kN x)):=by
 have hv:=zz A x vs h hn (fH aE) lb m0 deep;have aC:=hn.1 lb m0 deep;obtain⟨c2,c3,c4,c5,c6,c7,c8,c9,rH,rfl,eC,hk⟩:=qM h;have xZ:jR x=zI x.kind x.name:=rfl;have hss:=Au x.kind x.name c2 c3 c4 c5 c6 c7 c8 c9 rH;refine ji.intro low203 (by simp[n203]) ?_;unfold zV;rw[xZ];refine ae ?_;refine kX Zr (fun q=>?_);simp only[Value.cells];refine ae ?_;refine kK hss Zr ?_;cases hs:zI x.kind x.name with
 |true=>
  rw[if_pos rfl];refine ae ?_;refine kL aC Zr ZP (fun v Post hv=>?_) (fun ch Post hz=>?_);rotate_left
  ·obtain⟨hb,rfl,m2,rfl⟩:=hz;exact⟨[A,aZ lb m2 deep],ZI,hb,rfl,m2,rfl⟩
  exact zD4
 |false=>
  rw[if_neg Zs];refine ae ?_;generalize ja x (fH aE) (kN x)=r at hv|-;cases r with
  |some dm=>
   obtain⟨d,m2⟩:=dm;have hvf:ji Tryz.prog 170 [kF lb,.agg #[cv x.kind,.string x.name,c2,c3,c4,c5,c6,c7,c8,c9,rH],vi (fH aE)] [A,aZ lb m0 deep] (fun v Post=>v=vi d/\Post=[A,aZ lb (m0||m2) deep]) (fun _ _=>False):=
    ji.mono hv (fun v Post ⟨d',m',e,h1,h2⟩=>by cases e;exact⟨h1,h2⟩) (fun ch Post hz=>by cases hz.1)
   refine VC.seq (VC.draws ⟨?_,?_,trivial⟩)
   ·exact zBW
   ·exact zBW
  |none=>
   have hvz:ji Tryz.prog 170 [kF lb,.agg #[cv x.kind,.string x.name,c2,c3,c4,c5,c6,c7,c8,c9,rH],vi (fH aE)] [A,aZ lb m0 deep] (fun v Post=>False) (fun ch Post=>ch=wZ/\∃m,Post=[A,aZ lb m deep]):=
    ji.mono hv (fun v Post ⟨d',m',e,_⟩=>by cases e) (fun ch Post hz=>hz.2)
   refine VC.seq (VC.xC (fun ch H'=>ch=wZ/\∃m,ao H' [A,aZ lb m deep]) (fun H'=>H'=[kA q 0 [cv x.kind,.string x.name,c2,c3,c4,c5,c6,c7,c8,c9,rH],A,aZ lb m0 deep]) rfl ?_ (fun ch H' hp=>?_))
   ·intro rs dK;rcases QH.1 dK with rfl|dK
    ·skip
     refine kI ?_;refine⟨rfl,.agg #[cv x.kind,.string x.name,c2,c3,c4,c5,c6,c7,c8,c9,rH],True,fun Γ H bj hH=>?_,?_⟩
     ·subst hH;exact yH (bj 4 Zd _ rfl) UB Fh
     refine kI ?_;refine⟨rfl,vi (fH aE),True,fun Γ H bj hH=>?_,?_⟩
     ·subst hH;exact kK (hO aE bY) (by simp only[V.nI,V.ev,bj 14 Zd _ rfl]) Fh
     exact zBP
    rcases QH.1 dK with rfl|dK
    ·skip
     refine kI ?_;refine kI ?_;refine⟨rfl,vi (fH aE),True,fun Γ H bj hH=>?_,?_⟩
     ·subst hH;exact kK (hO aE bY) (by simp only[V.nI,V.ev,bj 14 Zd _ rfl]) Fh
     refine⟨rfl,.agg #[cv x.kind,.string x.name,c2,c3,c4,c5,c6,c7,c8,c9,rH],True,fun Γ H bj hH=>?_,?_⟩
     ·subst hH;exact yH (bj 4 Zd _ rfl) UB Fh
     exact zBP
    ·cases dK
   ·obtain⟨rfl,m,hi⟩:=hp;exact⟨_,hi,rfl,rfl,m,rfl⟩
end Go.Proofs.YtijnokbblmbpkaaGreatDoor
namespace Go.V
open Go
section
variable {P:Program} {n:Nat} {rs:List RO} {Γ:Env} {H:SH} {Z:List PanicEntry->Env->SH->Prop} {K:Env->SH->Prop} {d:Option Nat}
theorem EI {x y:Operand}{a b:Nat}(hx:ev Γ x=some (vi a))(hy:ev Γ y=some (vi b))(h:VO P n rs (ap d (vi (max a b:Nat)) Γ) H Z K):
 VO P n (⟨d,none,.max2 x y⟩::rs) Γ H Z K:=by
 refine VO.pure rfl (v:=vi (max a b:Nat)) (fun ρ aO=>?_) h;have e:(if(b:Int) > (a:Int)then(b:Int)else(a:Int))=((max a b:Nat):Int):=by split <;> omega
 simp only[kW,aO _ _ hx,aO _ _ hy,vi,e]
theorem st_eqI {x y:Operand}{k:IntKind}{a b:Int}{t:Bool}(hx:ev Γ x=some (.int k a))(hy:ev Γ y=some (.int k b))(ht:decide (a=b)=t)(h:VO P n rs (ap d (.bool t) Γ) H Z K):
 VO P n (⟨d,none,.bin .eql x y⟩::rs) Γ H Z K:=
 VO.pure rfl (v:=.bool t) (fun ρ aO=>by subst ht;simp[kW,aO _ _ hx,aO _ _ hy,zt,mX]) h
theorem S0 {x y:Operand}{k:IntKind}{a b:Int}{t:Bool}(hx:ev Γ x=some (.int k a))(hy:ev Γ y=some (.int k b))(ht:decide (a<=b)=t)(h:VO P n rs (ap d (.bool t) Γ) H Z K):
 VO P n (⟨d,none,.bin .leq x y⟩::rs) Γ H Z K:=
 VO.pure rfl (v:=.bool t) (fun ρ aO=>by subst ht;simp[kW,aO _ _ hx,aO _ _ hy,zt,mX]) h
theorem Yc {x:Operand}{a:Option Addr}{m c:Nat}(hx:ev Γ x=some (.slice a m c))(h:VO P n rs (ap d (vi m) Γ) H Z K):
 VO P n (⟨d,none,.Jj x⟩::rs) Γ H Z K:=
 VO.pure rfl (v:=vi m) (fun ρ aO=>by simp[kW,aO _ _ hx,vi]) h
end
end Go.V
namespace Go.Proofs.YtijnokbblmbpkaaGreatDoor
open Go Go.V
set_option maxHeartbeats 3200000
set_option maxRecDepth 100000
theorem dQ {A:List kC}{y:Nd}{vs:List Value}(h:jJ A y vs):∃(e1:Nat) (e2:Int) (e3:Nat) (e4:ByteArray) (e5:Option Addr) (e6 e7:Nat) (e8:Option Addr) (e9 uf:Nat) (ug:Option Addr) (uh ui:Nat) (H0:Option Addr) (H4 H5:Nat) (T5:Int),
 vs=(rA y.kind y.name e1 e2 e3 e4 e5 e6 e7 e8 e9 uf ug uh ui H0 H4 H5 T5)/\y.name.size<=140737488355328/\y.kind < 256:=by
 cases h with
 |mk wf hl bJ bF ha hm hr=>
  obtain⟨_,_,rfl,_⟩:=bJ;obtain⟨_,_,rfl,_⟩:=bF;cases hl with
  |mk Tt IS p8 du=>exact⟨_,_,_,_,_,_,_,_,_,_,_,_,_,_,_,_,_,rfl,wf.name,wf.kind⟩
structure yD (A:List kC)(l:List Nd)(a:Option Addr)(bk o:Nat)(us:Nat->List Value):Prop where
 at_:0 < l.length->a=some ⟨bk,o,none⟩
 many:l.length<=140737488355328
 mem:∀i,i < l.length->∀y∈kA bk (o+i*11) (us i),y∈A
 rd:∀i x,l[i]? =some x->jJ A x (us i)
 ok:∀i x,l[i]? =some x->zZ A x (us i)
theorem mi(A:List kC)(l:List Nd)(a:Option Addr)(c bk o:Nat)(us:Nat->List Value)(hk:yD A l a bk o us)(aE:ByteArray)(bY:aE.size<=140737488355328)(lb:Nat)(m0 deep:Bool):
 AM 204 [kF lb,.string aE,.slice a l.length c] A lb m0 deep (ik aE l (l.map kN)):=by
 refine ji.intro low204 (by simp[n204]) ?_;unfold Go.V.ik;rw[dY];obtain⟨RR,bW⟩:∃RR,RR=kQ (decide (kR aE=l.length)) (wo (decide (15 < kR aE)) (jc (l.map fun x=>ja x (lY aE) (kN x)))):=⟨_,rfl⟩;rw[<- bW];have bz:=hk.many;refine ae ?_;refine kK (fh aE bY) Zr ?_;refine ae ?_;by_cases ec:kR aE=(l.length:Int);rotate_left
 ·have aH:RR=none:=by simp[bW,kQ,ec]
  rw[Zf ec];exact Bz
 have AJ:RR=wo (decide (15 < kR aE)) (jc (l.map fun x=>ja x (lY aE) (kN x))):=by simp[bW,kQ,ec]
 rw[Zt ec];refine ae ?_;refine kL (jC true) Zr ZP (fun v Post hv=>?_) HZ;obtain⟨_,rfl,rfl⟩:=hv;simp only[QS];refine ae ?_;obtain⟨WX,Wn⟩:∃WX,WX=m0:=⟨_,rfl⟩;cases m0 with
 |true=>
  obtain⟨mB,KE⟩:∃b,b=(true||decide (15 < kR aE)):=⟨_,rfl⟩;have Gp:mB=true:=by rw[KE,Bool.true_or]
  exact zA2
 |false=>
  obtain⟨mB,KE⟩:∃b,b=(false||decide (15 < kR aE)):=⟨_,rfl⟩;have Gp:mB=decide (kR aE > 15):=by rw[KE,vM]
  exact zA2
theorem lX(A:List kC)(l:List Nd)(a:Option Addr)(c bk o:Nat)(us:Nat->List Value)(hk:yD A l a bk o us)(lb:Nat)(m0 deep:Bool):
 AM 107 [kF lb,.slice a l.length c] A lb m0 deep (jc (wp l (l.map kN))):=by
 refine ji.intro low107 (by simp[n107]) ?_;have bz:=hk.many;refine ae ?_;refine VC.loop (α:=Nat×Nat×Bool) (bi:=fun s=>[(0,kF lb),(1,.slice a l.length c),(5,vi s.2.1),(8,.slice a l.length c),(9,vi l.length),(10,vi s.1)]) (Hf:=fun s=>[A,aZ lb (m0||s.2.2) deep])
  (I:=fun s=>s.1<=l.length/\jc ((wp l (l.map kN)).take s.1)=some (s.2.1,s.2.2)) (μ:=fun s=>l.length - s.1) (0,0,false) ⟨Qv _,rfl⟩ ZU (by show ao _ [A,aZ lb (m0||false) deep];rw[vT];exact bS) ?_
 rintro⟨j,d,mm⟩ ⟨i1,i2⟩
 simp only at i1 i2;dsimp only;refine ae ?_;by_cases hj:j < l.length;rotate_left
 ·rw[show decide ((j:Int) < (l.length:Int))=false from Zf Zo];rw[Qg (by rw[pF];omega)]at i2;refine ae ?_;refine jL (kG (Post:=[A,aZ lb (m0||mm) deep]) (.inr rfl) (.tmp Zr .nil) ⟨d,mm,i2,rfl,rfl⟩ ZI)
 obtain rfl:=hk.at_ Zo;rw[show decide ((j:Int) < (l.length:Int))=true from Zt Zo];obtain⟨y,hy⟩:∃y,l[j]? =some y:=⟨_,Zg hj⟩;have bK:=hk.rd j y hy;have cQ:=hk.mem j hj;have aB:=pE l j y hy;have aP:=hk.ok j y hy;generalize us j=uj at bK cQ aP;obtain⟨e1,e2,e3,e4,e5,e6,e7,e8,e9,uf,ug,uh,ui,H0,H4,H5,T5,rfl,eC,ir⟩:=dQ bK;refine ae ?_;refine kS Zr Dt rfl ?_;refine ae ?_;refine kO (fun q=>?_);refine ae ?_;by_cases h9:y.kind=9
 ·rw[show decide ((y.kind:Int)=9)=true from Zt Zo];refine ae ?_;by_cases hl:j+1=l.length
  ·rw[show decide ((j:Int)=(l.length:Int) - 1)=true from Zt Zo];rw[if_pos ⟨h9,hl⟩]at aB;have hv:=aP.1 lb (m0||mm) deep;exact zAH
  ·rw[show decide ((j:Int)=(l.length:Int) - 1)=false from Zf Zo];rw[if_neg (fun h=>hl h.2)]at aB;have hv:=zz A y _ bK aP 1 lb (m0||mm) deep;exact zAH
 ·rw[show decide ((y.kind:Int)=9)=false from Zf Zo];rw[if_neg (fun h=>h9 h.1)]at aB;have hv:=zz A y _ bK aP 1 lb (m0||mm) deep;exact zAH
end Go.Proofs.YtijnokbblmbpkaaGreatDoor
namespace Go.V
open Go
theorem jF {R G:Prop}(r:R)(h:N2 R->G:=by
 intro later
 (repeat (first
   |(first
   |(apply rq;rfl)
   |(apply EN;rfl;rfl;omega;omega;exact Zi;exact Zi;(first|assumption|((try simp only[Nat.reducePow]);rfl));rfl)
   |(apply EM;rfl;rfl;omega;omega;exact Zi;exact Zi;(first|assumption|((try simp only[Nat.reducePow]);rfl));rfl)
   |(apply EH;rfl;rfl;exact Zl;exact Zl;exact Zi;exact Zi;(first|exact UD _|exact UE _|exact Kd _|rfl))
   |(apply K3;rfl;rfl;exact Zl;exact Zl;exact Zi;exact Zi;rfl)
   |(apply uQ;rfl;rfl;exact Zl;exact Zl;exact Zi;exact Zi)
   |(apply uV;rfl;rfl;omega;omega;exact Zi;exact Zi)
   |(apply uP;rfl;rfl;omega;omega;omega;exact Zi;exact Zi)
   |(apply rl;rfl;(first|exact HV Zo|exact fP Zo|exact nD Zo))
   |(apply uT;rfl;rfl;omega;omega;exact Zi;exact Zi)
   |(apply uU;rfl;rfl;omega;omega;exact Zi;exact Zi)
   |(apply Dh;rfl;rfl)
   |(apply Hx;rfl)
   |(apply nz;rfl)
   |(apply EK;rfl)
   |(apply iI;rfl;rfl)
   |(apply iH;rfl;rfl)
   |(apply ny;rfl;exact Zz)
   |(apply z8;rfl;exact Zh)
   |(apply z8;rfl;exact Zm)
   |(apply yH;rfl;exact UB)
   |(apply uR;rfl;rfl)
   |(apply sX;rfl;rfl)
   |(apply EF;rfl;rfl;omega)
   |(apply EO;rfl;rfl;omega)
   |(apply EJ;rfl;rfl;omega)
   |(apply EL;rfl;rfl;decide)
   |(apply ru;rfl;rfl;omega;exact Zz)
   |(apply uS;rfl;rfl;omega;exact Zz)
   |(apply rk;rfl;(focus (simp only[Ur,Value.cells,Qu,Nat.reduceEqDiff,↓reduceIte,eq_self,Nat.reduceAdd,Nat.reduceSub,Qt,Nat.reduceLeDiff,Qn,and_self,rep,kw] <;> rfl)))
   |(apply eV;rfl;rfl;(focus (simp only[Ur,Value.cells,Qu,Nat.reduceEqDiff,↓reduceIte,eq_self,Nat.reduceAdd,Nat.reduceSub,Qt,Nat.reduceLeDiff,Qn,and_self,rep,kw] <;> rfl));rfl;rfl;exact Zac)
   |(apply nY;rfl;rfl;rfl))
    |(refine VO.nil ?_;simp only[V.aM,V.aR,V.look,V.ap,V.bC,V.bx,Qu,Nat.reduceAdd,Nat.reduceEqDiff,↓reduceIte,eq_self])
    |refine VC.uO ?_
    |refine VC.nX ?_
    |refine VC.nW ?_
    |refine VC.rh ?_
    |refine VC.lU ?_
    |refine VC.Cg ?_
    |refine VC.block ?_
    |(refine VC.skip ?_;try simp only[V.aM,V.aR,V.look,V.ap,V.bC,V.bx,Qu,Nat.reduceAdd,Nat.reduceEqDiff,↓reduceIte,eq_self])
    |(refine VC.exit ?_;try simp only[V.aM,V.aR,V.look,V.ap,V.bC,V.bx,Qu,Nat.reduceAdd,Nat.reduceEqDiff,↓reduceIte,eq_self])
    |(refine VC.ret ?_;try simp only[V.bC,V.bx])
    |(apply VC.lE;rfl)
    |(apply VC.lD;rfl)
    |(apply VC.rZ;rfl)
    |(apply VC.rY;rfl)))
 exact later.out):G:=h ⟨r⟩
end Go.V
namespace Go.Proofs.YtijnokbblmbpkaaGreatDoor
open Go Go.V
set_option maxHeartbeats 3200000
set_option maxRecDepth 100000
theorem R1 {A:List kC}{y:Nd}{vs:List Value}(h:jJ A y vs):∃(e1:Nat) (e2:Int) (e3:Nat) (e4:ByteArray) (e5:Option Addr) (e6 e7:Nat) (e8:Option Addr) (e9 uf:Nat) (ug:Option Addr) (uh ui:Nat) (H0:Option Addr) (H4 H5:Nat),
 vs=(rA y.kind y.name e1 e2 e3 e4 e5 e6 e7 e8 e9 uf ug uh ui H0 H4 H5 y.at_):=by
 exact zCM
structure zL where
 d:Nat
 mm:Bool
 name:ByteArray
 lk:Nat
 ln:Int
 lb:Nat
 lt:ByteArray
 la:Option Addr
 li:Nat
 lc:Nat
 aa:Option Addr
 an:Nat
 ac:Nat
 ta:Option Addr
 tn:Nat
 tc:Nat
def zL.ok(s:zL):Prop:=s.name.size=0/\s.an=0/\s.tn=0/\s.lk=0/\s.ln=0/\s.lb=0/\s.lt.size=0/\s.li=0
instance nodeSDec (s:zL):Decidable s.ok:=by unfold zL.ok;infer_instance
abbrev zL.cells (s:zL)(k:Nat)(p:Int):List Value:=(rA k s.name s.lk s.ln s.lb s.lt s.la s.li s.lc s.aa s.an s.ac s.ta s.tn s.tc none 0 0 p)
noncomputable def nodeSw:IC:=match NY.body with
 |.seq _ (.seq _ (.seq _ (.seq _ (.seq x _))))=>x
 |_=>.skip
def eZ(A:List kC)(x:Nd)(vs:List Value):Prop:=∀(lb q r:Nat) (m0 deep:Bool),
 VC Tryz.prog NY.n nodeSw [(0,kF lb),(3,kF q),(5,kF r),(6,vi 0)] [kA r 0 (vs.set 9 Nz),kA q 0 vs,A,aZ lb m0 deep]
  (bC (fun ay H'=>∃s:zL,(kN x=if s.ok then some (s.d,s.mm)else none)/\V.Sub ay [(5,kF r),(6,vi s.d)]/\ao H' [A,aZ lb (m0||s.mm) deep,kA r 0 (s.cells x.kind x.at_)])
    (US NY.bI (LkQ A lb m0 deep (kN x)) (LkZ A lb deep (kN x))))
theorem Xr(A:List kC)(x:Nd)(vs:List Value)(h:jJ A x vs)(hs:eZ A x vs)(lb:Nat)(m0 deep:Bool):AM 169 [kF lb,.agg vs.toArray] A lb m0 deep (kN x):=by
 have hsw:=hs lb;obtain⟨e1,e2,e3,e4,e5,e6,e7,e8,e9,uf,ug,uh,ui,H0,H4,H5,rfl⟩:=R1 h;refine ji.intro low169 (by simp[n169]) ?_;refine jF ?_;refine kX Zr (fun q=>?_);simp only[Value.cells];refine jF ?_;refine kO (fun r=>?_);refine jF ?_;refine VC.join (α:=zL) (fun s=>[(5,kF r),(6,vi s.d)]) (fun s=>[A,aZ lb (m0||s.mm) deep,kA r 0 (s.cells x.kind x.at_)])
  (fun s=>kN x=if s.ok then some (s.d,s.mm)else none) ?_ ?_
 ·exact hsw q r m0 deep
 ·rintro⟨d,mm,name,lk,ln,bp,lt,la,li,lc,aa,an,ac,ta,tn,tc⟩ hR
  simp only at hR;rw[hR];unfold zL.ok;simp only;refine jF ?_;refine kO (fun q2=>?_);refine jF ?_;by_cases h1:name=⟨#[]⟩;rotate_left
  ·have dt:¬(name.size=0/\an=0/\tn=0/\lk=0/\ln=0/\bp=0/\lt.size=0/\li=0):=fun h=>h1 (ByteArray.ext (v6 h.1))
   rw[Zf h1];exact NS
  rw[Zt h1];refine jF ?_;by_cases h2:an=0;rotate_left
  ·have dt:¬(name.size=0/\an=0/\tn=0/\lk=0/\ln=0/\bp=0/\lt.size=0/\li=0):=fun h=>h2 h.2.1
   rw[show decide ((an:Int)=0)=false from Zf Zo];exact NS
  rw[show decide ((an:Int)=0)=true from Zt Zo];refine jF ?_;by_cases h3:tn=0;rotate_left
  ·have dt:¬(name.size=0/\an=0/\tn=0/\lk=0/\ln=0/\bp=0/\lt.size=0/\li=0):=fun h=>h3 h.2.2.1
   rw[show decide ((tn:Int)=0)=false from Zf Zo];exact NS
  rw[show decide ((tn:Int)=0)=true from Zt Zo];refine jF ?_;by_cases h4:lk=0;rotate_left
  ·have dt:¬(name.size=0/\an=0/\tn=0/\lk=0/\ln=0/\bp=0/\lt.size=0/\li=0):=fun h=>h4 h.2.2.2.1
   rw[show decide ((lk:Int)=0)=false from Zf Zo];exact NS
  rw[show decide ((lk:Int)=0)=true from Zt Zo];refine jF ?_;by_cases h5:ln=0;rotate_left
  ·have dt:¬(name.size=0/\an=0/\tn=0/\lk=0/\ln=0/\bp=0/\lt.size=0/\li=0):=fun h=>h5 h.2.2.2.2.1
   rw[Zf h5];exact NS
  rw[Zt h5];refine jF ?_;by_cases h6:bp=0;rotate_left
  ·have dt:¬(name.size=0/\an=0/\tn=0/\lk=0/\ln=0/\bp=0/\lt.size=0/\li=0):=fun h=>h6 h.2.2.2.2.2.1
   rw[show decide ((bp:Int)=0)=false from Zf Zo];exact NS
  rw[show decide ((bp:Int)=0)=true from Zt Zo];refine jF ?_;by_cases h7:lt=⟨#[]⟩;rotate_left
  ·have dt:¬(name.size=0/\an=0/\tn=0/\lk=0/\ln=0/\bp=0/\lt.size=0/\li=0):=fun h=>h7 (ByteArray.ext (v6 h.2.2.2.2.2.2.1))
   rw[Zf h7];exact NS
  rw[Zt h7];refine jF ?_;by_cases h8:li=0;rotate_left
  ·have dt:¬(name.size=0/\an=0/\tn=0/\lk=0/\ln=0/\bp=0/\lt.size=0/\li=0):=fun h=>h8 h.2.2.2.2.2.2.2
   rw[show decide ((li:Int)=0)=false from Zf Zo];exact NS
  rw[show decide ((li:Int)=0)=true from Zt Zo];refine jF ?_;refine kL (jC true) Zr ZP (fun v Post hv=>?_) HZ;obtain⟨_,rfl,rfl⟩:=hv;simp only[QS];refine jF ?_;exact jL (kG (Post:=[A,aZ lb (m0||mm) deep]) (.inr rfl) (.tmp Zr .nil) ⟨d,mm,if_pos ⟨by rw[h1];rfl,h2,h3,h4,h5,h6,by rw[h7];rfl,h8⟩,rfl,rfl⟩ ZI)
end Go.Proofs.YtijnokbblmbpkaaGreatDoor
