/-
  A datum that was read from old blocks is read again behind a call that leaves them.
-/
import Derived.Test.YtijnokbblmbpkaaGreatDoorN10
import Derived.ChangeSame
import Derived.ChangeSlices
import Derived.RowKit
import Derived.Test.YtijnokbblmbpkaaGreatDoorN6
import Derived.Deep.Slices
import Derived.Deep.Fields
import Derived.Test.YtijnokbblmbpkaaGreatDoorN7
import Derived.Test.YtijnokbblmbpkaaGreatDoorN9
set_option linter.all false
namespace Go.V
open Go
theorem mapM_mono {α β:Type}{f g:α->Option β}:∀{l:List α} {r:List β},(∀x∈l,∀y,f x=some y->g x=some y)->l.mapM f=some r->l.mapM g=some r:=by
 intro l
 induction l with
 |nil=>intro r _ h;simpa using h
 |cons a l ih=>
  intro r hfg h;simp only[List.mapM_cons,Option.bind_eq_bind,Option.pure_def,Qu]at h|-;obtain⟨y,h1,ys,h2,h3⟩:=h;exact⟨y,hfg a Zs y h1,ys,ih (fun x hx=>hfg x (by simp[hx])) h2,h3⟩
theorem sE {w w':World}(hold:∀i,i < w.heap.size->w'.heap[i]? =w.heap[i]?){base n:Nat}{a:Addr}{cs:List Value}(h:w.cells? base a n=some cs):w'.cells? base a n=some cs:=by
 unfold World.cells? at h|-;split at h
 ·rename_i hb;rw[if_pos hb];refine mapM_mono (fun i _ v hv=>?_) h;have aI:=World.block_lt_of_cell? w _ hv;unfold World.cell? at hv|-;rw[hold _ aI];exact hv
 ·cases h
section
variable {H:Type} {enc:TypeId×Value->H} {P:Program} {w w':World} {base:Nat} {sp:Nat->Bool} {held:Bool}
structure rj (P:Program)(ok:TypeId->Prop):Prop where
 ptr:∀t e,ok t->P.underlying t=some (.pointer e)->ok e
 slice:∀t e,ok t->P.underlying t=some (.slice e)->ok e/\0 < P.cellsOf e
 struct:∀t fs,ok t->P.underlying t=some (.struct fs)->∀f∈fs.toList,ok f.type
 array:∀t n e,ok t->P.underlying t=some (.array n e)->ok e
 map:∀t k e,ok t->P.underlying t=some (.map k e)->ok e
def Ju(P:Program)(S:List TypeId):Bool:=S.all fun t=>match P.underlying t with
 |some (.pointer e)=>S.contains e
 |some (.slice e)=>S.contains e&&decide (0 < P.cellsOf e)
 |some (.struct fs)=>fs.toList.all fun f=>S.contains f.type
 |some (.array _ e)=>S.contains e
 |some (.map _ e)=>S.contains e
 |_=>true
theorem KL {S:List TypeId}(h:Ju P S=true):rj P (·∈S):=by
 have h':=vX.1 h;refine⟨fun t e ht hu=>?_,fun t e ht hu=>?_,fun t fs ht hu f hf=>?_,fun t n e ht hu=>?_,fun t k e ht hu=>?_⟩
 all_goals have:=h' t ht
 all_goals rw[hu]at this
 all_goals simp only[vg,vF,decide_eq_true_eq,vX]at this
 ·exact this
 ·exact this
 ·exact this f hf
 ·exact this
 ·exact this
theorem Aw {ok:TypeId->Prop}(pB:rj P ok)(hold:∀i,i < w.heap.size->w'.heap[i]? =w.heap[i]?)(EO:∀b,b < w.heap.size->sp b=true)
 {r r':TypeId->List Value->Option (DataW H×List MemPlace)} (hr:∀t cs x,ok t->r t cs=some x->r' t cs=some x) {t:TypeId} {cs:List Value} {x:DataW H×List MemPlace} (ht:ok t)
 (h:DataW.trodStep enc P w base (fun _=>true) true r t cs=some x):DataW.trodStep enc P w' base sp true r' t cs=some x:=by
 unfold DataW.trodStep at h;split at h
 case h_1 hu=>unfold DataW.trodStep;simp only[hu];exact h
 case h_2 hu=>unfold DataW.trodStep;simp only[hu];exact h
 case h_3 hu=>unfold DataW.trodStep;simp only[hu];exact h
 case h_4 hu=>unfold DataW.trodStep;simp only[hu];exact h
 case h_5 hu=>unfold DataW.trodStep;simp only[hu];exact h
 case h_6 e a hu=>
  unfold DataW.trodStep;simp only[hu];simp only[Qx,Qu]at h|-;obtain⟨y,⟨XY,hc,hy⟩,hx⟩:=h;exact⟨y,⟨XY,sE hold hc,hr _ _ _ (pB.ptr t e ht hu) hy⟩,hx⟩
 case h_7 hu=>unfold DataW.trodStep;simp only[hu];exact h
 case h_8 e a len cap hu=>
  unfold DataW.trodStep;simp only[hu];obtain⟨hoe,nR⟩:=pB.slice t e ht hu;simp only at h;split at h
  ·rename_i hb;rw[if_pos hb];simp only[Qx,Qu,if_true]at h|-;obtain⟨elems,he,rest,eX,hx⟩:=h;have one:∀i y,(w.cells? base (a.add (i*P.cellsOf e)) (P.cellsOf e)).bind (r e)=some y->(w'.cells? base (a.add (i*P.cellsOf e)) (P.cellsOf e)).bind (r' e)=some y:=by
    intro i y hy;simp only[Qu]at hy|-;obtain⟨XY,hc,hy⟩:=hy;exact⟨XY,sE hold hc,hr _ _ _ hoe hy⟩
   have nO:(cap - len=0)∨a.block < w.heap.size:=by
    rcases Nat.eq_zero_or_pos (cap - len)with h0|h0
    ·exact .inl h0
    ·right;have cF:rest≠[]:=by
      intro hn;subst hn;have:=congrArg List.length (show []=_ from rfl:([]:List Nat)=[]);have hlen:∀{l:List Nat} {g:Nat->Option (DataW H×List MemPlace)} {q:List (DataW H×List MemPlace)},l.mapM g=some q->q.length=l.length:=by
       intro l g
       induction l with
       |nil=>intro q hq;simp at hq;subst hq;rfl
       |cons a l ih=>
        intro q hq;simp only[List.mapM_cons,Option.bind_eq_bind,Option.pure_def,Qu]at hq;obtain⟨y,_,ys,h2,h3⟩:=hq;cases h3;simp[ih h2]
      have:=hlen eX;simp at this;omega
     obtain⟨y,hy⟩:=List.exists_mem_of_ne_nil _ cF;obtain⟨j,_,hj⟩:=mapM_mem_of eX y hy;simp only[Qu]at hj;obtain⟨XY,hc,_⟩:=hj;have:=World.cells?_block hc nR;have e1:(a.add ((len+j)*P.cellsOf e)).block=a.block:=by unfold Addr.add;split <;> rfl
     rw[e1]at this;exact this
   refine⟨elems,mapM_mono (fun i _ y hy=>one i y hy) he,rest,?_,hx⟩;rcases nO with h0|h0
   ·rw[h0]at eX|-;simp at eX|-;subst eX;rfl
   ·rw[EO _ h0];exact mapM_mono (fun i _ y hy=>one _ y hy) eX
  ·cases h
 case h_9 fs hu=>
  unfold DataW.trodStep;simp only[hu];split at h
  ·rename_i hl;rw[if_pos hl];simp only[Qx]at h|-;obtain⟨xs,hx,e⟩:=h;exact⟨xs,mapM_mono (fun f hf y hy=>hr _ _ _ (pB.struct t fs ht hu f hf) hy) hx,e⟩
  ·cases h
 case h_10 n e hu=>
  unfold DataW.trodStep;simp only[hu];split at h
  ·rename_i hl;rw[if_pos hl];simp only[Qx]at h|-;obtain⟨xs,hx,e1⟩:=h;exact⟨xs,mapM_mono (fun f _ y hy=>hr _ _ _ (pB.array t n e ht hu) hy) hx,e1⟩
  ·cases h
 case h_11 hu=>unfold DataW.trodStep;simp only[hu];exact h
 case h_12 u v hu=>
  unfold DataW.trodStep;simp only[hu];exact h
 case h_13 hu=>unfold DataW.trodStep;simp only[hu];exact h
 case h_14 k e b hu=>
  unfold DataW.trodStep;simp only[hu];split at h
  ·rename_i es clock hb;have aI:b < w.heap.size:=by
    rcases Nat.lt_or_ge b w.heap.size with h'|h'
    ·exact h'
    ·simp[Array.getElem?_eq_none h']at hb
   rw[hold b aI,hb];dsimp only;split at h
   ·rename_i hc;rw[if_pos hc];simp only[Qu]at h|-;obtain⟨entries,he,hd⟩:=h;refine⟨entries,mapM_mono (fun x _ y hy=>?_) he,hd⟩;obtain⟨key,hk,HY⟩:=Qu.1 hy;refine Qu.2 ⟨key,hk,?_⟩;split at HY
    ·rename_i hf;rw[if_pos hf];simp only[Qx]at HY|-;obtain⟨q,hq,e⟩:=HY;exact⟨q,hr _ _ _ (pB.map t k _ ht hu) hq,e⟩
    ·cases HY
   ·cases h
  ·cases h
 case h_15 hu=>unfold DataW.trodStep;simp only[hu];exact h
 case h_16 hu=>unfold DataW.trodStep;simp only[hu];exact h
 case h_17 hu=>unfold DataW.trodStep;simp only[hu];exact h
 case h_18 hu=>unfold DataW.trodStep;simp only[hu];exact h
 case h_19 hu=>unfold DataW.trodStep;simp only[hu];exact h
 case h_20 hu=>unfold DataW.trodStep;simp only[hu];exact h
 case h_21=>cases h
theorem M0 {ok:TypeId->Prop}(pB:rj P ok)(hold:∀i,i < w.heap.size->w'.heap[i]? =w.heap[i]?)(EO:∀b,b < w.heap.size->sp b=true):
 ∀(n:Nat) (t:TypeId) (cs:List Value) (x:DataW H×List MemPlace),ok t->DataW.trod enc P w base (fun _=>true) true n t cs=some x->DataW.trod enc P w' base sp true n t cs=some x:=by
 intro n
 induction n with
 |zero=>intro t cs x _ h;simp[DataW.trod]at h
 |succ n ih=>
  intro t cs x ht h;rw[DataW.trod_step]at h|-;exact Aw pB hold EO ih ht h
theorem qQ {ok:TypeId->Prop}(pB:rj P ok)(hold:∀i,i < w.heap.size->w'.heap[i]? =w.heap[i]?)(EO:∀b,b < w.heap.size->sp b=true):
 ∀{ts:List TypeId} {vs:List Value} {ds:List (DataW H)} {ps:List MemPlace},(∀t∈ts,ok t)->DataW.TrodAll enc P w base (fun _=>true) true ts vs ds ps->DataW.TrodAll enc P w' base sp true ts vs ds ps
 |[],[],[],_,_,h=>h
 |_::_,_::_,_::_,_,ho,⟨p,q,⟨n,h1⟩,h2,e⟩=>⟨p,q,⟨n,M0 pB hold EO n _ _ _ (ho _ Zs) h1⟩,qQ pB hold EO (fun t ht=>ho t (by simp[ht])) h2,e⟩
end
open Go Go.ChangeShapes Go.WideShapes
section
variable {H:Type} {enc:TypeId×Value->H} {P:Program}
theorem glue {f:FuncId}{fn:Func}{s:ChangeSpec}{rt:TypeId}{apart fresh handsOn:Bool}{W:World}{args:List Value}{ds gs:List (DataW H)}{before:List MemPlace}
 (Yr:s.vars=[]) (ο:fn.resultTypes=#[rt]) (hb:P.underlying rt=some .bool) (tY:s.fn H (ds++gs)={results:=[.lit (.bool true)],args:=ds})
 {ok:TypeId->Prop} (pB:rj P ok) (aN:∀t∈fn.params.toList,ok t) (hW:DataW.Whole enc P fn.params.toList s.vars apart W args ds gs before)
 (hF:∀A,(∀a:kB,a.holds W->a∈A)->ao P f args [A] fun v Post=>v=.bool true/\Post=[A]):
 Calls P f args.toArray W fun e W'=>∃v,e=.returned v/\s.post enc P fn apart fresh handsOn false W args.toArray v W':=by
 obtain⟨A,hA,ap⟩:=Xk W;have h:=(hF A ap).2 [] W (by simpa using hA);refine h.mono ?_
 rintro e W' ⟨v,Post,rfl,⟨rfl,rfl⟩,hs,hk⟩
 have DD:Sat W' A:=by simpa using hs
 have hold:=Ry ap DD hk;refine⟨_,rfl,ds,gs,before,[],before,[],by simpa using hW,?_,?_,?_,?_,fun h=>by cases h⟩
 ·rw[ο,tY];exact trodAll_mk1 ⟨1,by simp[DataW.trod,hb,Value.cells]⟩
 ·obtain⟨p,q,h1,h2,h3,_,_⟩:=hW;rw[Yr]at h2;obtain⟨rfl,rfl⟩:=trodVars_none h2;rw[tY];simp only[vd]at h3;subst h3;simpa using qQ pB hold (fun b hb=>by simpa using hb) aN h1
 ·rw[tY,Yr];rfl
 ·refine⟨hk.os,hk.output,fun i hi=>?_⟩;rw[hold i hi];have:W.heap[i]? =some W.heap[i]:=v7 hi;generalize W.heap[i]=o at this;rw[this];cases o <;> first|exact⟨rfl,rfl,rfl,fun _ _=>rfl⟩|exact .inr ⟨rfl,rfl⟩|rfl
theorem bW {W:World}{b o:Nat}{v:Value}(h:W.cell? ⟨b,o,none⟩=some v)(hf:W.frozen? ⟨b,o,none⟩=false):(kB.cell b o v).holds W:=by
 unfold World.cell? at h;unfold World.frozen? at hf;split at h
 ·rename_i c t fr hb;obtain⟨lo,hi⟩:=fr;simp only at hb hf h;rw[hb]at hf;simp only[Bool.and_eq_false_iff,decide_eq_false_iff_not]at hf;refine⟨c,t,lo,hi,hb,by simpa using h,fun hh=>?_⟩;rcases hf with hf|hf
  ·exact hf hh.1
  ·exact hf hh.2
 ·cases h
end
open Go Go.ChangeShapes Go.WideShapes Go.Deep
inductive SC where
 |int (k:IntKind)
 |str
section
variable {H:Type} {enc:TypeId×Value->H} {P:Program} {W:World} {base:Nat}
theorem DP(b o i:Nat):(⟨b,o,none⟩:Addr).add i=⟨b,o+i,none⟩:=by
 unfold Addr.add;split
 ·rename_i h0;have:i=0:=by simpa using h0
  subst this;rfl
 ·rfl
theorem lM {α:Type}{Q:Nat->α->Prop}{n:Nat}(h:∀i,i < n->∃x,Q i x):∃l:List α,l.length=n/\∀i x,l[i]? =some x->Q i x:=by
 induction n with
 |zero=>exact⟨[],rfl,Zs⟩
 |succ n ih=>
  obtain⟨l,h1,h2⟩:=ih (fun i hi=>h i Zo);obtain⟨x,hx⟩:=h n Zo;refine⟨l++[x],by simp[h1],fun i y hy=>?_⟩;by_cases hi:i < l.length
  ·rw[VV hi]at hy;exact h2 i y hy
  ·rw[Va Zo]at hy;have:i=n:=by
    have:=(Vh.1 hy).1;simp at this;omega
   subst this;simp[h1]at hy;subst hy;exact hx
end
structure NG {H:Type}(bulk:DataW H->Nat):Prop where
 agg:∀l d,d∈l->bulk d < bulk (.agg l)
 sl:∀es sp d,d∈es->bulk d < bulk (.slice es sp)
 len:∀es sp,es.length<=bulk (.slice es sp)
 sls:∀es sp,(es.map bulk).sum<=bulk (.slice es sp)
 aggs:∀l,(l.map bulk).sum < bulk (.agg l)
 str:∀bs,bs.length<=bulk (.lit (.string bs))
theorem yp {W:World}{a:Addr}{v:Value}(h:W.cell? a=some v):a=⟨a.block,a.off,none⟩:=by
 obtain⟨b,o,s⟩:=a;cases s with
 |none=>rfl
 |some s=>
  unfold World.cell? at h;split at h
  ·simp at h
  ·cases h
section
variable {H:Type} {enc:TypeId×Value->H} {P:Program} {bulk:DataW H->Nat}
theorem Dg(hb:NG bulk){t e:TypeId}{sz:Nat}(ht:P.underlying t=some (.slice e))(hc:P.cellsOf e=sz)(nR:0 < sz){W:World}{u:Value}{n:Nat}{x:DataW H×List MemPlace}{A:List kB}(h:DataW.trod enc P W 0 (fun _=>true) true n t [u]=some x)(hf:W.noneFrozen x.2)(hA:∀a:kB,a.holds W->a∈A):
 ∃(a:Option Addr) (k c bk o:Nat) (us:Nat->List Value) (D:Nat->DataW H) (Pl:Nat->List MemPlace) (m:Nat),u=.slice a k c/\(k<=bulk x.1/\((List.range' 0 k).map fun i=>bulk (D i)).sum<=bulk x.1/\k<=c)/\(0 < k->a=some ⟨bk,o,none⟩)/\∀i,i < k->bulk (D i) < bulk x.1/\(us i).length=sz/\(∀y∈kA bk (o+i*sz) (us i),y∈A)/\DataW.trod enc P W 0 (fun _=>true) true m e (us i)=some (D i,Pl i)/\W.noneFrozen (Pl i):=by
 rcases open_slice ht h with⟨h1,_⟩|⟨a,len,cap,m,n',D,Pl,Lg,_,hl,_,hm,hx,hi⟩
 ·simp only[ve,and_true]at h1;exact⟨none,0,0,0,0,fun _=>[],fun _=>.nil,fun _=>[],0,h1,⟨Qs _,Qs _,Qj _⟩,fun h=>absurd h (Nat.lt_irrefl 0),fun i hi=>absurd hi (Nat.not_lt_zero _)⟩
 ·simp only[ve,and_true]at Lg;simp only[if_true]at hm;subst hm;subst hx;rw[hc]at hi;obtain⟨us,EQ⟩:∃us:Nat->List Value,∀i,i < m->W.cells? 0 (a.add (i*sz)) sz=some (us i)/\DataW.trod enc P W 0 (fun _=>true) true n' e (us i)=some (D i,Pl i):=
   ⟨fun i=>if h:i < m then(hi i h).choose else [],fun i h=>by simp only[dif_pos h];exact(hi i h).choose_spec⟩
  refine⟨some a,len,m,a.block,a.off,us,D,Pl,n',Lg,⟨?_,?_,Zo⟩,fun hk=>?_,fun i Yb=>?_⟩
  ·have:=hb.len ((List.range len).map D) ((List.range (m - len)).map fun j=>D (len+j));simpa using this
  ·have:=hb.sls ((List.range len).map D) ((List.range (m - len)).map fun j=>D (len+j));rw[Q5]at this;rw[<- List.range_eq_range'];exact this
  ·obtain⟨h0,_⟩:=EQ 0 Zo;obtain⟨_,_,Oy⟩:=World.cells?_some h0;have Zx:=Oy 0 nR;obtain⟨_,hlen,_⟩:=World.cells?_some h0;rw[Zg Zo]at Zx;have e1:(a.add (0*sz)).add 0=a:=by rw[Qt];rfl
   rw[e1]at Zx;rw[<- yp Zx]
  ·obtain⟨h0,h1⟩:=EQ i Zo;obtain⟨_,hlen,Oy⟩:=World.cells?_some h0;have ha:a=⟨a.block,a.off,none⟩:=by
    obtain⟨g0,_⟩:=EQ 0 Zo;obtain⟨_,glen,gat⟩:=World.cells?_some g0;have Zx:=gat 0 nR;rw[Zg Zo]at Zx;have e1:(a.add (0*sz)).add 0=a:=by rw[Qt];rfl
    rw[e1]at Zx;exact yp Zx
   refine⟨hb.sl _ _ _ (QE.2 ⟨i,QG.2 Yb,rfl⟩),hlen,fun y hy=>?_,h1,fun b o ZL=>hf b o ?_⟩
   ·obtain⟨j,v,hj,rfl⟩:=kH.1 hy;have tC:=(Vh.1 hj).1;have lg:=Oy j Zo;rw[ha,DP,DP,hj]at lg;refine hA _ (bW lg (hf _ _ ?_));refine Zw _ (MemPlace.mem_row.2 ⟨i*sz+j,?_,?_⟩)
    ·rw[hc];have:(i+1)*sz<=m*sz:=Qo _ Zo;rw[Qq]at this;omega
    ·rw[Qe]
   ·exact Q8 _ (QD.2 ⟨i,QG.2 Zo,ZL⟩)
theorem Fx(hb:NG bulk){t e:TypeId}(ht:P.underlying t=some (.slice e))(he:P.underlying e=some .string)(hc:P.cellsOf e=1){W:World}{u:Value}{n:Nat}{x:DataW H×List MemPlace}{A:List kB}(h:DataW.trod enc P W 0 (fun _=>true) true n t [u]=some x)(hf:W.noneFrozen x.2)(hA:∀a:kB,a.holds W->a∈A)(gh:bulk x.1<=1048576):
 ∃l:List ByteArray,du A u l/\l.length<=bulk x.1:=by
 obtain⟨a,k,c,bk,o,us,D,Pl,m,rfl,⟨hk,_⟩,ha,hi⟩:=Dg hb ht hc Zd h hf hA;obtain⟨l,hl,hx⟩:=lM (α:=ByteArray) (Q:=fun i t=>kB.cell bk (o+i) (.string t)∈A/\t.size<=140737488355328) (n:=k) (fun i Yb=>by
  obtain⟨h1,h2,h3,h4,h5⟩:=hi i Yb;obtain⟨s,hs,hd,_⟩:=DataW.trod_string he h4;refine⟨s,h3 _ (kH.2 ⟨0,.string s,by rw[hs];rfl,by rw[Nat.mul_one];rfl⟩),?_⟩;have e1:D i=.lit (.string s.data.toList):=congrArg Prod.fst hd;have:=hb.str s.data.toList;rw[e1]at h1;have e2:s.data.toList.length=s.size:=by simp
  omega)
 refine⟨l,⟨a,c,by rw[hl],Zo,fun i t h=>?_⟩,Zo⟩;have Yb:i < k:=by have:=(Vh.1 h).1;omega
 exact⟨bk,o,ha Zo,(hx i t h).1,(hx i t h).2⟩
structure YW (P:Program)(t:TypeId)(sl:TypeId):Prop where
 str:∃fs:Array Field,P.underlying t=some (.struct fs)/\fs.size=5/\∃t0 t1 t2 t3,(fs.toList.map fun f=>(f.type,f.offset))=[(t0,0),(t1,1),(t2,2),(t3,3),(sl,4)]/\P.underlying t0=some (.int .u8)/\P.underlying t1=some (.int .i64)/\P.underlying t2=some (.int .u64)/\P.underlying t3=some .string/\
  P.cellsOf t0=1/\P.cellsOf t1=1/\P.cellsOf t2=1/\P.cellsOf t3=1/\P.cellsOf sl=1
 cells:P.cellsOf t=5
 items:P.underlying sl=some (.slice t)
theorem wf_u8 {n:Int}(h:(Lit.int .u8 n).wf=true):∃k:Nat,n=k/\k < 256:=by
 simp[Lit.wf]at h;have e1:IntKind.u8.min=0:=by decide
 have e2:IntKind.u8.max=255:=by decide
 exact⟨n.toNat,Zo,Zo⟩
theorem wf_u64 {n:Int}(h:(Lit.int .u64 n).wf=true):∃k:Nat,n=k/\k < 18446744073709551616:=by
 simp[Lit.wf]at h;have e1:IntKind.u64.min=0:=by decide
 have e2:IntKind.u64.max=18446744073709551615:=by decide
 exact⟨n.toNat,Zo,Zo⟩
theorem wf_i64 {n:Int}(h:(Lit.int .i64 n).wf=true):-9223372036854775808<=n/\n<=9223372036854775807:=by
 simp[Lit.wf]at h;have e1:IntKind.i64.min=-9223372036854775808:=by decide
 have e2:IntKind.i64.max=9223372036854775807:=by decide
 omega
theorem wp {α:Type}{l:List α}{i:Nat}{v:α}(h:(l.drop i).take 1=[v]):l[i]? =some v:=by
 have:=congrArg (fun m:List α=>m[0]?) h;simp only[List.getElem?_take,Vd]at this;simpa using this
theorem Eo {ys:List (DataW H×List MemPlace)}{i:Nat}{y:DataW H×List MemPlace}(h:ys[i]? =some y){q:MemPlace}(hq:q∈y.2):q∈ys.flatMap (·.2):=QD.2 ⟨y,Zv h,hq⟩
theorem rd_lit(hb:NG bulk){t sl:TypeId}(hT:YW P t sl){W:World}{A:List kB}(hA:∀a:kB,a.holds W->a∈A):∀(N:Nat) (n:Nat) (cs:List Value) (x:DataW H×List MemPlace),bulk x.1<=N->N<=1048576->DataW.trod enc P W 0 (fun _=>true) true n t cs=some x->W.noneFrozen x.2->∃l:Lt,zN A l cs/\l.size<=bulk x.1:=by
 obtain⟨fs,hu,gh,t0,t1,t2,t3,Ev,u0,u1,u2,u3,c0,c1,c2,c3,c4⟩:=hT.str;intro N
 induction N using Nat.strongRecOn with
 |_ N ih=>
  intro n cs x hx hN h hf;obtain⟨ys,k,_,rfl,hlen,yR,hfld⟩:=DataW.trod_struct hu h;rw[hT.cells]at hlen
  replace hx:bulk (.agg (ys.map (·.1)))<=N:=hx
  have aC:∀(i:Nat) (ty off:Nat),(fs.toList.map fun f=>(f.type,f.offset))[i]? =some (ty,off)->DataW.trod enc P W 0 (fun _=>true) true k ty ((cs.drop off).take (P.cellsOf ty))=ys[i]?:=fun i ty off hi=>by
   exact zDJ
  have tL:∀i,i < 5->ys[i]? =some (ys.getD i (.nil,[])):=fun i hi=>by
   rw[V8,Zg Zo];rfl
  have g0:=(aC 0 t0 0 (by rw[Ev];rfl)).trans (tL 0 Zo);have g1:=(aC 1 t1 1 (by rw[Ev];rfl)).trans (tL 1 Zo);have g2:=(aC 2 t2 2 (by rw[Ev];rfl)).trans (tL 2 Zo);have g3:=(aC 3 t3 3 (by rw[Ev];rfl)).trans (tL 3 Zo);have g4:=(aC 4 sl 4 (by rw[Ev];rfl)).trans (tL 4 Zo);rw[c0]at g0;rw[c1]at g1;rw[c2]at g2;rw[c3]at g3;rw[c4]at g4;obtain⟨z0,e0,_,w0⟩:=DataW.trod_int u0 g0;obtain⟨z1,e1,_,w1⟩:=DataW.trod_int u1 g1;obtain⟨z2,e2,_,w2⟩:=DataW.trod_int u2 g2;obtain⟨s,e3,d3,_⟩:=DataW.trod_string u3 g3;have aI:∀i,i < 5->bulk (ys.getD i (.nil,[])).1 < bulk (.agg (ys.map (·.1))):=fun i hi=>hb.agg _ _ (QE.2 ⟨_,Zv (tL i hi),rfl⟩)
  have AV:∀i,i < 5->W.noneFrozen (ys.getD i (.nil,[])).2:=fun i hi b o ZL=>hf b o (Eo (tL i hi) ZL)
  obtain⟨v4,e4⟩:∃v,(cs.drop 4).take 1=[v]:=Vt.1 tj;rw[e4]at g4;obtain⟨a,kk,c,bk,o,us,D,Pl,m,rfl,⟨hk,lY,hkc⟩,ha,hi⟩:=Dg hb hT.items hT.cells Zd g4 (AV 4 Zo) hA;obtain⟨l,hl,hq⟩:=lM (α:=Lt) (Q:=fun i y=>zN A y (us i)/\y.size<=bulk (D i)) (n:=kk) (fun i Yb=>by
   obtain⟨q1,_,_,q4,q5⟩:=hi i Yb;have q6:=aI 4 Zo;exact ih (bulk (D i)) Zo m (us i) (D i,Pl i) (Qj _) Zo q4 q5)
  obtain⟨k0,rfl,b0⟩:=wf_u8 w0;obtain⟨k2,rfl,b2⟩:=wf_u64 w2;have b1:=wf_i64 w1;have Lg:cs=[cv k0,vi z1,uv k2,.string s,.slice a l.length c]:=by
   have p0:=wp e0;have p1:=wp e1;have p2:=wp e2;have p3:=wp e3;have p4:=wp e4;obtain⟨a0,a1,a2,a3,a4,rfl⟩:∃a0 a1 a2 a3 a4,cs=[a0,a1,a2,a3,a4]:=by
    match cs,hlen with
    |[a0,a1,a2,a3,a4],_=>exact⟨a0,a1,a2,a3,a4,rfl⟩
   simp only[Vc,Vb,X1]at p0 p1 p2 p3 p4;rw[p0,p1,p2,p3,p4,hl]
  have DE:s.size<=1048576:=by
   have h3:=aI 3 Zo;have e:(ys.getD 3 (.nil,[])).1=.lit (.string s.data.toList):=congrArg Prod.fst d3;rw[e]at h3;exact zDB
  have h4:=aI 4 Zo;have hsz4:Lt.aq l<=bulk (ys.getD 4 (.nil,[])).1:=by
   refine Ql (Lt.Sb (f:=fun i=>bulk (D i)) (o:=0) (fun i x hx=>?_)) ?_
   ·rw[Qr];exact(hq i x hx).2
   ·rw[hl];exact lY
  rw[Lg];refine⟨.mk k0 z1 k2 s l,.mk ⟨b0,b1,b2,Zo,Zo⟩ (fun hp=>ha Zo) (fun i bO=>(hi i Zo).2.2.1) (fun i x hx=>(hq i x hx).1),?_⟩;show 1+Lt.aq l<=bulk (.agg (ys.map (·.1)));omega
structure NodT (P:Program)(t tl sl st:TypeId):Prop where
 str:∃fs:Array Field,P.underlying t=some (.struct fs)/\fs.size=7/\∃t0 t1 t6,(fs.toList.map fun f=>(f.type,f.offset))=[(t0,0),(t1,1),(tl,2),(st,7),(st,8),(sl,9),(t6,10)]/\P.underlying t0=some (.int .u8)/\P.underlying t1=some .string/\P.underlying t6=some (.int .i64)/\
  P.cellsOf t0=1/\P.cellsOf t1=1/\P.cellsOf t6=1/\P.underlying st=some (.slice t1)
 cells:P.cellsOf t=11
 cs:P.cellsOf sl=1
 ct:P.cellsOf st=1
 cl:P.cellsOf tl=5
 kids:P.underlying sl=some (.slice t)
theorem W9(hb:NG bulk){t tl sl st ll:TypeId}(hT:NodT P t tl sl st)(hL:YW P tl ll){W:World}{A:List kB}(hA:∀a:kB,a.holds W->a∈A):∀(N:Nat) (n:Nat) (cs:List Value) (x:DataW H×List MemPlace),bulk x.1<=N->N<=1048576->DataW.trod enc P W 0 (fun _=>true) true n t cs=some x->W.noneFrozen x.2->∃l:Nd,j7 A l cs/\l.w<=bulk x.1:=by
 obtain⟨fs,hu,gh,t0,t1,t6,Ev,u0,u1,u6,c0,c1,c6,us3⟩:=hT.str;intro N
 induction N using Nat.strongRecOn with
 |_ N ih=>
  intro n cs x hx hN h hf;obtain⟨ys,k,_,rfl,hlen,yR,hfld⟩:=DataW.trod_struct hu h;rw[hT.cells]at hlen
  replace hx:bulk (.agg (ys.map (·.1)))<=N:=hx
  have aC:∀(i:Nat) (ty off:Nat),(fs.toList.map fun f=>(f.type,f.offset))[i]? =some (ty,off)->DataW.trod enc P W 0 (fun _=>true) true k ty ((cs.drop off).take (P.cellsOf ty))=ys[i]?:=fun i ty off hi=>by
   exact zDJ
  have tL:∀i,i < 7->ys[i]? =some (ys.getD i (.nil,[])):=fun i hi=>by
   rw[V8,Zg Zo];rfl
  have g0:=(aC 0 t0 0 (by rw[Ev];rfl)).trans (tL 0 Zo);have g1:=(aC 1 t1 1 (by rw[Ev];rfl)).trans (tL 1 Zo);have g2:=(aC 2 tl 2 (by rw[Ev];rfl)).trans (tL 2 Zo);have g3:=(aC 3 st 7 (by rw[Ev];rfl)).trans (tL 3 Zo);have g4:=(aC 4 st 8 (by rw[Ev];rfl)).trans (tL 4 Zo);have g5:=(aC 5 sl 9 (by rw[Ev];rfl)).trans (tL 5 Zo);have g6:=(aC 6 t6 10 (by rw[Ev];rfl)).trans (tL 6 Zo);rw[c0]at g0;rw[c1]at g1;rw[hT.cl]at g2;rw[hT.ct]at g3 g4;rw[hT.cs]at g5;rw[c6]at g6;obtain⟨z0,e0,_,w0⟩:=DataW.trod_int u0 g0;obtain⟨s,e1,d1,_⟩:=DataW.trod_string u1 g1;obtain⟨z6,e6,_,w6⟩:=DataW.trod_int u6 g6;have aI:∀i,i < 7->bulk (ys.getD i (.nil,[])).1 < bulk (.agg (ys.map (·.1))):=fun i hi=>hb.agg _ _ (QE.2 ⟨_,Zv (tL i hi),rfl⟩)
  have AV:∀i,i < 7->W.noneFrozen (ys.getD i (.nil,[])).2:=fun i hi b o ZL=>hf b o (Eo (tL i hi) ZL)
  obtain⟨v3,e3⟩:∃v,(cs.drop 7).take 1=[v]:=Vt.1 tj;obtain⟨v4,e4⟩:∃v,(cs.drop 8).take 1=[v]:=Vt.1 tj;obtain⟨v5,e5⟩:∃v,(cs.drop 9).take 1=[v]:=Vt.1 tj;rw[e3]at g3;rw[e4]at g4;rw[e5]at g5;have l2:=aI 2 Zo;have l3:=aI 3 Zo;have l4:=aI 4 Zo;have l5:=aI 5 Zo;obtain⟨lit,xu,JU⟩:=rd_lit hb hL hA 1048576 k _ _ Zo (Qj _) g2 (AV 2 Zo);obtain⟨args,cu,hargl⟩:=Fx hb us3 u1 c1 g3 (AV 3 Zo) hA Zo;obtain⟨ab,HT,htempl⟩:=Fx hb us3 u1 c1 g4 (AV 4 Zo) hA Zo;obtain⟨a,kk,c,bk,o,us,D,Pl,m,rfl,⟨hk,lY,hkc⟩,ha,hi⟩:=Dg hb hT.kids hT.cells Zd g5 (AV 5 Zo) hA;obtain⟨l,hl,hq⟩:=lM (α:=Nd) (Q:=fun i y=>j7 A y (us i)/\y.w<=bulk (D i)) (n:=kk) (fun i Yb=>by
   obtain⟨q1,_,_,q4,q5⟩:=hi i Yb;exact ih (bulk (D i)) Zo m (us i) (D i,Pl i) (Qj _) Zo q4 q5)
  have hyl2:ys.length=7:=by rw[yR];exact gh
  obtain⟨k0,rfl,b0⟩:=wf_u8 w0;have b6:=wf_i64 w6;have Lg:cs=[cv k0,.string s]++(cs.drop 2).take 5++[v3,v4,.slice a l.length c,vi z6]:=by
   have p0:=wp e0;have p1:=wp e1;have p3:=wp e3;have p4:=wp e4;have p5:=wp e5;have p6:=wp e6;obtain⟨a0,a1,a2,a3,a4,a5,a6,a7,a8,a9,a10,rfl⟩:∃a0 a1 a2 a3 a4 a5 a6 a7 a8 a9 a10,cs=[a0,a1,a2,a3,a4,a5,a6,a7,a8,a9,a10]:=by
    match cs,hlen with
    |[a0,a1,a2,a3,a4,a5,a6,a7,a8,a9,a10],_=>exact⟨a0,a1,a2,a3,a4,a5,a6,a7,a8,a9,a10,rfl⟩
   simp only[Vc,Vb,X1]at p0 p1 p3 p4 p5 p6;rw[p0,p1,p3,p4,p5,p6,hl];rfl
  have hs0:s.size<=bulk (ys.getD 1 (.nil,[])).1:=by
   have e:(ys.getD 1 (.nil,[])).1=.lit (.string s.data.toList):=congrArg Prod.fst d1;rw[e];exact zDB
  have nS:s.size<=1048576:=by
   have h3:=aI 1 Zo;have e:(ys.getD 1 (.nil,[])).1=.lit (.string s.data.toList):=congrArg Prod.fst d1;rw[e]at h3;exact zDB
  rw[Lg];have hsz5:Nd.ws l<=bulk (ys.getD 5 (.nil,[])).1:=by
   refine Ql (Nd.ws_le (f:=fun i=>bulk (D i)) (o:=0) (fun i x hx=>?_)) ?_
   ·rw[Qr];exact(hq i x hx).2
   ·rw[hl];exact lY
  refine⟨.mk k0 s lit args ab l z6,.mk ⟨b0,Zo,Zo,b6⟩ xu cu HT (fun hp=>ha Zo) (fun i bO=>(hi i Zo).2.2.1) (fun i x hx=>(hq i x hx).1) Zo,?_⟩;have hag:=hb.aggs (ys.map (·.1));have hsum:bulk (ys.getD 1 (.nil,[])).1+bulk (ys.getD 2 (.nil,[])).1+bulk (ys.getD 3 (.nil,[])).1+bulk (ys.getD 4 (.nil,[])).1+bulk (ys.getD 5 (.nil,[])).1<=((ys.map (·.1)).map bulk).sum:=by
   match ys,hyl2 with
   |[y0,y1,y2,y3,y4,y5,y6],_=>simp only[Q3,Q6,List.sum_cons,List.sum_nil,List.getD_cons_zero,List.getD_cons_succ];omega
  show 1+s.size+lit.size+args.length+ab.length+Nd.ws l<=bulk (.agg (ys.map (·.1)));omega
end
end Go.V
namespace Go.Proofs.YtijnokbblmbpkaaGreatDoor
open Go Go.V
set_option maxHeartbeats 3200000
set_option maxRecDepth 100000
abbrev aV (lb:Nat)(m d:Bool):List kB:=kA lb 0 [.bool m,.bool d]
def LkQ(A:List kB)(lb:Nat)(m0 deep:Bool)(r:Rs):Value->SH->Prop:=fun v Post=>∃(d:Nat) (m:Bool),r=some (d,m)/\v=vi d/\Post=[A,aV lb (m0||m) deep]
def LkZ(A:List kB)(lb:Nat)(deep:Bool)(r:Rs):List PanicEntry->SH->Prop:=fun ch Post=>r=none/\ch=wG/\∃m,Post=[A,aV lb m deep]
abbrev yV (f:Nat)(args:List Value)(A:List kB)(lb:Nat)(m0 deep:Bool)(r:Rs):Prop:=jb Tryz.prog f args [A,aV lb m0 deep] (LkQ A lb m0 deep r) (LkZ A lb deep r)
theorem fk(B:List kB)(v:Value)(l:List ByteArray)(h:du B v l)(lb It:Nat)(m0 deep:Bool):jb Tryz.prog 106 [kE lb,vi It,v] [B,aV lb m0 deep]
 (fun v Post=>l.all wK=true/\v=.tuple #[]/\Post=[B,aV lb (m0||decide (It < l.length)) deep]) (fun ch Post=>l.all wK=false/\ch=wG/\∃m,Post=[B,aV lb m deep]):=by
 refine jb.intro low106 (by simp[n106]) ?_;have hc:=xC B v l h;obtain⟨a,c,rfl,hl,hr⟩:=h;cases m0 with
 |true=>
  exact zB1
 |false=>
  refine ae ?_;by_cases hm:It < l.length
  ·rw[show decide ((l.length:Int) > (It:Int))=true from Zt Zo,Zt hm];exact zB1
  ·rw[show decide ((l.length:Int) > (It:Int))=false from Zf Zo,Zf hm];refine ae ?_;refine kI hc Zr ZP (fun v Post hv=>?_);obtain⟨rfl,rfl⟩:=hv;simp only[aE];refine ae ?_;refine kK (j9 _) Zr ZP (fun v Post hv=>?_) (fun ch Post hz=>?_)
   ·obtain⟨h1,rfl,rfl⟩:=hv;simp only[QJ];refine ae ?_;exact jJ (kG (Post:=[B,aV lb false deep]) (.inl rfl) .nil ⟨by simpa using h1,rfl,rfl⟩ ZI)
   ·obtain⟨h1,rfl,rfl⟩:=hz;exact⟨[B,aV lb false deep],ZI,by simpa using h1,rfl,false,rfl⟩
theorem ui {A:List kB}{x:Nd}{vs:List Value}(h:j7 A x vs):∃c2 c3 c4 c5 c6 c7 c8 c9 D4,vs=[cv x.kind,.string x.name,c2,c3,c4,c5,c6,c7,c8,c9,D4]/\x.name.size<=140737488355328/\x.kind < 256:=by
 cases h with
 |mk wf hl bB bu ha hm hr=>
  cases hl with
  |mk Nw GL pC ez=>exact⟨_,_,_,_,_,_,_,_,_,rfl,wf.name,wf.kind⟩
def z9(A:List kB)(x:Nd)(vs:List Value):Prop:=(∀lb m0 deep,yV 169 [kE lb,.agg vs.toArray] A lb m0 deep (kN x))/\∀d m,kN x=some (d,m)->d<=1099511627776
theorem My(A:List kB)(x:Nd)(vs:List Value)(h:j7 A x vs)(hn:z9 A x vs)(place lb:Nat)(m0 deep:Bool):yV 206 [kE lb,.agg vs.toArray,vi place] A lb m0 deep (Bm x place (kN x)):=by
 obtain⟨Nl,JY⟩:=hn;obtain⟨c2,c3,c4,c5,c6,c7,c8,c9,D4,rfl,gh,hk⟩:=ui h;have hlev:Pw x=iB x.kind x.name:=rfl;have EI:=Ib x.kind x.name gh c2 c3 c4 c5 c6 c7 c8 c9 D4;have aU:=Nl lb m0 deep;refine jb.intro low206 (by simp[n206]) ?_;unfold Bm;rw[hlev];generalize x.kind=k at*;generalize x.name=s at*;generalize kN x=r at*;generalize iB k s=lv at*;refine ae ?_;refine kW Zr (fun q=>?_);simp only[Value.cells];refine ae ?_;by_cases h9:k=9
 ·have aA:kP (decide (k≠9/\k≠6)) (if lv < place then wm r else r)=none:=by simp[kP,h9]
  rw[show decide ((k:Int)=9)=true from Zt Zo,Bool.not_true];exact AA
 rw[show decide ((k:Int)=9)=false from Zf Zo,vM];refine ae ?_;by_cases h6:k=6
 ·have aA:kP (decide (k≠9/\k≠6)) (if lv < place then wm r else r)=none:=by simp[kP,h6]
  rw[show decide ((k:Int)=6)=true from Zt Zo,Bool.not_true];exact AA
 rw[show decide ((k:Int)=6)=false from Zf Zo,vM];have hmust:kP (decide (k≠9/\k≠6)) (if lv < place then wm r else r)=(if lv < place then wm r else r):=by simp[kP,h9,h6]
 rw[hmust];refine ae ?_;refine kK (j9 true) Zr ZP (fun v Post hv=>?_) GJ;obtain⟨_,rfl,rfl⟩:=hv;simp only[QJ];refine ae ?_;refine kK aU Zr ZP (fun v Post hv=>?_) (fun ch Post hz=>?_);rotate_left
 ·obtain⟨hb,rfl,m2,rfl⟩:=hz;exact⟨[A,aV lb m2 deep],ZI,by rw[hb];split <;> rfl,rfl,m2,rfl⟩
 obtain⟨d,m2,he,rfl,rfl⟩:=hv;have hd:=JY d m2 he;simp only[aE];refine ae ?_;refine kQ EI Zr ?_;refine ae ?_;by_cases aI:lv < place
 ·rw[show decide ((lv:Int) < (place:Int))=true from Zt Zo];refine ae ?_;refine jJ (kG (Post:=[A,aV lb (m0||m2) deep]) (.inr rfl) (.tmp Zr .nil) ⟨d+1,m2,by rw[if_pos aI,he];rfl,rfl,rfl⟩ ZI)
 ·rw[show decide ((lv:Int) < (place:Int))=false from Zf Zo];refine ae ?_;refine jJ (kG (Post:=[A,aV lb (m0||m2) deep]) (.inr rfl) (.tmp Zr .nil) ⟨d,m2,by rw[if_neg aI,he],rfl,rfl⟩ ZI)
theorem zb(A:List kB)(x:Nd)(vs:List Value)(h:j7 A x vs)(hn:z9 A x vs)(place lb:Nat)(m0 deep:Bool):yV 170 [kE lb,.agg vs.toArray,vi place] A lb m0 deep (jm x place (kN x)):=by
 have hp:=My A x vs h hn place lb m0 deep;obtain⟨c2,c3,c4,c5,c6,c7,c8,c9,D4,rfl,gh,hk⟩:=ui h;have Lu:jh x=iR x.kind x.name:=rfl;have Ψ:=yH x.kind x.name c2 c3 c4 c5 c6 c7 c8 c9 D4;refine jb.intro low170 (by simp[n170]) ?_;unfold jm;rw[Lu];generalize Bm x place (kN x)=r at*;refine ae ?_;refine kW Zr (fun q=>?_);simp only[Value.cells];refine ae ?_;refine kQ Ψ Zr ?_;cases hs:iR x.kind x.name with
 |true=>
  have aA:kP (!true) r=none:=rfl;exact AA
 |false=>
  have hm:kP (!false) r=r:=rfl;rw[hm];refine ae ?_;refine kK (j9 true) Zr ZP (fun v Post hv=>?_) GJ;obtain⟨_,rfl,rfl⟩:=hv;simp only[QJ];refine ae ?_;refine kK hp Zr ZP (fun v Post hv=>?_) (fun ch Post hz=>?_);rotate_left
  ·obtain⟨hb,rfl,m2,rfl⟩:=hz;exact⟨[A,aV lb m2 deep],ZI,hb,rfl,m2,rfl⟩
  exact zCY
end Go.Proofs.YtijnokbblmbpkaaGreatDoor
namespace Go.V
open Go
section
variable {ops:Array Oper}
theorem Ze {both:Bool}{rs:List (RO×Oper)}{orders:List (List Nat)}(hc:eT both rs ops orders=true)(t:Nat):
 ∃o∈orders,o.Perm (jX ops ops.size t (Array.replicate ops.size false))/\(jX ops ops.size t (Array.replicate ops.size false)).Nodup/\(∀i∈o,i < ops.size)/\
  o.Pairwise (fun x y=>indep (rs.getD y default) (rs.getD x default)=true∨[x,y].Sublist (jX ops ops.size t (Array.replicate ops.size false))):=by
 simp only[eT,vF]at hc;obtain⟨⟨⟨hb,hd⟩,ho⟩,hp⟩:=hc;have hu:om ops (Array.replicate ops.size false)=List.range ops.size:=by
  exact zAW
 obtain⟨s1,s2,_⟩:=zc hb ops.size t (Array.replicate ops.size false) Zs (by rw[hu];simp);generalize hl:jX ops ops.size t (Array.replicate ops.size false)=l at s1 s2|-;have Uu:∀{x y:Nat},y < ops.size->x∈(gD ops).getD y []->Jk l x y:=fun hy hx=>hl ▸ tT hb (Qj _) (il hx) hy
 have bM:∀i,i∈l↔i < ops.size:=fun i=>by rw[s2,hu];simp
 generalize S6:D8 both rs (gD ops) ops.size=d at hd hp;have ZT:∀x∈d,x < ops.size:=by
  exact zCR
 have EO:(l.filter (d.contains ·)).Perm d:=by
  exact zBE
 have ap:=vX.1 hp _ (rY EO);simp only[vO,vL,vY]at ap;have EM:zS (fun x y=>!((gD ops).getD x []).contains y) (l.filter (d.contains ·))=true:=by
  exact zAE
 rcases ap with ap|⟨o,Nn,HL⟩
 ·rw[EM]at ap;cases ap
 have xw:=vX.1 ho o Nn;simp only[vF,beq_iff_eq,vX,decide_eq_true_eq]at xw;obtain⟨⟨o1,o2⟩,o3⟩:=xw;have cg:o.Perm l:=by
  exact zAL
 refine⟨o,Nn,cg,s1,fun i hi=>(bM i).1 (cg.subset hi),?_⟩;exact zAQ
theorem sG {o l:List Nat}(hp:o.Perm l)(hn:l.Nodup)(h:o.Pairwise fun x y=>[x,y].Sublist l):o=l:=by
 refine List.Perm.eq_of_pairwise (le:=fun x y=>[x,y].Sublist l) (fun a b _ _ h1 h2=>?_) h (List.pairwise_iff_forall_sublist.2 fun h=>h) hp;have b1:=(uD hn h1).2.2;have b2:=(uD hn h2).2.2;omega
def gI(X:Nat->RO×Oper)(val:Nat->Value):List Nat->Env->Env
 |[],Γ=>Γ
 |i::r,Γ=>gI X val r (ak (X i).1.dst (val i) Γ)
def writes(X:Nat->RO×Oper)(t j:Nat):Bool:=(X j).1.dst==some t
theorem sF {X:Nat->RO×Oper}{val:Nat->Value}{t:Nat}:∀{p:List Nat} {Γ Δ:Env},look Γ t=look Δ t->look (gI X val p Γ) t=look (gI X val (p.filter (writes X t)) Δ) t:=by
 intro p
 induction p with
 |nil=>intro Γ Δ h;exact h
 |cons j p ih=>
  intro Γ Δ h;simp only[gI,vq];by_cases hw:writes X t j=true
  ·rw[if_pos hw];simp only[gI];refine ih ?_;simp only[writes,beq_iff_eq]at hw;rw[hw];simp[ak,look]
  ·rw[if_neg hw];refine ih ?_;simp only[writes,beq_iff_eq]at hw;rw[<- h];cases hd:(X j).1.dst with
   |none=>rfl
   |some d=>
    have:d≠t:=fun e=>hw (by rw[hd,e])
    simp[ak,look,this]
theorem Se {i:Nat}:∀{a b c d:List Nat},a++i::b=c++i::d->i∉a->i∉c->a=c:=by
 intro a
 induction a with
 |nil=>
  intro b c d h _ hc;cases c with
  |nil=>rfl
  |cons x c=>simp at h;exact absurd (by simp[h.1]) hc
 |cons x a ih=>
  intro b c d h ha hc;cases c with
  |nil=>simp at h;exact absurd (by simp[h.1]) ha
  |cons y c=>
   simp only[vf,ve]at h;rw[h.1,ih h.2 (fun h=>ha (by simp[h])) (fun h=>hc (by simp[h]))]
theorem KV {X:Nat->RO×Oper}{val:Nat->Value}{Γ:Env}{p q l1 l2:List Nat}{i t:Nat}(hp:(p++i::q).Perm (l1++i::l2))(hn:(l1++i::l2).Nodup)
 (HN:(p++i::q).Pairwise (fun x y=>indep (X y) (X x)=true∨[x,y].Sublist (l1++i::l2))) (ht:t∈looks (X i)):look (gI X val p Γ) t=look (gI X val l1 Γ) t:=by
 have key:(p++i::q).filter (fun j=>decide (j=i)||writes X t j)=(l1++i::l2).filter (fun j=>decide (j=i)||writes X t j):=by
  refine sG (hp.filter _) (hn.filter _) ?_;have bQ:(p++i::q).Pairwise (fun x y=>x≠y):=hp.nodup_iff.2 hn;refine((HN.and bQ).filter _).imp_of_mem ?_;intro x y hx hy ⟨h,cF⟩;have fx:=(QC.1 hx).2;have fy:=(QC.1 hy).2;rcases h with h|h
  ·exfalso;simp only[indep,vF]at h;obtain⟨⟨h1,h2⟩,_⟩:=h;have a1:=z8 h1;have a2:=z8 h2;simp only[vO,decide_eq_true_eq,writes,beq_iff_eq]at fx fy;rcases fx with fx|fx <;> rcases fy with fy|fy
   ·exact cF (fx.trans fy.symm)
   ·subst fx;exact(a1 t fy).1 ht
   ·subst fy;exact(a2 t fx).1 ht
   ·exact(a1 t fy).2 fx
  ·have:=h.filter (fun j=>decide (j=i)||writes X t j)
   rwa [show List.filter (fun j=>decide (j=i)||writes X t j) [x,y]=[x,y] by simp only[List.filter,fx,fy]]at this
 have hip:i∉p:=by
  have:=hp.nodup_iff.2 hn;intro h;exact(QK.1 this).2.2 i h i Zs rfl
 have cf:i∉l1:=fun h=>(QK.1 hn).2.2 i h i Zs rfl
 rw[vp,vp,List.filter_cons_of_pos Zs,List.filter_cons_of_pos Zs]at key;have h2:=Se key (fun h=>hip ((QC.1 h).1)) (fun h=>cf ((QC.1 h).1));have fe:∀l:List Nat,i∉l->l.filter (fun j=>decide (j=i)||writes X t j)=l.filter (writes X t):=fun l hl=>List.filter_congr fun j hj=>by
  have:j≠i:=fun e=>hl (e ▸ hj)
  simp[this]
 rw[fe p hip,fe l1 cf]at h2;rw[sF (p:=p) rfl,sF (p:=l1) rfl,h2]
theorem KU {X:Nat->RO×Oper}{val:Nat->Value}{i:Nat}:∀{p:List Nat} {Γ:Env},gI X val (p++[i]) Γ=ak (X i).1.dst (val i) (gI X val p Γ):=by
 intro p
 induction p with
 |nil=>intro Γ;rfl
 |cons j p ih=>intro Γ;exact ih
def XM(P:Program)(n:Nat)(X:Nat->RO×Oper)(PZ:List PanicEntry->SH->Prop)(Hs:SH->Prop)(val:Nat->Value)(φ:Nat->Prop)(i:Nat)(Δ:Env):Prop:=
 ∀Γ H,(∀t∈looks (X i),∀v,look Δ t=some v->look Γ t=some v)->Hs H->VO P n [(X i).1] Γ H (fun ch _ H'=>PZ ch H') (fun aw H'=>aw=ak (X i).1.dst (val i) Γ/\Hs H'/\φ i)
theorem Xh {P:Program}{n:Nat}{X:Nat->RO×Oper}{PZ:List PanicEntry->SH->Prop}{Hs:SH->Prop}{val:Nat->Value}{φ:Nat->Prop}{Nf:Env}{o l:List Nat}(hp:o.Perm l)(hn:l.Nodup)
 (HN:o.Pairwise (fun x y=>indep (X y) (X x)=true∨[x,y].Sublist l)) (nP:∀i∈l,rp P n [(X i).1] [X i]) (pT:∀p i q,o=p++i::q->XM P n X PZ Hs val φ i (gI X val p Nf))
 {F:List kB} {ZZ:Exit->Act->World->Prop} {Q:Act->World->Prop} {a0:Act} {w0:World}
 (hq:∀a' w' H',jl n (gI X val l Nf) a'->a'.defers=a0.defers->Sat w' (H'.flatten++F)->ki w0 w'->Hs H'->(∀i∈l,φ i)->Q a' w')
 (hz:∀ch a' w' H',a'.tmps.size=n->a'.defers=a0.defers->Sat w' (H'.flatten++F)->ki w0 w'->PZ ch H'->ZZ (.panic ch) a' w'):
 ∀(l2 l1:List Nat),l=l1++l2->∀a w H,jl n (gI X val l1 Nf) a->a.defers=a0.defers->Sat w (H.flatten++F)->ki w0 w->Hs H->(∀i∈l1,φ i)->eK P ZZ Q (l2.map X) a w:=by
 intro l2
 induction l2 with
 |nil=>
  intro l1 hl a w H ha hd hs hk hh UY;rw[vd]at hl;subst hl;exact hq a w H ha hd hs hk hh UY
 |cons i l2 ih=>
  intro l1 hl a w H ha hd hs hk hh UY;have hi:i∈o:=hp.mem_iff.2 (by rw[hl];simp);obtain⟨p,q,ho⟩:=List.append_of_mem hi;have st:=pT p i q ho (gI X val l1 Nf) H (fun t ht v hv=>by
   rw[<- KV (val:=val) (Γ:=Nf) (by rw[<- ho,<- hl];exact hp) (by rw[<- hl];exact hn) (by rw[<- ho,<- hl];exact HN) ht];exact hv) hh
  have:=st [X i] (nP i (by rw[hl];simp)) a w F ZZ (eK P ZZ Q (l2.map X)) ha hs
   (fun a' w' aw H' ⟨k1,k2,k3⟩ g1 g2 g3 g4=>by
     subst k1;exact ih (l1++[i]) (by rw[hl];simp) a' w' H' (by rw[KU];exact g1) (g2.trans hd) g3 (hk.trans g4) k2 (fun j hj=>by
      rcases Q7.1 hj with h|h
      ·exact UY j h
      ·rw[QI.1 h];exact k3))
   (fun ch a' w' aw H' k g1 g2 g3 g4=>hz ch a' w' H' g1.size (g2.trans hd) g3 (hk.trans g4) k)
  exact this
def Y6:R->List Operand
 |.call _ xs=>xs
 |r=>iI r
def xL(r:RO):List Nat:=cC r.guard++cN (Y6 r.op)
def okR(r:RO):Bool:=kf r.op||jE r.op||(match r.op with|.call _ _=>true|_=>false)
def uL(P:Program)(n:Nat)(PZ:List PanicEntry->SH->Prop)(Hs:SH->Prop):List RO->Env->Prop->Prop
 |[],_,Φ=>¬Φ
 |r::rs,Δ,Φ=>okR r=true/\∃(v:Value) (φ:Prop),(∀Γ H,(∀t∈xL r,∀u,look Δ t=some u->look Γ t=some u)->Hs H->VO P n [r] Γ H (fun ch _ H'=>PZ ch H') (fun aw H'=>aw=ak r.dst v Γ/\Hs H'/\φ))/\
   uL P n PZ Hs rs (ak r.dst v Δ) (Φ/\φ)
theorem kJ {P:Program}{n:Nat}{PZ:List PanicEntry->SH->Prop}{Hs:SH->Prop}{r:RO}{rs:List RO}{Δ:Env}{Φ:Prop}{v:Value}(h2:uL P n PZ Hs rs (ak r.dst v Δ) (Φ/\True))(ok:okR r=true:=by rfl)
 (h1:∀Γ H,(∀t∈xL r,∀u,look Δ t=some u->look Γ t=some u)->Hs H->VO P n [r] Γ H (fun ch _ H'=>PZ ch H') (fun aw H'=>aw=ak r.dst v Γ/\Hs H'/\True):=by
   intro Γ H bp hH
   first
    |(subst hH
      first
       |exact yx (bp _ Zd _ rfl) rfl DO
       |exact zq (bp _ Zd _ rfl) DO
       |exact zL (bp _ Zd _ rfl) rfl DO
       |exact jI (bp _ Zd _ rfl) Zh DO
       |exact Kq (bp _ Zd _ rfl) (VO.nil ⟨rfl,rfl,trivial⟩)
       |exact cS (bp _ Zd _ rfl) rfl DO
       |exact eJ (bp _ Zd _ rfl) (bp _ Zd _ rfl) DO
       |exact zG (bp _ Zd _ rfl) (zL (bp _ Zd _ rfl) rfl DO)
       |exact zG (bp _ Zd _ rfl) (jI (bp _ Zd _ rfl) Zh DO))
    |(obtain⟨mz,hz⟩:=hH
      refine VO.imp hz ?_
      first
       |exact zq (bp _ Zd _ rfl) Zae
       |exact zL (bp _ Zd _ rfl) rfl Zae
       |exact zL (bp _ Zd _ rfl) Zo (VO.nil ⟨rfl,⟨mz,aj.refl _⟩,trivial⟩)
       |exact jI (bp _ Zd _ rfl) (by first|(exact Zh)|(exact Zm)) Zae
       |exact kS (bp _ Zd _ rfl) NR yR Zae
       |exact dh (bp _ Zd _ rfl) rfl Zo Zz (VO.nil ⟨rfl,⟨mz,aj.refl _⟩,trivial⟩)
       |exact mO (bp _ Zd _ rfl) rfl (l:=1) rfl Zo (VO.nil ⟨rfl,⟨mz,aj.refl _⟩,trivial⟩))):uL P n PZ Hs (r::rs) Δ Φ:=⟨ok,v,True,h1,h2⟩
theorem Ih {P:Program}{n:Nat}{x:RO×Oper}(hl:dJ P n ops x.2=some x.1)(aN:okR x.1=true):∀t∈xL x.1,t∈looks x:=by
 intro t ht;simp only[xL,looks,Q7]at ht|-;rcases ht with ht|ht
 ·exact .inl ht
 right;by_cases hq:(kf x.1.op||jE x.1.op)=true
 ·rw[if_pos hq];have:Y6 x.1.op=iI x.1.op:=by
   cases Lq:x.1.op <;> first|rfl|(rw[Lq]at hq;cases hq)
  rwa [this]at ht
 ·rw[if_neg hq];simp only[okR,hq,vK]at aN;cases Lq:x.1.op with
  |call f xs=>
   have g1:=(jG hl).1;rw[Lq]at g1;obtain⟨c,h1,h2,h3,h4⟩:=pZ g1;rw[Lq]at ht;simp only[Y6]at ht;rw[h1];simp only[Op.operands,Call.operands,Array.toList_append,h3,cN,List.filterMap_append,Q7];exact .inr ht
  |_=>rw[Lq]at aN;cases aN
theorem Hm {X:Nat->RO×Oper}{val val':Nat->Value}:∀{p:List Nat} {Γ:Env},(∀j∈p,val j=val' j)->gI X val p Γ=gI X val' p Γ:=by
 intro p
 induction p with
 |nil=>intro Γ _;rfl
 |cons j p ih=>intro Γ h;simp only[gI];rw[h j Zs];exact ih fun k hk=>h k (by simp[hk])
theorem Gj {P:Program}{n:Nat}{X:Nat->RO×Oper}{PZ:List PanicEntry->SH->Prop}{Hs:SH->Prop}:∀(o:List Nat) (Γ:Env) (Φ:Prop),o.Nodup->(∀i∈o,okR (X i).1=true->∀t∈xL (X i).1,t∈looks (X i))->uL P n PZ Hs (o.map fun i=>(X i).1) Γ Φ->
 ∃(val:Nat->Value) (φ:Nat->Prop),(∀p i q,o=p++i::q->XM P n X PZ Hs val φ i (gI X val p Γ))/\¬(Φ/\∀i∈o,φ i):=by
 intro o
 induction o with
 |nil=>intro Γ Φ _ _ h;exact⟨fun _=>undef,fun _=>True,fun p i q e=>by simp at e,fun hh=>h hh.1⟩
 |cons i o ih=>
  intro Γ Φ hn eA h;obtain⟨aN,v,φ0,h1,h2⟩:=h;have JX:=QL.1 hn;obtain⟨val,φ,g1,g2⟩:=ih _ _ JX.2 (fun j hj=>eA j (by simp[hj])) h2;refine⟨fun j=>if j=i then v else val j,fun j=>if j=i then φ0 else φ j,fun p j q e=>?_,fun hh=>g2 ⟨⟨hh.1,?_⟩,fun j hj=>?_⟩⟩
  ·cases p with
   |nil=>
    simp only[QJ,ve]at e;obtain⟨rfl,rfl⟩:=e;intro aw H hl hH;have:=h1 aw H (fun t ht=>hl t (eA i Zs aN t ht)) hH;simpa using this
   |cons k p=>
    simp only[vf,ve]at e;obtain⟨rfl,e⟩:=e;have hj:j∈o:=by rw[e];simp
    have JR:j≠i:=fun e2=>JX.1 (e2 ▸ hj)
    have st:=g1 p j q e;have hc:gI X (fun j=>if j=i then v else val j) p (ak (X i).1.dst v Γ)=gI X val p (ak (X i).1.dst v Γ):=Hm fun k hk=>by
     have sL:k∈o:=by rw[e];simp[hk]
     have hki:k≠i:=fun e2=>JX.1 (e2 ▸ sL)
     simp[hki]
    intro aw H hl hH;simp only[gI,if_pos]at hl;rw[hc]at hl;have:=st aw H hl hH;simpa[JR]using this
  ·have:=hh.2 i Zs;simpa using this
  ·have h3:=hh.2 j (by simp[hj]);have JR:j≠i:=fun e2=>JX.1 (e2 ▸ hj)
   simpa[JR]using h3
end
theorem VC.u5 {P:Program}{n:Nat}{Γ:Env}{H:SH}{Q:Exit->Env->SH->Prop}{ri:List (List RO)}{aP:List Nat}(PZ:List PanicEntry->SH->Prop)(Hs:SH->Prop)(h0:Hs H)
 (h:∀rs∈ri,uL P n PZ Hs rs Γ True) (hz:∀ch H',PZ ch H'->Q (.panic ch) [] H'):VC P n (.draw ri aP) Γ H Q:=by
 intro ρ kp od code hl a w F QQ hr ha hs hh;obtain⟨id,ops,rs,rfl,h1,hm,hc,rfl,rfl⟩:=jV hl;have hlen:=(ji h1).1;refine wpIn_region_draw (fun t=>?_);have oP:Region.schedule (P.follows .mixedOrders) ops t=jX ops ops.size t (Array.replicate ops.size false):=by simp[Region.schedule,hm,Region.linearise,jX]
 rw[oP];obtain⟨both,Hz⟩:∃both,eT both (rs.zip ops.toList) ops (od id)=true:=by
  unfold oF at hc;rcases vP.1 hc with hc|hc
  ·exact⟨_,hc⟩
  ·exact⟨_,hc⟩
 obtain⟨o,Nn,hp,hn,aI,HN⟩:=Ze Hz t;have hX:∀i,i < ops.size->ops[i]? =some ((rs.zip ops.toList).getD i default).2/\((rs.zip ops.toList).getD i default).1=rs.getD i default/\dJ P n ops ((rs.zip ops.toList).getD i default).2=some ((rs.zip ops.toList).getD i default).1:=fun i hi=>wY h1 hi
 have oN:∀i∈jX ops ops.size t (Array.replicate ops.size false),i < ops.size:=fun i hi=>aI i (hp.mem_iff.2 hi)
 refine eM (P:=P) (ρ:=ρ) (n:=n) (ops:=ops) (X:=fun i=>(rs.zip ops.toList).getD i default) (QQ:=QQ) (fun i hi=>⟨(hX i hi).1,(hX i hi).2.2⟩) _ a _ oN ?_;have DF:=h (o.map fun i=>rs.getD i default) (QE.2 ⟨o,Nn,rfl⟩);have CM:(o.map fun i=>rs.getD i default)=o.map fun i=>((rs.zip ops.toList).getD i default).1:=Q1 fun i hi=>(hX i (aI i hi)).2.1.symm
 rw[CM]at DF;obtain⟨val,φ,g1,g2⟩:=Gj (X:=fun i=>(rs.zip ops.toList).getD i default) o Γ True (hp.nodup_iff.2 hn) (fun i hi aN=>Ih (hX i (aI i hi)).2.2 aN) DF;refine Xh (X:=fun i=>(rs.zip ops.toList).getD i default) (l:=jX ops ops.size t (Array.replicate ops.size false)) (val:=val) (φ:=φ) (Nf:=Γ) (a0:=a) (w0:={w with drawn:=w.drawn+1}) (F:=F) hp hn HN (fun i hi=>⟨rfl,fun x hx=>by rw[QI.1 hx];exact⟨ops,(hX i (oN i hi)).2.2⟩⟩) g1 ?_ ?_ _ [] rfl a _ H ha rfl (hs.drawn _) (.refl _) h0 (fun i hi=>by cases hi)
 ·intro a' w' H' _ _ _ _ _ ap;exact absurd ⟨trivial,fun i hi=>ap i (hp.mem_iff.1 hi)⟩ g2
 ·intro ch a' w' H' k1 k2 k3 k4 k5;exact hh (.panic ch) a' w' [] H' [] (hz ch H' k5) ⟨k1,fun t v e=>by cases e⟩ k2 k3.bV (((ki.refl w).drawn _).trans k4)
end Go.V
namespace Go.Proofs.YtijnokbblmbpkaaGreatDoor
open Go Go.V
set_option maxHeartbeats 3200000
set_option maxRecDepth 100000
theorem xh(A:List kB)(x:Nd)(vs:List Value)(h:j7 A x vs)(hn:z9 A x vs)(aQ:ByteArray)(bK:aQ.size<=140737488355328)(lb:Nat)(m0 deep:Bool):yV 203 [kE lb,.agg vs.toArray,.string aQ] A lb m0 deep (ze x aQ (kN x)):=by
 have hv:=zb A x vs h hn (qj aQ) lb m0 deep;have aU:=hn.1 lb m0 deep;obtain⟨c2,c3,c4,c5,c6,c7,c8,c9,D4,rfl,gh,hk⟩:=ui h;have Lu:jh x=iR x.kind x.name:=rfl;have Ψ:=yH x.kind x.name c2 c3 c4 c5 c6 c7 c8 c9 D4;refine jb.intro low203 (by simp[n203]) ?_;unfold ze;rw[Lu];refine ae ?_;refine kW Zr (fun q=>?_);simp only[Value.cells];refine ae ?_;refine kQ Ψ Zr ?_;cases hs:iR x.kind x.name with
 |true=>
  rw[if_pos rfl];refine ae ?_;refine kK aU Zr ZP (fun v Post hv=>?_) (fun ch Post hz=>?_);rotate_left
  ·obtain⟨hb,rfl,m2,rfl⟩:=hz;exact⟨[A,aV lb m2 deep],ZI,hb,rfl,m2,rfl⟩
  exact zCY
 |false=>
  rw[if_neg Zs];refine ae ?_;generalize jm x (qj aQ) (kN x)=r at hv|-;cases r with
  |some dm=>
   obtain⟨d,m2⟩:=dm;have hvf:jb Tryz.prog 170 [kE lb,.agg #[cv x.kind,.string x.name,c2,c3,c4,c5,c6,c7,c8,c9,D4],vi (qj aQ)] [A,aV lb m0 deep] (fun v Post=>v=vi d/\Post=[A,aV lb (m0||m2) deep]) (fun _ _=>False):=
    jb.mono hv (fun v Post ⟨d',m',e,h1,h2⟩=>by cases e;exact⟨h1,h2⟩) (fun ch Post hz=>by cases hz.1)
   refine VC.seq (VC.draws ⟨?_,?_,trivial⟩)
   ·exact zBU
   ·exact zBU
  |none=>
   have hvz:jb Tryz.prog 170 [kE lb,.agg #[cv x.kind,.string x.name,c2,c3,c4,c5,c6,c7,c8,c9,D4],vi (qj aQ)] [A,aV lb m0 deep] (fun v Post=>False) (fun ch Post=>ch=wG/\∃m,Post=[A,aV lb m deep]):=
    jb.mono hv (fun v Post ⟨d',m',e,_⟩=>by cases e) (fun ch Post hz=>hz.2)
   refine VC.seq (VC.u5 (fun ch H'=>ch=wG/\∃m,aj H' [A,aV lb m deep]) (fun H'=>H'=[kA q 0 [cv x.kind,.string x.name,c2,c3,c4,c5,c6,c7,c8,c9,D4],A,aV lb m0 deep]) rfl ?_ (fun ch H' hp=>?_))
   ·intro rs dC;rcases Q9.1 dC with rfl|dC
    ·skip
     refine kJ ?_;refine⟨rfl,.agg #[cv x.kind,.string x.name,c2,c3,c4,c5,c6,c7,c8,c9,D4],True,fun Γ H bp hH=>?_,?_⟩
     ·subst hH;exact zQ (bp 4 Zd _ rfl) SZ DO
     refine kJ ?_;refine⟨rfl,vi (qj aQ),True,fun Γ H bp hH=>?_,?_⟩
     ·subst hH;exact kQ (gq aQ bK) (by simp only[V.gN,V.ev,bp 14 Zd _ rfl]) DO
     exact zBN
    rcases Q9.1 dC with rfl|dC
    ·skip
     refine kJ ?_;refine kJ ?_;refine⟨rfl,vi (qj aQ),True,fun Γ H bp hH=>?_,?_⟩
     ·subst hH;exact kQ (gq aQ bK) (by simp only[V.gN,V.ev,bp 14 Zd _ rfl]) DO
     refine⟨rfl,.agg #[cv x.kind,.string x.name,c2,c3,c4,c5,c6,c7,c8,c9,D4],True,fun Γ H bp hH=>?_,?_⟩
     ·subst hH;exact zQ (bp 4 Zd _ rfl) SZ DO
     exact zBN
    ·cases dC
   ·obtain⟨rfl,m,hi⟩:=hp;exact⟨_,hi,rfl,rfl,m,rfl⟩
end Go.Proofs.YtijnokbblmbpkaaGreatDoor
namespace Go.V
open Go
section
variable {P:Program} {n:Nat} {rs:List RO} {Γ:Env} {H:SH} {Z:List PanicEntry->Env->SH->Prop} {K:Env->SH->Prop} {d:Option Nat}
theorem Dq {x y:Operand}{a b:Nat}(hx:ev Γ x=some (vi a))(hy:ev Γ y=some (vi b))(h:VO P n rs (ak d (vi (max a b:Nat)) Γ) H Z K):
 VO P n (⟨d,none,.max2 x y⟩::rs) Γ H Z K:=by
 refine VO.pure rfl (v:=vi (max a b:Nat)) (fun ρ aG=>?_) h;have e:(if(b:Int) > (a:Int)then(b:Int)else(a:Int))=((max a b:Nat):Int):=by split <;> omega
 simp only[kR,aG _ _ hx,aG _ _ hy,vi,e]
theorem st_eqI {x y:Operand}{k:IntKind}{a b:Int}{t:Bool}(hx:ev Γ x=some (.int k a))(hy:ev Γ y=some (.int k b))(ht:decide (a=b)=t)(h:VO P n rs (ak d (.bool t) Γ) H Z K):
 VO P n (⟨d,none,.bin .eql x y⟩::rs) Γ H Z K:=
 VO.pure rfl (v:=.bool t) (fun ρ aG=>by subst ht;simp[kR,aG _ _ hx,aG _ _ hy,zF,mh]) h
theorem Sh {x y:Operand}{k:IntKind}{a b:Int}{t:Bool}(hx:ev Γ x=some (.int k a))(hy:ev Γ y=some (.int k b))(ht:decide (a<=b)=t)(h:VO P n rs (ak d (.bool t) Γ) H Z K):
 VO P n (⟨d,none,.bin .leq x y⟩::rs) Γ H Z K:=
 VO.pure rfl (v:=.bool t) (fun ρ aG=>by subst ht;simp[kR,aG _ _ hx,aG _ _ hy,zF,mh]) h
theorem Kq {x:Operand}{a:Option Addr}{m c:Nat}(hx:ev Γ x=some (.slice a m c))(h:VO P n rs (ak d (vi m) Γ) H Z K):
 VO P n (⟨d,none,.EW x⟩::rs) Γ H Z K:=
 VO.pure rfl (v:=vi m) (fun ρ aG=>by simp[kR,aG _ _ hx,vi]) h
end
end Go.V
namespace Go.Proofs.YtijnokbblmbpkaaGreatDoor
open Go Go.V
set_option maxHeartbeats 3200000
set_option maxRecDepth 100000
theorem zv {A:List kB}{y:Nd}{vs:List Value}(h:j7 A y vs):∃(e1:Nat) (e2:Int) (e3:Nat) (e4:ByteArray) (e5:Option Addr) (e6 e7:Nat) (e8:Option Addr) (e9 u7:Nat) (u9:Option Addr) (xd xe:Nat) (Ee:Option Addr) (Ef Eg:Nat) (Oh:Int),
 vs=(rA y.kind y.name e1 e2 e3 e4 e5 e6 e7 e8 e9 u7 u9 xd xe Ee Ef Eg Oh)/\y.name.size<=140737488355328/\y.kind < 256:=by
 cases h with
 |mk wf hl bB bu ha hm hr=>
  obtain⟨_,_,rfl,_⟩:=bB;obtain⟨_,_,rfl,_⟩:=bu;cases hl with
  |mk Nw GL pC ez=>exact⟨_,_,_,_,_,_,_,_,_,_,_,_,_,_,_,_,_,rfl,wf.name,wf.kind⟩
structure zh (A:List kB)(l:List Nd)(a:Option Addr)(bk o:Nat)(us:Nat->List Value):Prop where
 at_:0 < l.length->a=some ⟨bk,o,none⟩
 many:l.length<=140737488355328
 mem:∀i,i < l.length->∀y∈kA bk (o+i*11) (us i),y∈A
 rd:∀i x,l[i]? =some x->j7 A x (us i)
 ok:∀i x,l[i]? =some x->z9 A x (us i)
theorem lI(A:List kB)(l:List Nd)(a:Option Addr)(c bk o:Nat)(us:Nat->List Value)(hk:zh A l a bk o us)(aQ:ByteArray)(bK:aQ.size<=140737488355328)(lb:Nat)(m0 deep:Bool):
 yV 204 [kE lb,.string aQ,.slice a l.length c] A lb m0 deep (gE aQ l (l.map kN)):=by
 refine jb.intro low204 (by simp[n204]) ?_;unfold Go.V.gE;rw[mQ];obtain⟨RR,bU⟩:∃RR,RR=kP (decide (jA aQ=l.length)) (wy (decide (15 < jA aQ)) (wZ (l.map fun x=>jm x (tk aQ) (kN x)))):=⟨_,rfl⟩;rw[<- bU];have bL:=hk.many;refine ae ?_;refine kQ (eR aQ bK) Zr ?_;refine ae ?_;by_cases iv:jA aQ=(l.length:Int);rotate_left
 ·have aA:RR=none:=by simp[bU,kP,iv]
  rw[Zf iv];exact AA
 have re:RR=wy (decide (15 < jA aQ)) (wZ (l.map fun x=>jm x (tk aQ) (kN x))):=by simp[bU,kP,iv]
 rw[Zt iv];refine ae ?_;refine kK (j9 true) Zr ZP (fun v Post hv=>?_) GJ;obtain⟨_,rfl,rfl⟩:=hv;simp only[QJ];refine ae ?_;obtain⟨Wc,UG⟩:∃Wc,Wc=m0:=⟨_,rfl⟩;cases m0 with
 |true=>
  obtain⟨mB,JV⟩:∃b,b=(true||decide (15 < jA aQ)):=⟨_,rfl⟩;have EJ:mB=true:=by rw[JV,Bool.true_or]
  exact zA2
 |false=>
  obtain⟨mB,JV⟩:∃b,b=(false||decide (15 < jA aQ)):=⟨_,rfl⟩;have EJ:mB=decide (jA aQ > 15):=by rw[JV,vK]
  exact zA2
theorem lp(A:List kB)(l:List Nd)(a:Option Addr)(c bk o:Nat)(us:Nat->List Value)(hk:zh A l a bk o us)(lb:Nat)(m0 deep:Bool):
 yV 107 [kE lb,.slice a l.length c] A lb m0 deep (wZ (wP l (l.map kN))):=by
 refine jb.intro low107 (by simp[n107]) ?_;have bL:=hk.many;refine ae ?_;refine VC.loop (α:=Nat×Nat×Bool) (aW:=fun s=>[(0,kE lb),(1,.slice a l.length c),(5,vi s.2.1),(8,.slice a l.length c),(9,vi l.length),(10,vi s.1)]) (Hf:=fun s=>[A,aV lb (m0||s.2.2) deep])
  (I:=fun s=>s.1<=l.length/\wZ ((wP l (l.map kN)).take s.1)=some (s.2.1,s.2.2)) (μ:=fun s=>l.length - s.1) (0,0,false) ⟨Qs _,rfl⟩ ZU (by show aj _ [A,aV lb (m0||false) deep];rw[vQ];exact bE) ?_
 rintro⟨j,d,mm⟩ ⟨i1,i2⟩
 simp only at i1 i2;dsimp only;refine ae ?_;by_cases hj:j < l.length;rotate_left
 ·rw[show decide ((j:Int) < (l.length:Int))=false from Zf Zo];rw[Qc (by rw[pu];omega)]at i2;refine ae ?_;refine jJ (kG (Post:=[A,aV lb (m0||mm) deep]) (.inr rfl) (.tmp Zr .nil) ⟨d,mm,i2,rfl,rfl⟩ ZI)
 obtain rfl:=hk.at_ Zo;rw[show decide ((j:Int) < (l.length:Int))=true from Zt Zo];obtain⟨y,hy⟩:∃y,l[j]? =some y:=⟨_,Zg hj⟩;have dD:=hk.rd j y hy;have lh:=hk.mem j hj;have aC:=po l j y hy;have aN:=hk.ok j y hy;generalize us j=uj at dD lh aN;obtain⟨e1,e2,e3,e4,e5,e6,e7,e8,e9,u7,u9,xd,xe,Ee,Ef,Eg,Oh,rfl,gh,iy⟩:=zv dD;refine ae ?_;refine kS Zr NR rfl ?_;refine ae ?_;refine kM (fun q=>?_);refine ae ?_;by_cases h9:y.kind=9
 ·rw[show decide ((y.kind:Int)=9)=true from Zt Zo];refine ae ?_;by_cases hl:j+1=l.length
  ·rw[show decide ((j:Int)=(l.length:Int) - 1)=true from Zt Zo];rw[if_pos ⟨h9,hl⟩]at aC;have hv:=aN.1 lb (m0||mm) deep;exact zAK
  ·rw[show decide ((j:Int)=(l.length:Int) - 1)=false from Zf Zo];rw[if_neg (fun h=>hl h.2)]at aC;have hv:=zb A y _ dD aN 1 lb (m0||mm) deep;exact zAK
 ·rw[show decide ((y.kind:Int)=9)=false from Zf Zo];rw[if_neg (fun h=>h9 h.1)]at aC;have hv:=zb A y _ dD aN 1 lb (m0||mm) deep;exact zAK
end Go.Proofs.YtijnokbblmbpkaaGreatDoor
namespace Go.V
open Go
theorem jW {R G:Prop}(r:R)(h:Jl R->G:=by
 intro later
 (repeat (first
   |(first
   |(apply zG;rfl)
   |(apply Ds;rfl;rfl;omega;omega;exact Zi;exact Zi;(first|assumption|((try simp only[Nat.reducePow]);rfl));rfl)
   |(apply Dr;rfl;rfl;omega;omega;exact Zi;exact Zi;(first|assumption|((try simp only[Nat.reducePow]);rfl));rfl)
   |(apply Dp;rfl;rfl;exact Zl;exact Zl;exact Zi;exact Zi;(first|exact Tw _|exact Tx _|exact Jr _|rfl))
   |(apply Ks;rfl;rfl;exact Zl;exact Zl;exact Zi;exact Zi;rfl)
   |(apply uz;rfl;rfl;exact Zl;exact Zl;exact Zi;exact Zi)
   |(apply uC;rfl;rfl;omega;omega;exact Zi;exact Zi)
   |(apply uy;rfl;rfl;omega;omega;omega;exact Zi;exact Zi)
   |(apply qM;rfl;(first|exact GA Zo|exact fA Zo|exact mR Zo))
   |(apply uA;rfl;rfl;omega;omega;exact Zi;exact Zi)
   |(apply uB;rfl;rfl;omega;omega;exact Zi;exact Zi)
   |(apply yx;rfl;rfl)
   |(apply Cb;rfl)
   |(apply zq;rfl)
   |(apply yz;rfl)
   |(apply eJ;rfl;rfl)
   |(apply cS;rfl;rfl)
   |(apply zL;rfl;exact Zz)
   |(apply jI;rfl;exact Zh)
   |(apply jI;rfl;exact Zm)
   |(apply zQ;rfl;exact SZ)
   |(apply qO;rfl;rfl)
   |(apply yw;rfl;rfl)
   |(apply yq;rfl;rfl;omega)
   |(apply yF;rfl;rfl;omega)
   |(apply yy;rfl;rfl;omega)
   |(apply yE;rfl;rfl;decide)
   |(apply dh;rfl;rfl;omega;exact Zz)
   |(apply qP;rfl;rfl;omega;exact Zz)
   |(apply mN;rfl;(focus (simp only[Nt,Value.cells,Qr,Nat.reduceEqDiff,↓reduceIte,eq_self,Nat.reduceAdd,Nat.reduceSub,Qp,Nat.reduceLeDiff,Qj,and_self,rep,kX] <;> rfl)))
   |(apply jk;rfl;rfl;(focus (simp only[Nt,Value.cells,Qr,Nat.reduceEqDiff,↓reduceIte,eq_self,Nat.reduceAdd,Nat.reduceSub,Qp,Nat.reduceLeDiff,Qj,and_self,rep,kX] <;> rfl));rfl;rfl;exact Zac)
   |(apply iO;rfl;rfl;rfl))
    |(refine VO.nil ?_;simp only[V.aB,V.aJ,V.look,V.ak,V.bt,V.bb,Qr,Nat.reduceAdd,Nat.reduceEqDiff,↓reduceIte,eq_self])
    |refine VC.qI ?_
    |refine VC.hO ?_
    |refine VC.hK ?_
    |refine VC.mJ ?_
    |refine VC.lE ?_
    |refine VC.uZ ?_
    |refine VC.block ?_
    |(refine VC.skip ?_;try simp only[V.aB,V.aJ,V.look,V.ak,V.bt,V.bb,Qr,Nat.reduceAdd,Nat.reduceEqDiff,↓reduceIte,eq_self])
    |(refine VC.exit ?_;try simp only[V.aB,V.aJ,V.look,V.ak,V.bt,V.bb,Qr,Nat.reduceAdd,Nat.reduceEqDiff,↓reduceIte,eq_self])
    |(refine VC.ret ?_;try simp only[V.bt,V.bb])
    |(apply VC.fu;rfl)
    |(apply VC.ft;rfl)
    |(apply VC.oE;rfl)
    |(apply VC.oD;rfl)))
 exact later.out):G:=h ⟨r⟩
end Go.V
namespace Go.Proofs.YtijnokbblmbpkaaGreatDoor
open Go Go.V
set_option maxHeartbeats 3200000
set_option maxRecDepth 100000
theorem P6 {A:List kB}{y:Nd}{vs:List Value}(h:j7 A y vs):∃(e1:Nat) (e2:Int) (e3:Nat) (e4:ByteArray) (e5:Option Addr) (e6 e7:Nat) (e8:Option Addr) (e9 u7:Nat) (u9:Option Addr) (xd xe:Nat) (Ee:Option Addr) (Ef Eg:Nat),
 vs=(rA y.kind y.name e1 e2 e3 e4 e5 e6 e7 e8 e9 u7 u9 xd xe Ee Ef Eg y.at_):=by
 exact zCI
structure wo where
 d:Nat
 mm:Bool
 name:ByteArray
 lk:Nat
 ln:Int
 lb:Nat
 lt:ByteArray
 la:Option Addr
 li:Nat
 lc:Nat
 aa:Option Addr
 an:Nat
 ac:Nat
 ta:Option Addr
 tn:Nat
 tc:Nat
def wo.ok(s:wo):Prop:=s.name.size=0/\s.an=0/\s.tn=0/\s.lk=0/\s.ln=0/\s.lb=0/\s.lt.size=0/\s.li=0
instance nodeSDec (s:wo):Decidable s.ok:=by unfold wo.ok;infer_instance
abbrev wo.cells (s:wo)(k:Nat)(p:Int):List Value:=(rA k s.name s.lk s.ln s.lb s.lt s.la s.li s.lc s.aa s.an s.ac s.ta s.tn s.tc none 0 0 p)
noncomputable def nodeSw:IC:=match NH.body with
 |.seq _ (.seq _ (.seq _ (.seq _ (.seq x _))))=>x
 |_=>.skip
def eN(A:List kB)(x:Nd)(vs:List Value):Prop:=∀(lb q r:Nat) (m0 deep:Bool),
 VC Tryz.prog NH.n nodeSw [(0,kE lb),(3,kE q),(5,kE r),(6,vi 0)] [kA r 0 (vs.set 9 Nz),kA q 0 vs,A,aV lb m0 deep]
  (bt (fun aw H'=>∃s:wo,(kN x=if s.ok then some (s.d,s.mm)else none)/\V.Sub aw [(5,kE r),(6,vi s.d)]/\aj H' [A,aV lb (m0||s.mm) deep,kA r 0 (s.cells x.kind x.at_)])
    (Ud NH.bG (LkQ A lb m0 deep (kN x)) (LkZ A lb deep (kN x))))
theorem Wz(A:List kB)(x:Nd)(vs:List Value)(h:j7 A x vs)(hs:eN A x vs)(lb:Nat)(m0 deep:Bool):yV 169 [kE lb,.agg vs.toArray] A lb m0 deep (kN x):=by
 have hsw:=hs lb;obtain⟨e1,e2,e3,e4,e5,e6,e7,e8,e9,u7,u9,xd,xe,Ee,Ef,Eg,rfl⟩:=P6 h;refine jb.intro low169 (by simp[n169]) ?_;refine jW ?_;refine kW Zr (fun q=>?_);simp only[Value.cells];refine jW ?_;refine kM (fun r=>?_);refine jW ?_;refine VC.join (α:=wo) (fun s=>[(5,kE r),(6,vi s.d)]) (fun s=>[A,aV lb (m0||s.mm) deep,kA r 0 (s.cells x.kind x.at_)])
  (fun s=>kN x=if s.ok then some (s.d,s.mm)else none) ?_ ?_
 ·exact hsw q r m0 deep
 ·rintro⟨d,mm,name,lk,ln,aX,lt,la,li,lc,aa,an,ac,ta,tn,tc⟩ hR
  simp only at hR;rw[hR];unfold wo.ok;simp only;refine jW ?_;refine kM (fun q2=>?_);refine jW ?_;by_cases h1:name=⟨#[]⟩;rotate_left
  ·have bQ:¬(name.size=0/\an=0/\tn=0/\lk=0/\ln=0/\aX=0/\lt.size=0/\li=0):=fun h=>h1 (ByteArray.ext (v6 h.1))
   rw[Zf h1];exact Nx
  rw[Zt h1];refine jW ?_;by_cases h2:an=0;rotate_left
  ·have bQ:¬(name.size=0/\an=0/\tn=0/\lk=0/\ln=0/\aX=0/\lt.size=0/\li=0):=fun h=>h2 h.2.1
   rw[show decide ((an:Int)=0)=false from Zf Zo];exact Nx
  rw[show decide ((an:Int)=0)=true from Zt Zo];refine jW ?_;by_cases h3:tn=0;rotate_left
  ·have bQ:¬(name.size=0/\an=0/\tn=0/\lk=0/\ln=0/\aX=0/\lt.size=0/\li=0):=fun h=>h3 h.2.2.1
   rw[show decide ((tn:Int)=0)=false from Zf Zo];exact Nx
  rw[show decide ((tn:Int)=0)=true from Zt Zo];refine jW ?_;by_cases h4:lk=0;rotate_left
  ·have bQ:¬(name.size=0/\an=0/\tn=0/\lk=0/\ln=0/\aX=0/\lt.size=0/\li=0):=fun h=>h4 h.2.2.2.1
   rw[show decide ((lk:Int)=0)=false from Zf Zo];exact Nx
  rw[show decide ((lk:Int)=0)=true from Zt Zo];refine jW ?_;by_cases h5:ln=0;rotate_left
  ·have bQ:¬(name.size=0/\an=0/\tn=0/\lk=0/\ln=0/\aX=0/\lt.size=0/\li=0):=fun h=>h5 h.2.2.2.2.1
   rw[Zf h5];exact Nx
  rw[Zt h5];refine jW ?_;by_cases h6:aX=0;rotate_left
  ·have bQ:¬(name.size=0/\an=0/\tn=0/\lk=0/\ln=0/\aX=0/\lt.size=0/\li=0):=fun h=>h6 h.2.2.2.2.2.1
   rw[show decide ((aX:Int)=0)=false from Zf Zo];exact Nx
  rw[show decide ((aX:Int)=0)=true from Zt Zo];refine jW ?_;by_cases h7:lt=⟨#[]⟩;rotate_left
  ·have bQ:¬(name.size=0/\an=0/\tn=0/\lk=0/\ln=0/\aX=0/\lt.size=0/\li=0):=fun h=>h7 (ByteArray.ext (v6 h.2.2.2.2.2.2.1))
   rw[Zf h7];exact Nx
  rw[Zt h7];refine jW ?_;by_cases h8:li=0;rotate_left
  ·have bQ:¬(name.size=0/\an=0/\tn=0/\lk=0/\ln=0/\aX=0/\lt.size=0/\li=0):=fun h=>h8 h.2.2.2.2.2.2.2
   rw[show decide ((li:Int)=0)=false from Zf Zo];exact Nx
  rw[show decide ((li:Int)=0)=true from Zt Zo];refine jW ?_;refine kK (j9 true) Zr ZP (fun v Post hv=>?_) GJ;obtain⟨_,rfl,rfl⟩:=hv;simp only[QJ];refine jW ?_;exact jJ (kG (Post:=[A,aV lb (m0||mm) deep]) (.inr rfl) (.tmp Zr .nil) ⟨d,mm,if_pos ⟨by rw[h1];rfl,h2,h3,h4,h5,h6,by rw[h7];rfl,h8⟩,rfl,rfl⟩ ZI)
end Go.Proofs.YtijnokbblmbpkaaGreatDoor
