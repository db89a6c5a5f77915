/-
  Looks: must, names.
-/
import Derived.Test.YtijnokbblmbpkaaGreatDoorS10
import Derived.Test.YtijnokbblmbpkaaGreatDoorS11
import Derived.Test.YtijnokbblmbpkaaGreatDoorS6
import Derived.ChangeOld
import Derived.RowKit3
import Derived.ChangeSame
import Derived.ChangeSlices
import Derived.RowKit
import Derived.Test.YtijnokbblmbpkaaGreatDoorS7
import Derived.Deep.Slices
import Derived.Deep.Fields
set_option linter.unusedSimpArgs false
set_option linter.unusedVariables false
namespace Go.Proofs.YtijnokbblmbpkaaGreatDoor
open Go Go.V
set_option maxHeartbeats 3200000
set_option maxRecDepth 100000
def wrongV:Value:=.iface 262 (.agg #[vi 150])
def w9:List PanicEntry:=[{v:=wrongV,recovered:=false}]
theorem kw(b:Bool):jY Tryz.prog 104 [.bool b] [] (fun v Post=>b=true/\v=.tuple #[]/\Post=[]) (fun ch Post=>b=false/\ch=w9/\Post=[]):=by
 refine jY.intro low104 (by simp[n104]) ?_;cases b with
 |true=>
  refine GOH ?_;exact jI (kG (Post:=[]) (.inl rfl) .nil ⟨by trivial,rfl,rfl⟩ ZI)
 |false=>
  refine GOH ?_;refine st_pnc Zr ?_;exact⟨[],Imp.nil,by trivial,rfl,rfl⟩
theorem free_spec(s:ByteArray)(hs:s.size<=140737488355328):Fun Tryz.prog 168 [.string s] [] (fun v Post=>v=.bool (wD s)/\Post=[]):=by
 refine Fun.intro low168 (by simp[n168]) ?_;have hin:∀t:ByteArray,kF t∈takenL->s=t->wD s=false:=fun t ht e=>by
  subst e;have:takenL.contains (kF s)=true:=vg.2 ht;unfold wD;rw[this];rfl
 refine GOH ?_;by_cases h1:s=⟨#[115,101,108,102]⟩
 ·have hf:=hin _ Zd h1;rw[Zt h1];exact zB0
 rw[Zf h1];refine GOH ?_;by_cases h2:s=⟨#[115,117,112,101,114]⟩
 ·have hf:=hin _ Zd h2;rw[Zt h2];exact zB0
 rw[Zf h2];refine GOH ?_;by_cases h3:s=⟨#[110,105,108]⟩
 ·have hf:=hin _ Zd h3;rw[Zt h3];exact zB0
 rw[Zf h3];refine GOH ?_;by_cases h4:s=⟨#[116,114,117,101]⟩
 ·have hf:=hin _ Zd h4;rw[Zt h4];exact zB0
 rw[Zf h4];refine GOH ?_;by_cases h5:s=⟨#[102,97,108,115,101]⟩
 ·have hf:=hin _ Zd h5;rw[Zt h5];exact zB0
 rw[Zf h5];have hno:takenL.contains (kF s)=false:=by
  rw[Bool.eq_false_iff];intro h;rw[vg]at h;simp only[takenL,Q4,List.not_mem_nil,or_false]at h;rcases h with h|h|h|h|h
  ·exact h1 (jX (by rw[h];rfl))
  ·exact h2 (jX (by rw[h];rfl))
  ·exact h3 (jX (by rw[h];rfl))
  ·exact h4 (jX (by rw[h];rfl))
  ·exact h5 (jX (by rw[h];rfl))
 have hf:wD s=nameS s:=by unfold wD;rw[hno];rfl
 refine GOH ?_;refine kV (name_spec s hs) Zr ?_;exact zB0
theorem names1_spec(s:ByteArray)(hs:s.size<=140737488355328):Fun Tryz.prog 167 [.string s] [] (fun v Post=>v=.bool (!wD s)/\Post=[]):=by
 refine Fun.intro low167 (by simp[n167]) ?_;refine GOH ?_;refine kV (free_spec s hs) Zr ?_;refine GOH ?_;refine kG (Post:=[]) (.inr rfl) (.tmp Zr .nil) ⟨rfl,rfl⟩ ZI
theorem indexFunc_spec(B:List kC)(v:Value)(l:List ByteArray)(h:RdT B v l):Fun Tryz.prog 166 [v,.func (.func 167) #[] #[]] [B] (fun u Post=>u=.bool (!l.all wD)/\Post=[B]):=by
 obtain⟨a,c,rfl,hl,hr⟩:=h;have hi:Fun Tryz.prog 201 [.slice a l.length c,.func (.func 167) #[] #[]] [B] (fun u Post=>(∃i:Int,u=vi i/\decide (0<=i)=!l.all wD)/\Post=[B]):=by
  refine Fun.intro low201 (by simp[n201]) ?_;refine GOH ?_;refine VC.loop (α:=Nat) (Γf:=fun k=>[(0,.slice a l.length c),(1,.func (.func 167) #[] #[]),(7,vi l.length),(8,vi k)]) (Hf:=fun _=>[B]) (I:=fun k=>k<=l.length/\(l.take k).all wD=true) (μ:=fun k=>l.length - k) 0 ⟨Qf _,rfl⟩ ZU (Imp.refl _) ?_
  rintro k ⟨i1,i2⟩
  refine GOH ?_;by_cases hk:k < l.length;rotate_left
  ·rw[Zf (show ¬(k:Int) < (l.length:Int) by omega)];have:l.take k=l:=QR Zo;rw[this]at i2;refine GOH ?_;refine kG (Post:=[B]) (.inr rfl) (.tmp Zr .nil) ⟨⟨-1,rfl,by rw[i2];rfl⟩,rfl⟩ ZI
  rw[Zt (show(k:Int) < (l.length:Int) by omega)];have hk2:l[k]? =some l[k]:=Zg hk;obtain⟨b,o,rfl,hm,hsz⟩:=hr k _ hk2;have ht:(l.take (k+1)).all wD=wD l[k]:=by
   rw[QO,hk2,List.all_append,i2];simp
  have hrest:wD l[k]=false->l.all wD=false:=fun hf=>by
   rw[<- QP (k+1) l,List.all_append,ht,hf,vH]
  generalize l[k]=t at*;have hfv:FunV Tryz.prog (.func (.func 167) #[] #[]) [.string t] [] (fun v Post=>v=.bool (!wD t)/\Post=[]):=FunV.of_fun (names1_spec t hsz);refine GOH ?_;refine st_callV Zr hfv Zr ZP (fun v Post hv=>?_);obtain⟨rfl,rfl⟩:=hv;simp only[QD];cases hf:wD t with
  |true=>
   refine GOH ?_;exact⟨k+1,⟨Zo,by rw[ht,hf]⟩,Zo,ZU,ZI⟩
  |false=>
   refine GOH ?_;refine kG (Post:=[B]) (.inr rfl) (.tmp Zr .nil) ⟨⟨k,rfl,by rw[hrest hf];simp⟩,rfl⟩ ZI
 refine Fun.intro low166 (by simp[n166]) ?_;refine GOH ?_;refine kM hi Zr ZP (fun v Post hv=>?_);obtain⟨⟨i,rfl,h⟩,rfl⟩:=hv;simp only[CNx];refine GOH ?_;refine kG (Post:=[B]) (.inr rfl) (.tmp Zr .nil) ⟨by rw[<- h];rfl,rfl⟩ ZI
end Go.Proofs.YtijnokbblmbpkaaGreatDoor
namespace Go.V
open Go
theorem holds_loc {w:World}{a b:kC}(ha:a.holds w)(hb:b.holds w)(h:a.loc=b.loc):a=b:=by
 cases a with
 |cell i k v=>
  cases b with
  |cell j l u=>
   simp only[kC.loc,Qp,Qo]at h;obtain⟨rfl,rfl⟩:=h;obtain⟨c,t,lo,hi,h1,h2,_⟩:=ha;obtain⟨c',t',lo',hi',h3,h4,_⟩:=hb;rw[h1]at h3;cases h3;rw[h2]at h4;cases h4;rfl
  |obj j o=>simp[kC.loc]at h
  |row j n=>simp[kC.loc]at h
  |own j n=>
   simp only[kC.loc,Qp,Qo]at h;obtain⟨rfl,rfl⟩:=h;obtain⟨c,t,lo,hi,h1,h2,_⟩:=ha;obtain⟨c',t',lo',hi',h3,h4,_⟩:=hb;rw[h1]at h3;cases h3;have:=(v8.1 h2).1;omega
 |own i n=>
  obtain⟨c,t,lo,hi,h1,h2,_⟩:=ha;cases b with
  |cell j l u=>
   simp only[kC.loc,Qp,Qo]at h;obtain⟨rfl,rfl⟩:=h;obtain⟨c',t',lo',hi',h3,h4,_⟩:=hb;rw[h1]at h3;cases h3;have:=(v8.1 h4).1;omega
  |obj j p=>simp[kC.loc]at h
  |row j m=>simp[kC.loc]at h
  |own j m=>
   simp only[kC.loc,Qp,Qo]at h;obtain⟨rfl,rfl⟩:=h;rfl
 |row i n=>
  obtain⟨c,t,lo,hi,h1,h2⟩:=ha;cases b with
  |cell j l u=>simp[kC.loc]at h
  |obj j p=>
   simp only[kC.loc,Qp,and_true]at h;subst h;have h3:=hb.1;rw[h1]at h3;cases h3;exact absurd hb.2 (by simp[wI])
  |row j m=>
   simp only[kC.loc,Qp,and_true]at h;subst h;obtain⟨c',t',lo',hi',h3,h4⟩:=hb;rw[h1]at h3;cases h3;rw[h2]at h4;rw[h4]
  |own j m=>simp[kC.loc]at h
 |obj i o=>
  cases b with
  |cell j l u=>simp[kC.loc]at h
  |obj j p=>
   simp only[kC.loc,Qp,and_true]at h;subst h;have h1:=ha.1;rw[hb.1]at h1;cases h1;rfl
  |row j n=>
   simp only[kC.loc,Qp,and_true]at h;subst h;obtain⟨c,t,lo,hi,h1,h2⟩:=hb;have h3:=ha.1;rw[h1]at h3;cases h3;exact absurd ha.2 (by simp[wI])
  |own j n=>simp[kC.loc]at h
theorem sat_of_list {w:World}:∀L:List kC,(∀a∈L,a.holds w)->∃L',Sat w L'/\∀a∈L,a∈L':=by
 intro L
 induction L with
 |nil=>intro _;exact⟨[],⟨Zs,Zs⟩,Zs⟩
 |cons x L ih=>
  intro h;obtain⟨L',h1,h2⟩:=ih (fun a ha=>h a (by simp[ha]));by_cases hx:x.loc∈L'.map kC.loc
  ·obtain⟨y,hy,e⟩:=Q9.1 hx;have:y=x:=holds_loc (h1.holds y hy) (h x Zs) e;subst this;refine⟨L',h1,fun a ha=>?_⟩;rcases Q4.1 ha with rfl|ha
   ·exact hy
   ·exact h2 a ha
  ·refine⟨x::L',⟨fun a ha=>?_,by simp only[Vy,QF];exact⟨hx,h1.nodup⟩⟩,fun a ha=>?_⟩
   ·rcases Q4.1 ha with rfl|ha
    ·exact h a Zs
    ·exact h1.holds a ha
   ·rcases Q4.1 ha with rfl|ha
    ·simp
    ·simp[h2 a ha]
def blockAtoms(w:World)(i:Nat):List kC:=match w.heap[i]? with
 |some (.cells c _ (lo,hi))=>.row i c.size::(if lo<=c.size/\c.size < hi then []else [.own i c.size])++(List.range c.size).filterMap fun j=>if lo<=j/\j < hi then none else(c[j]?).map fun v=>.cell i j v
 |some o=>[.obj i o]
 |none=>[]
theorem sat_all(w:World):∃L,Sat w L/\∀a:kC,a.holds w->a∈L:=by
 obtain⟨L,h1,h2⟩:=sat_of_list (w:=w) ((List.range w.heap.size).flatMap (blockAtoms w)) (by
  intro a ha;obtain⟨i,_,ha⟩:=Q8.1 ha;unfold blockAtoms at ha;split at ha
  ·rename_i c t lo hi hb;rcases Q1.1 ha with ha|ha
   ·rcases Q4.1 ha with rfl|ha
    ·exact⟨c,t,lo,hi,hb,rfl⟩
    ·split at ha
     ·cases ha
     ·rename_i hf;obtain rfl:=QC.1 ha;exact⟨c,t,lo,hi,hb,rfl,hf⟩
   obtain⟨j,_,hj⟩:=List.mem_filterMap.1 ha;split at hj
   ·cases hj
   ·rename_i hf;simp only[Qk]at hj;obtain⟨v,hv,rfl⟩:=hj;exact⟨c,t,lo,hi,hb,hv,hf⟩
  ·rename_i o hne hb;simp only[QC]at ha;subst ha;refine⟨hb,?_⟩;cases o <;> first|rfl|(rename_i c t fr;exact absurd rfl (hne c t fr.1 fr.2))
  ·cases ha)
 refine⟨L,h1,fun a ha=>h2 a ?_⟩;cases a with
 |cell i k v=>
  obtain⟨c,t,lo,hi,hb,hv,hf⟩:=ha;have hi':i < w.heap.size:=by
   exact zBN
  refine Q8.2 ⟨i,QB.2 hi',?_⟩;unfold blockAtoms;rw[hb];refine Q3 _ (List.mem_filterMap.2 ⟨k,QB.2 (v8.1 hv).1,?_⟩);rw[if_neg hf,hv];rfl
 |own i n=>
  obtain⟨c,t,lo,hi,hb,rfl,hf⟩:=ha;have hi':i < w.heap.size:=by
   exact zBN
  refine Q8.2 ⟨i,QB.2 hi',?_⟩;unfold blockAtoms;rw[hb];refine Zw _ (Q5 _ ?_);rw[if_neg hf];exact QC.2 rfl
 |row i n=>
  obtain⟨c,t,lo,hi,hb,rfl⟩:=ha;have hi':i < w.heap.size:=by
   exact zBN
  refine Q8.2 ⟨i,QB.2 hi',?_⟩;unfold blockAtoms;rw[hb];exact Zw _ (Q6 ..)
 |obj i o=>
  obtain⟨hb,hc⟩:=ha;have hi':i < w.heap.size:=by
   exact zBN
  refine Q8.2 ⟨i,QB.2 hi',?_⟩;unfold blockAtoms;rw[hb];cases o <;> first|(simp;done)|(simp[wI]at hc)
theorem old_same {w w':World}{L:List kC}(hL:∀a:kC,a.holds w->a∈L)(hs:Sat w' L)(hk:kg w w'):∀i,i < w.heap.size->w'.heap[i]? =w.heap[i]?:=by
 intro i hi;have hb:w.heap[i]? =some w.heap[i]:=v7 hi;generalize w.heap[i]=o at hb;rw[hb];by_cases hc:wI o=false
 ·exact(hs.holds _ (hL (.obj i o) ⟨hb,hc⟩)).1
 ·cases o <;> first|(exact absurd rfl hc)|skip
  rename_i c t fr;obtain⟨lo,hi2⟩:=fr;obtain⟨c',h1,h2,h3⟩:=hk.cells i c t lo hi2 hb;rw[h1]
  congr 2
  apply Array.ext h2;intro j hj1 hj2;by_cases hf:lo<=j/\j < hi2
  ·have:=h3 j hf;rw[v7 hj1,v7 hj2]at this;exact Qn this
  ·obtain⟨c2,t2,lo2,hi3,g1,g2,_⟩:=hs.holds _ (hL (.cell i j c[j]) ⟨c,t,lo,hi2,hb,v7 hj2,hf⟩);rw[h1]at g1;cases g1;rw[v7 hj1]at g2;exact Qn g2
end Go.V
namespace Go.V
open Go
theorem mapM_mono {α β:Type}{f g:α->Option β}:∀{l:List α} {r:List β},(∀x∈l,∀y,f x=some y->g x=some y)->l.mapM f=some r->l.mapM g=some r:=by
 intro l
 induction l with
 |nil=>intro r _ h;simpa using h
 |cons a l ih=>
  intro r hfg h;simp only[List.mapM_cons,Option.bind_eq_bind,Option.pure_def,Qh]at h|-;obtain⟨y,h1,ys,h2,h3⟩:=h;exact⟨y,hfg a Zs y h1,ys,ih (fun x hx=>hfg x (by simp[hx])) h2,h3⟩
theorem cells?_same {w w':World}(hold:∀i,i < w.heap.size->w'.heap[i]? =w.heap[i]?){base n:Nat}{a:Addr}{cs:List Value}(h:w.cells? base a n=some cs):w'.cells? base a n=some cs:=by
 unfold World.cells? at h|-;split at h
 ·rename_i hb;rw[if_pos hb];refine mapM_mono (fun i _ v hv=>?_) h;have hlt:=World.block_lt_of_cell? w _ hv;unfold World.cell? at hv|-;rw[hold _ hlt];exact hv
 ·cases h
section
variable {H:Type} {enc:TypeId×Value->H} {P:Program} {w w':World} {base:Nat} {sp:Nat->Bool} {held:Bool}
structure Closed (P:Program)(ok:TypeId->Prop):Prop where
 ptr:∀t e,ok t->P.underlying t=some (.pointer e)->ok e
 slice:∀t e,ok t->P.underlying t=some (.slice e)->ok e/\0 < P.cellsOf e
 struct:∀t fs,ok t->P.underlying t=some (.struct fs)->∀f∈fs.toList,ok f.type
 array:∀t n e,ok t->P.underlying t=some (.array n e)->ok e
 map:∀t k e,ok t->P.underlying t=some (.map k e)->ok e
def closedB(P:Program)(S:List TypeId):Bool:=S.all fun t=>match P.underlying t with
 |some (.pointer e)=>S.contains e
 |some (.slice e)=>S.contains e&&decide (0 < P.cellsOf e)
 |some (.struct fs)=>fs.toList.all fun f=>S.contains f.type
 |some (.array _ e)=>S.contains e
 |some (.map _ e)=>S.contains e
 |_=>true
theorem closed_of {S:List TypeId}(h:closedB P S=true):Closed P (·∈S):=by
 have h':=vX.1 h;refine⟨fun t e ht hu=>?_,fun t e ht hu=>?_,fun t fs ht hu f hf=>?_,fun t n e ht hu=>?_,fun t k e ht hu=>?_⟩
 all_goals have:=h' t ht
 all_goals rw[hu]at this
 all_goals simp only[vg,vF,decide_eq_true_eq,vX]at this
 ·exact this
 ·exact this
 ·exact this f hf
 ·exact this
 ·exact this
theorem trodStep_same {ok:TypeId->Prop}(hcl:Closed P ok)(hold:∀i,i < w.heap.size->w'.heap[i]? =w.heap[i]?)(hsp:∀b,b < w.heap.size->sp b=true)
 {r r':TypeId->List Value->Option (DataW H×List MemPlace)} (hr:∀t cs x,ok t->r t cs=some x->r' t cs=some x) {t:TypeId} {cs:List Value} {x:DataW H×List MemPlace} (ht:ok t)
 (h:DataW.trodStep enc P w base (fun _=>true) true r t cs=some x):DataW.trodStep enc P w' base sp true r' t cs=some x:=by
 unfold DataW.trodStep at h;split at h
 case h_1 hu=>unfold DataW.trodStep;simp only[hu];exact h
 case h_2 hu=>unfold DataW.trodStep;simp only[hu];exact h
 case h_3 hu=>unfold DataW.trodStep;simp only[hu];exact h
 case h_4 hu=>unfold DataW.trodStep;simp only[hu];exact h
 case h_5 hu=>unfold DataW.trodStep;simp only[hu];exact h
 case h_6 e a hu=>
  unfold DataW.trodStep;simp only[hu];simp only[Qk,Qh]at h|-;obtain⟨y,⟨cs',hc,hy⟩,hx⟩:=h;exact⟨y,⟨cs',cells?_same hold hc,hr _ _ _ (hcl.ptr t e ht hu) hy⟩,hx⟩
 case h_7 hu=>unfold DataW.trodStep;simp only[hu];exact h
 case h_8 e a len cap hu=>
  unfold DataW.trodStep;simp only[hu];obtain⟨hoe,hpos⟩:=hcl.slice t e ht hu;simp only at h;split at h
  ·rename_i hb;rw[if_pos hb];simp only[Qk,Qh,if_true]at h|-;obtain⟨elems,he,rest,hrest,hx⟩:=h;have one:∀i y,(w.cells? base (a.add (i*P.cellsOf e)) (P.cellsOf e)).bind (r e)=some y->(w'.cells? base (a.add (i*P.cellsOf e)) (P.cellsOf e)).bind (r' e)=some y:=by
    intro i y hy;simp only[Qh]at hy|-;obtain⟨cs',hc,hy⟩:=hy;exact⟨cs',cells?_same hold hc,hr _ _ _ hoe hy⟩
   have hb':(cap - len=0)∨a.block < w.heap.size:=by
    rcases Nat.eq_zero_or_pos (cap - len)with h0|h0
    ·exact .inl h0
    ·right;have hne:rest≠[]:=by
      intro hn;subst hn;have:=congrArg List.length (show []=_ from rfl:([]:List Nat)=[]);have hlen:∀{l:List Nat} {g:Nat->Option (DataW H×List MemPlace)} {q:List (DataW H×List MemPlace)},l.mapM g=some q->q.length=l.length:=by
       intro l g
       induction l with
       |nil=>intro q hq;simp at hq;subst hq;rfl
       |cons a l ih=>
        intro q hq;simp only[List.mapM_cons,Option.bind_eq_bind,Option.pure_def,Qh]at hq;obtain⟨y,_,ys,h2,h3⟩:=hq;cases h3;simp[ih h2]
      have:=hlen hrest;simp at this;omega
     obtain⟨y,hy⟩:=List.exists_mem_of_ne_nil _ hne;obtain⟨j,_,hj⟩:=mapM_mem_of hrest y hy;simp only[Qh]at hj;obtain⟨cs',hc,_⟩:=hj;have:=World.cells?_block hc hpos;have e1:(a.add ((len+j)*P.cellsOf e)).block=a.block:=by unfold Addr.add;split <;> rfl
     rw[e1]at this;exact this
   refine⟨elems,mapM_mono (fun i _ y hy=>one i y hy) he,rest,?_,hx⟩;rcases hb' with h0|h0
   ·rw[h0]at hrest|-;simp at hrest|-;subst hrest;rfl
   ·rw[hsp _ h0];exact mapM_mono (fun i _ y hy=>one _ y hy) hrest
  ·cases h
 case h_9 fs hu=>
  unfold DataW.trodStep;simp only[hu];split at h
  ·rename_i hl;rw[if_pos hl];simp only[Qk]at h|-;obtain⟨xs,hx,e⟩:=h;exact⟨xs,mapM_mono (fun f hf y hy=>hr _ _ _ (hcl.struct t fs ht hu f hf) hy) hx,e⟩
  ·cases h
 case h_10 n e hu=>
  unfold DataW.trodStep;simp only[hu];split at h
  ·rename_i hl;rw[if_pos hl];simp only[Qk]at h|-;obtain⟨xs,hx,e1⟩:=h;exact⟨xs,mapM_mono (fun f _ y hy=>hr _ _ _ (hcl.array t n e ht hu) hy) hx,e1⟩
  ·cases h
 case h_11 hu=>unfold DataW.trodStep;simp only[hu];exact h
 case h_12 u v hu=>
  unfold DataW.trodStep;simp only[hu];exact h
 case h_13 hu=>unfold DataW.trodStep;simp only[hu];exact h
 case h_14 k e b hu=>
  unfold DataW.trodStep;simp only[hu];split at h
  ·rename_i es clock hb;have hlt:b < w.heap.size:=by
    rcases Nat.lt_or_ge b w.heap.size with h'|h'
    ·exact h'
    ·simp[Array.getElem?_eq_none h']at hb
   rw[hold b hlt,hb];dsimp only;split at h
   ·rename_i hc;rw[if_pos hc];simp only[Qh]at h|-;obtain⟨entries,he,hd⟩:=h;refine⟨entries,mapM_mono (fun x _ y hy=>?_) he,hd⟩;obtain⟨key,hk,hz'⟩:=Qh.1 hy;refine Qh.2 ⟨key,hk,?_⟩;split at hz'
    ·rename_i hf;rw[if_pos hf];simp only[Qk]at hz'|-;obtain⟨q,hq,e⟩:=hz';exact⟨q,hr _ _ _ (hcl.map t k _ ht hu) hq,e⟩
    ·cases hz'
   ·cases h
  ·cases h
 case h_15 hu=>unfold DataW.trodStep;simp only[hu];exact h
 case h_16 hu=>unfold DataW.trodStep;simp only[hu];exact h
 case h_17 hu=>unfold DataW.trodStep;simp only[hu];exact h
 case h_18 hu=>unfold DataW.trodStep;simp only[hu];exact h
 case h_19 hu=>unfold DataW.trodStep;simp only[hu];exact h
 case h_20 hu=>unfold DataW.trodStep;simp only[hu];exact h
 case h_21=>cases h
theorem trod_same {ok:TypeId->Prop}(hcl:Closed P ok)(hold:∀i,i < w.heap.size->w'.heap[i]? =w.heap[i]?)(hsp:∀b,b < w.heap.size->sp b=true):
 ∀(n:Nat) (t:TypeId) (cs:List Value) (x:DataW H×List MemPlace),ok t->DataW.trod enc P w base (fun _=>true) true n t cs=some x->DataW.trod enc P w' base sp true n t cs=some x:=by
 intro n
 induction n with
 |zero=>intro t cs x _ h;simp[DataW.trod]at h
 |succ n ih=>
  intro t cs x ht h;rw[DataW.trod_step]at h|-;exact trodStep_same hcl hold hsp ih ht h
theorem trodAll_same {ok:TypeId->Prop}(hcl:Closed P ok)(hold:∀i,i < w.heap.size->w'.heap[i]? =w.heap[i]?)(hsp:∀b,b < w.heap.size->sp b=true):
 ∀{ts:List TypeId} {vs:List Value} {ds:List (DataW H)} {ps:List MemPlace},(∀t∈ts,ok t)->DataW.TrodAll enc P w base (fun _=>true) true ts vs ds ps->DataW.TrodAll enc P w' base sp true ts vs ds ps
 |[],[],[],_,_,h=>h
 |_::_,_::_,_::_,_,ho,⟨p,q,⟨n,h1⟩,h2,e⟩=>⟨p,q,⟨n,trod_same hcl hold hsp n _ _ _ (ho _ Zs) h1⟩,trodAll_same hcl hold hsp (fun t ht=>ho t (by simp[ht])) h2,e⟩
end
end Go.V
namespace Go.V
open Go Go.ChangeShapes Go.WideShapes
section
variable {H:Type} {enc:TypeId×Value->H} {P:Program}
theorem glue {f:FuncId}{fn:Func}{s:ChangeSpec}{rt:TypeId}{apart fresh handsOn:Bool}{W:World}{args:List Value}{ds gs:List (DataW H)}{before:List MemPlace}
 (hvars:s.vars=[]) (hrt:fn.resultTypes=#[rt]) (hb:P.underlying rt=some .bool) (hfn:s.fn H (ds++gs)={results:=[.lit (.bool true)],args:=ds})
 {ok:TypeId->Prop} (hcl:Closed P ok) (hok:∀t∈fn.params.toList,ok t) (hW:DataW.Whole enc P fn.params.toList s.vars apart W args ds gs before)
 (hF:∀A,(∀a:kC,a.holds W->a∈A)->Fun P f args [A] fun v Post=>v=.bool true/\Post=[A]):
 Calls P f args.toArray W fun e W'=>∃v,e=.returned v/\s.post enc P fn apart fresh handsOn false W args.toArray v W':=by
 obtain⟨A,hA,hall⟩:=sat_all W;have h:=(hF A hall).2 [] W (by simpa using hA);refine h.mono ?_
 rintro e W' ⟨v,Post,rfl,⟨rfl,rfl⟩,hs,hk⟩
 have hs':Sat W' A:=by simpa using hs
 have hold:=old_same hall hs' hk;refine⟨_,rfl,ds,gs,before,[],before,[],by simpa using hW,?_,?_,?_,?_,fun h=>by cases h⟩
 ·rw[hrt,hfn];exact trodAll_mk1 ⟨1,by simp[DataW.trod,hb,Value.cells]⟩
 ·obtain⟨p,q,h1,h2,h3,_,_⟩:=hW;rw[hvars]at h2;obtain⟨rfl,rfl⟩:=trodVars_none h2;rw[hfn];simp only[vd]at h3;subst h3;simpa using trodAll_same hcl hold (fun b hb=>by simpa using hb) hok h1
 ·rw[hfn,hvars];rfl
 ·refine⟨hk.os,hk.output,fun i hi=>?_⟩;rw[hold i hi];have:W.heap[i]? =some W.heap[i]:=v7 hi;generalize W.heap[i]=o at this;rw[this];cases o <;> first|exact⟨rfl,rfl,rfl,fun _ _=>rfl⟩|exact .inr ⟨rfl,rfl⟩|rfl
theorem holds_cell {W:World}{b o:Nat}{v:Value}(h:W.cell? ⟨b,o,none⟩=some v)(hf:W.frozen? ⟨b,o,none⟩=false):(kC.cell b o v).holds W:=by
 unfold World.cell? at h;unfold World.frozen? at hf;split at h
 ·rename_i c t fr hb;obtain⟨lo,hi⟩:=fr;simp only at hb hf h;rw[hb]at hf;simp only[vE,decide_eq_false_iff_not]at hf;refine⟨c,t,lo,hi,hb,by simpa using h,fun hh=>?_⟩;rcases hf with hf|hf
  ·exact hf hh.1
  ·exact hf hh.2
 ·cases h
end
end Go.V
namespace Go.V
open Go Go.ChangeShapes Go.WideShapes Go.Deep
inductive SC where
 |int (k:IntKind)
 |str
section
variable {H:Type} {enc:TypeId×Value->H} {P:Program} {W:World} {base:Nat}
theorem add_addr(b o i:Nat):(⟨b,o,none⟩:Addr).add i=⟨b,o+i,none⟩:=by
 unfold Addr.add;split
 ·rename_i h0;have:i=0:=by simpa using h0
  subst this;rfl
 ·rfl
theorem choose_rows {α:Type}{Q:Nat->α->Prop}{n:Nat}(h:∀i,i < n->∃x,Q i x):∃l:List α,l.length=n/\∀i x,l[i]? =some x->Q i x:=by
 induction n with
 |zero=>exact⟨[],rfl,Zs⟩
 |succ n ih=>
  obtain⟨l,h1,h2⟩:=ih (fun i hi=>h i Zo);obtain⟨x,hx⟩:=h n Zo;refine⟨l++[x],by simp[h1],fun i y hy=>?_⟩;by_cases hi:i < l.length
  ·rw[V7 hi]at hy;exact h2 i y hy
  ·rw[V8 Zo]at hy;have:i=n:=by
    have:=(Vd.1 hy).1;simp at this;omega
   subst this;simp[h1]at hy;subst hy;exact hx
end
end Go.V
namespace Go.V
open Go Go.ChangeShapes Go.WideShapes Go.Deep
structure Bulk {H:Type}(bulk:DataW H->Nat):Prop where
 agg:∀l d,d∈l->bulk d < bulk (.agg l)
 sl:∀es sp d,d∈es->bulk d < bulk (.slice es sp)
 len:∀es sp,es.length<=bulk (.slice es sp)
 sls:∀es sp,(es.map bulk).sum<=bulk (.slice es sp)
 aggs:∀l,(l.map bulk).sum < bulk (.agg l)
 str:∀bs,bs.length<=bulk (.lit (.string bs))
theorem spot_noneV {W:World}{a:Addr}{v:Value}(h:W.cell? a=some v):a=⟨a.block,a.off,none⟩:=by
 obtain⟨b,o,s⟩:=a;cases s with
 |none=>rfl
 |some s=>
  unfold World.cell? at h;split at h
  ·simp at h
  ·cases h
section
variable {H:Type} {enc:TypeId×Value->H} {P:Program} {bulk:DataW H->Nat}
theorem rd_rows(hb:Bulk bulk){t e:TypeId}{sz:Nat}(ht:P.underlying t=some (.slice e))(hc:P.cellsOf e=sz)(hpos:0 < sz){W:World}{u:Value}{n:Nat}{x:DataW H×List MemPlace}{A:List kC}(h:DataW.trod enc P W 0 (fun _=>true) true n t [u]=some x)(hf:W.noneFrozen x.2)(hA:∀a:kC,a.holds W->a∈A):
 ∃(a:Option Addr) (k c bk o:Nat) (us:Nat->List Value) (D:Nat->DataW H) (Pl:Nat->List MemPlace) (m:Nat),u=.slice a k c/\(k<=bulk x.1/\((List.range' 0 k).map fun i=>bulk (D i)).sum<=bulk x.1/\k<=c)/\(0 < k->a=some ⟨bk,o,none⟩)/\∀i,i < k->bulk (D i) < bulk x.1/\(us i).length=sz/\(∀y∈kA bk (o+i*sz) (us i),y∈A)/\DataW.trod enc P W 0 (fun _=>true) true m e (us i)=some (D i,Pl i)/\W.noneFrozen (Pl i):=by
 rcases open_slice ht h with⟨h1,_⟩|⟨a,len,cap,m,n',D,Pl,hcs,_,hl,_,hm,hx,hi⟩
 ·simp only[ve,and_true]at h1;exact⟨none,0,0,0,0,fun _=>[],fun _=>.nil,fun _=>[],0,h1,⟨Qf _,Qf _,QW _⟩,fun h=>absurd h (Nat.lt_irrefl 0),fun i hi=>absurd hi (Nat.not_lt_zero _)⟩
 ·simp only[ve,and_true]at hcs;simp only[if_true]at hm;subst hm;subst hx;rw[hc]at hi;obtain⟨us,hus⟩:∃us:Nat->List Value,∀i,i < m->W.cells? 0 (a.add (i*sz)) sz=some (us i)/\DataW.trod enc P W 0 (fun _=>true) true n' e (us i)=some (D i,Pl i):=
   ⟨fun i=>if h:i < m then(hi i h).choose else [],fun i h=>by simp only[dif_pos h];exact(hi i h).choose_spec⟩
  refine⟨some a,len,m,a.block,a.off,us,D,Pl,n',hcs,⟨?_,?_,Zo⟩,fun hk=>?_,fun i hik=>?_⟩
  ·have:=hb.len ((List.range len).map D) ((List.range (m - len)).map fun j=>D (len+j));simpa using this
  ·have:=hb.sls ((List.range len).map D) ((List.range (m - len)).map fun j=>D (len+j));rw[Vz]at this;rw[<- List.range_eq_range'];exact this
  ·obtain⟨h0,_⟩:=hus 0 Zo;obtain⟨_,_,hat⟩:=World.cells?_some h0;have h00:=hat 0 hpos;obtain⟨_,hlen,_⟩:=World.cells?_some h0;rw[Zg Zo]at h00;have e1:(a.add (0*sz)).add 0=a:=by rw[Qg];rfl
   rw[e1]at h00;rw[<- spot_noneV h00]
  ·obtain⟨h0,h1⟩:=hus i Zo;obtain⟨_,hlen,hat⟩:=World.cells?_some h0;have ha:a=⟨a.block,a.off,none⟩:=by
    obtain⟨g0,_⟩:=hus 0 Zo;obtain⟨_,glen,gat⟩:=World.cells?_some g0;have h00:=gat 0 hpos;rw[Zg Zo]at h00;have e1:(a.add (0*sz)).add 0=a:=by rw[Qg];rfl
    rw[e1]at h00;exact spot_noneV h00
   refine⟨hb.sl _ _ _ (Q9.2 ⟨i,QB.2 hik,rfl⟩),hlen,fun y hy=>?_,h1,fun b o hbo=>hf b o ?_⟩
   ·obtain⟨j,v,hj,rfl⟩:=kI.1 hy;have hjl:=(Vd.1 hj).1;have hcell:=hat j Zo;rw[ha,add_addr,add_addr,hj]at hcell;refine hA _ (holds_cell hcell (hf _ _ ?_));refine Zw _ (MemPlace.mem_row.2 ⟨i*sz+j,?_,?_⟩)
    ·rw[hc];have:(i+1)*sz<=m*sz:=Qc _ Zo;rw[Nat.succ_mul]at this;omega
    ·rw[QT]
   ·exact Q3 _ (Q8.2 ⟨i,QB.2 Zo,hbo⟩)
theorem rd_texts(hb:Bulk bulk){t e:TypeId}(ht:P.underlying t=some (.slice e))(he:P.underlying e=some .string)(hc:P.cellsOf e=1){W:World}{u:Value}{n:Nat}{x:DataW H×List MemPlace}{A:List kC}(h:DataW.trod enc P W 0 (fun _=>true) true n t [u]=some x)(hf:W.noneFrozen x.2)(hA:∀a:kC,a.holds W->a∈A)(hsz:bulk x.1<=1048576):
 ∃l:List ByteArray,RdT A u l/\l.length<=bulk x.1:=by
 obtain⟨a,k,c,bk,o,us,D,Pl,m,rfl,⟨hk,_⟩,ha,hi⟩:=rd_rows hb ht hc Zd h hf hA;obtain⟨l,hl,hx⟩:=choose_rows (α:=ByteArray) (Q:=fun i t=>kC.cell bk (o+i) (.string t)∈A/\t.size<=140737488355328) (n:=k) (fun i hik=>by
  obtain⟨h1,h2,h3,h4,h5⟩:=hi i hik;obtain⟨s,hs,hd,_⟩:=DataW.trod_string he h4;refine⟨s,h3 _ (kI.2 ⟨0,.string s,by rw[hs];rfl,by rw[Nat.mul_one];rfl⟩),?_⟩;have e1:D i=.lit (.string s.data.toList):=congrArg Prod.fst hd;have:=hb.str s.data.toList;rw[e1]at h1;have e2:s.data.toList.length=s.size:=by simp
  omega)
 refine⟨l,⟨a,c,by rw[hl],Zo,fun i t h=>?_⟩,Zo⟩;have hik:i < k:=by have:=(Vd.1 h).1;omega
 exact⟨bk,o,ha Zo,(hx i t h).1,(hx i t h).2⟩
structure LitT (P:Program)(t:TypeId)(sl:TypeId):Prop where
 str:∃fs:Array Field,P.underlying t=some (.struct fs)/\fs.size=5/\∃t0 t1 t2 t3,(fs.toList.map fun f=>(f.type,f.offset))=[(t0,0),(t1,1),(t2,2),(t3,3),(sl,4)]/\P.underlying t0=some (.int .u8)/\P.underlying t1=some (.int .i64)/\P.underlying t2=some (.int .u64)/\P.underlying t3=some .string/\
  P.cellsOf t0=1/\P.cellsOf t1=1/\P.cellsOf t2=1/\P.cellsOf t3=1/\P.cellsOf sl=1
 cells:P.cellsOf t=5
 items:P.underlying sl=some (.slice t)
theorem wf_u8 {n:Int}(h:(Lit.int .u8 n).wf=true):∃k:Nat,n=k/\k < 256:=by
 simp[Lit.wf]at h;have e1:IntKind.u8.min=0:=by decide
 have e2:IntKind.u8.max=255:=by decide
 exact⟨n.toNat,Zo,Zo⟩
theorem wf_u64 {n:Int}(h:(Lit.int .u64 n).wf=true):∃k:Nat,n=k/\k < 18446744073709551616:=by
 simp[Lit.wf]at h;have e1:IntKind.u64.min=0:=by decide
 have e2:IntKind.u64.max=18446744073709551615:=by decide
 exact⟨n.toNat,Zo,Zo⟩
theorem wf_i64 {n:Int}(h:(Lit.int .i64 n).wf=true):-9223372036854775808<=n/\n<=9223372036854775807:=by
 simp[Lit.wf]at h;have e1:IntKind.i64.min=-9223372036854775808:=by decide
 have e2:IntKind.i64.max=9223372036854775807:=by decide
 omega
theorem wg {α:Type}{l:List α}{i:Nat}{v:α}(h:(l.drop i).take 1=[v]):l[i]? =some v:=by
 have:=congrArg (fun m:List α=>m[0]?) h;simp only[List.getElem?_take,Va]at this;simpa using this
theorem flat_sub {ys:List (DataW H×List MemPlace)}{i:Nat}{y:DataW H×List MemPlace}(h:ys[i]? =some y){q:MemPlace}(hq:q∈y.2):q∈ys.flatMap (·.2):=Q8.2 ⟨y,Zv h,hq⟩
theorem rd_lit(hb:Bulk bulk){t sl:TypeId}(hT:LitT P t sl){W:World}{A:List kC}(hA:∀a:kC,a.holds W->a∈A):∀(N:Nat) (n:Nat) (cs:List Value) (x:DataW H×List MemPlace),bulk x.1<=N->N<=1048576->DataW.trod enc P W 0 (fun _=>true) true n t cs=some x->W.noneFrozen x.2->∃l:Lt,LtRd A l cs/\l.size<=bulk x.1:=by
 obtain⟨fs,hu,hsz,t0,t1,t2,t3,hfs,u0,u1,u2,u3,c0,c1,c2,c3,c4⟩:=hT.str;intro N
 induction N using Nat.strongRecOn with
 |_ N ih=>
  intro n cs x hx hN h hf;obtain⟨ys,k,_,rfl,hlen,hyl,hfld⟩:=DataW.trod_struct hu h;rw[hT.cells]at hlen
  replace hx:bulk (.agg (ys.map (·.1)))<=N:=hx
  have hget:∀(i:Nat) (ty off:Nat),(fs.toList.map fun f=>(f.type,f.offset))[i]? =some (ty,off)->DataW.trod enc P W 0 (fun _=>true) true k ty ((cs.drop off).take (P.cellsOf ty))=ys[i]?:=fun i ty off hi=>by
   exact zBO
  have hys:∀i,i < 5->ys[i]? =some (ys.getD i (.nil,[])):=fun i hi=>by
   rw[V5,Zg Zo];rfl
  have g0:=(hget 0 t0 0 (by rw[hfs];rfl)).trans (hys 0 Zo);have g1:=(hget 1 t1 1 (by rw[hfs];rfl)).trans (hys 1 Zo);have g2:=(hget 2 t2 2 (by rw[hfs];rfl)).trans (hys 2 Zo);have g3:=(hget 3 t3 3 (by rw[hfs];rfl)).trans (hys 3 Zo);have g4:=(hget 4 sl 4 (by rw[hfs];rfl)).trans (hys 4 Zo);rw[c0]at g0;rw[c1]at g1;rw[c2]at g2;rw[c3]at g3;rw[c4]at g4;obtain⟨z0,e0,_,w0⟩:=DataW.trod_int u0 g0;obtain⟨z1,e1,_,w1⟩:=DataW.trod_int u1 g1;obtain⟨z2,e2,_,w2⟩:=DataW.trod_int u2 g2;obtain⟨s,e3,d3,_⟩:=DataW.trod_string u3 g3;have hlt:∀i,i < 5->bulk (ys.getD i (.nil,[])).1 < bulk (.agg (ys.map (·.1))):=fun i hi=>hb.agg _ _ (Q9.2 ⟨_,Zv (hys i hi),rfl⟩)
  have hfr:∀i,i < 5->W.noneFrozen (ys.getD i (.nil,[])).2:=fun i hi b o hbo=>hf b o (flat_sub (hys i hi) hbo)
  obtain⟨v4,e4⟩:∃v,(cs.drop 4).take 1=[v]:=Vn.1 Zam;rw[e4]at g4;obtain⟨a,kk,c,bk,o,us,D,Pl,m,rfl,⟨hk,hks,hkc⟩,ha,hi⟩:=rd_rows hb hT.items hT.cells Zd g4 (hfr 4 Zo) hA;obtain⟨l,hl,hq⟩:=choose_rows (α:=Lt) (Q:=fun i y=>LtRd A y (us i)/\y.size<=bulk (D i)) (n:=kk) (fun i hik=>by
   obtain⟨q1,_,_,q4,q5⟩:=hi i hik;have q6:=hlt 4 Zo;exact ih (bulk (D i)) Zo m (us i) (D i,Pl i) (QW _) Zo q4 q5)
  obtain⟨k0,rfl,b0⟩:=wf_u8 w0;obtain⟨k2,rfl,b2⟩:=wf_u64 w2;have b1:=wf_i64 w1;have hcs:cs=[cv k0,vi z1,uv k2,.string s,.slice a l.length c]:=by
   exact zB2
  have hs3:s.size<=1048576:=by
   have h3:=hlt 3 Zo;have e:(ys.getD 3 (.nil,[])).1=.lit (.string s.data.toList):=congrArg Prod.fst d3;rw[e]at h3;exact zCW
  have h4:=hlt 4 Zo;have hsz4:Lt.sizes l<=bulk (ys.getD 4 (.nil,[])).1:=by
   refine QY (Lt.sizes_le (f:=fun i=>bulk (D i)) (o:=0) (fun i x hx=>?_)) ?_
   ·rw[Qe];exact(hq i x hx).2
   ·rw[hl];exact hks
  rw[hcs];refine⟨.mk k0 z1 k2 s l,.mk ⟨b0,b1,b2,Zo,Zo⟩ (fun hp=>ha Zo) (fun i hi'=>(hi i Zo).2.2.1) (fun i x hx=>(hq i x hx).1),?_⟩;show 1+Lt.sizes l<=bulk (.agg (ys.map (·.1)));omega
structure NodT (P:Program)(t tl sl st:TypeId):Prop where
 str:∃fs:Array Field,P.underlying t=some (.struct fs)/\fs.size=7/\∃t0 t1 t6,(fs.toList.map fun f=>(f.type,f.offset))=[(t0,0),(t1,1),(tl,2),(st,7),(st,8),(sl,9),(t6,10)]/\P.underlying t0=some (.int .u8)/\P.underlying t1=some .string/\P.underlying t6=some (.int .i64)/\
  P.cellsOf t0=1/\P.cellsOf t1=1/\P.cellsOf t6=1/\P.underlying st=some (.slice t1)
 cells:P.cellsOf t=11
 cs:P.cellsOf sl=1
 ct:P.cellsOf st=1
 cl:P.cellsOf tl=5
 kids:P.underlying sl=some (.slice t)
theorem rd_node(hb:Bulk bulk){t tl sl st ll:TypeId}(hT:NodT P t tl sl st)(hL:LitT P tl ll){W:World}{A:List kC}(hA:∀a:kC,a.holds W->a∈A):∀(N:Nat) (n:Nat) (cs:List Value) (x:DataW H×List MemPlace),bulk x.1<=N->N<=1048576->DataW.trod enc P W 0 (fun _=>true) true n t cs=some x->W.noneFrozen x.2->∃l:Nd,jQ A l cs/\l.w<=bulk x.1:=by
 obtain⟨fs,hu,hsz,t0,t1,t6,hfs,u0,u1,u6,c0,c1,c6,us3⟩:=hT.str;intro N
 induction N using Nat.strongRecOn with
 |_ N ih=>
  intro n cs x hx hN h hf;obtain⟨ys,k,_,rfl,hlen,hyl,hfld⟩:=DataW.trod_struct hu h;rw[hT.cells]at hlen
  replace hx:bulk (.agg (ys.map (·.1)))<=N:=hx
  have hget:∀(i:Nat) (ty off:Nat),(fs.toList.map fun f=>(f.type,f.offset))[i]? =some (ty,off)->DataW.trod enc P W 0 (fun _=>true) true k ty ((cs.drop off).take (P.cellsOf ty))=ys[i]?:=fun i ty off hi=>by
   exact zBO
  have hys:∀i,i < 7->ys[i]? =some (ys.getD i (.nil,[])):=fun i hi=>by
   rw[V5,Zg Zo];rfl
  have g0:=(hget 0 t0 0 (by rw[hfs];rfl)).trans (hys 0 Zo);have g1:=(hget 1 t1 1 (by rw[hfs];rfl)).trans (hys 1 Zo);have g2:=(hget 2 tl 2 (by rw[hfs];rfl)).trans (hys 2 Zo);have g3:=(hget 3 st 7 (by rw[hfs];rfl)).trans (hys 3 Zo);have g4:=(hget 4 st 8 (by rw[hfs];rfl)).trans (hys 4 Zo);have g5:=(hget 5 sl 9 (by rw[hfs];rfl)).trans (hys 5 Zo);have g6:=(hget 6 t6 10 (by rw[hfs];rfl)).trans (hys 6 Zo);rw[c0]at g0;rw[c1]at g1;rw[hT.cl]at g2;rw[hT.ct]at g3 g4;rw[hT.cs]at g5;rw[c6]at g6;obtain⟨z0,e0,_,w0⟩:=DataW.trod_int u0 g0;obtain⟨s,e1,d1,_⟩:=DataW.trod_string u1 g1;obtain⟨z6,e6,_,w6⟩:=DataW.trod_int u6 g6;have hlt:∀i,i < 7->bulk (ys.getD i (.nil,[])).1 < bulk (.agg (ys.map (·.1))):=fun i hi=>hb.agg _ _ (Q9.2 ⟨_,Zv (hys i hi),rfl⟩)
  have hfr:∀i,i < 7->W.noneFrozen (ys.getD i (.nil,[])).2:=fun i hi b o hbo=>hf b o (flat_sub (hys i hi) hbo)
  obtain⟨v3,e3⟩:∃v,(cs.drop 7).take 1=[v]:=Vn.1 Zam;obtain⟨v4,e4⟩:∃v,(cs.drop 8).take 1=[v]:=Vn.1 Zam;obtain⟨v5,e5⟩:∃v,(cs.drop 9).take 1=[v]:=Vn.1 Zam;rw[e3]at g3;rw[e4]at g4;rw[e5]at g5;have l2:=hlt 2 Zo;have l3:=hlt 3 Zo;have l4:=hlt 4 Zo;have l5:=hlt 5 Zo;obtain⟨lit,hlit,hlw⟩:=rd_lit hb hL hA 1048576 k _ _ Zo (QW _) g2 (hfr 2 Zo);obtain⟨args,hargs,hargl⟩:=rd_texts hb us3 u1 c1 g3 (hfr 3 Zo) hA Zo;obtain⟨temps,htemps,htempl⟩:=rd_texts hb us3 u1 c1 g4 (hfr 4 Zo) hA Zo;obtain⟨a,kk,c,bk,o,us,D,Pl,m,rfl,⟨hk,hks,hkc⟩,ha,hi⟩:=rd_rows hb hT.kids hT.cells Zd g5 (hfr 5 Zo) hA;obtain⟨l,hl,hq⟩:=choose_rows (α:=Nd) (Q:=fun i y=>jQ A y (us i)/\y.w<=bulk (D i)) (n:=kk) (fun i hik=>by
   obtain⟨q1,_,_,q4,q5⟩:=hi i hik;exact ih (bulk (D i)) Zo m (us i) (D i,Pl i) (QW _) Zo q4 q5)
  have hyl2:ys.length=7:=by rw[hyl];exact hsz
  obtain⟨k0,rfl,b0⟩:=wf_u8 w0;have b6:=wf_i64 w6;have hcs:cs=[cv k0,.string s]++(cs.drop 2).take 5++[v3,v4,.slice a l.length c,vi z6]:=by
   have p0:=wg e0;have p1:=wg e1;have p3:=wg e3;have p4:=wg e4;have p5:=wg e5;have p6:=wg e6;obtain⟨a0,a1,a2,a3,a4,a5,a6,a7,a8,a9,a10,rfl⟩:∃a0 a1 a2 a3 a4 a5 a6 a7 a8 a9 a10,cs=[a0,a1,a2,a3,a4,a5,a6,a7,a8,a9,a10]:=by
    match cs,hlen with
    |[a0,a1,a2,a3,a4,a5,a6,a7,a8,a9,a10],_=>exact⟨a0,a1,a2,a3,a4,a5,a6,a7,a8,a9,a10,rfl⟩
   simp only[VV,V9,Qo]at p0 p1 p3 p4 p5 p6;rw[p0,p1,p3,p4,p5,p6,hl];rfl
  have hs0:s.size<=bulk (ys.getD 1 (.nil,[])).1:=by
   have e:(ys.getD 1 (.nil,[])).1=.lit (.string s.data.toList):=congrArg Prod.fst d1;rw[e];exact zCW
  have hs1:s.size<=1048576:=by
   have h3:=hlt 1 Zo;have e:(ys.getD 1 (.nil,[])).1=.lit (.string s.data.toList):=congrArg Prod.fst d1;rw[e]at h3;exact zCW
  rw[hcs];have hsz5:Nd.ws l<=bulk (ys.getD 5 (.nil,[])).1:=by
   refine QY (Nd.ws_le (f:=fun i=>bulk (D i)) (o:=0) (fun i x hx=>?_)) ?_
   ·rw[Qe];exact(hq i x hx).2
   ·rw[hl];exact hks
  refine⟨.mk k0 s lit args temps l z6,.mk ⟨b0,Zo,Zo,b6⟩ hlit hargs htemps (fun hp=>ha Zo) (fun i hi'=>(hi i Zo).2.2.1) (fun i x hx=>(hq i x hx).1) Zo,?_⟩;have hag:=hb.aggs (ys.map (·.1));have hsum:bulk (ys.getD 1 (.nil,[])).1+bulk (ys.getD 2 (.nil,[])).1+bulk (ys.getD 3 (.nil,[])).1+bulk (ys.getD 4 (.nil,[])).1+bulk (ys.getD 5 (.nil,[])).1<=((ys.map (·.1)).map bulk).sum:=by
   match ys,hyl2 with
   |[y0,y1,y2,y3,y4,y5,y6],_=>simp only[Vy,Q0,List.sum_cons,List.sum_nil,List.getD_cons_zero,List.getD_cons_succ];omega
  show 1+s.size+lit.size+args.length+temps.length+Nd.ws l<=bulk (.agg (ys.map (·.1)));omega
end
end Go.V
namespace Go.Proofs.YtijnokbblmbpkaaGreatDoor
open Go Go.V
set_option maxHeartbeats 3200000
set_option maxRecDepth 100000
abbrev lkA (lb:Nat)(m d:Bool):List kC:=kA lb 0 [.bool m,.bool d]
def LkQ(A:List kC)(lb:Nat)(m0 deep:Bool)(r:Rs):Value->SH->Prop:=fun v Post=>∃(d:Nat) (m:Bool),r=some (d,m)/\v=vi d/\Post=[A,lkA lb (m0||m) deep]
def LkZ(A:List kC)(lb:Nat)(deep:Bool)(r:Rs):List PanicEntry->SH->Prop:=fun ch Post=>r=none/\ch=w9/\∃m,Post=[A,lkA lb m deep]
abbrev Look (f:Nat)(args:List Value)(A:List kC)(lb:Nat)(m0 deep:Bool)(r:Rs):Prop:=jY Tryz.prog f args [A,lkA lb m0 deep] (LkQ A lb m0 deep r) (LkZ A lb deep r)
theorem names_spec(B:List kC)(v:Value)(l:List ByteArray)(h:RdT B v l)(lb most:Nat)(m0 deep:Bool):jY Tryz.prog 106 [kE lb,vi most,v] [B,lkA lb m0 deep]
 (fun v Post=>l.all wD=true/\v=.tuple #[]/\Post=[B,lkA lb (m0||decide (most < l.length)) deep]) (fun ch Post=>l.all wD=false/\ch=w9/\∃m,Post=[B,lkA lb m deep]):=by
 refine jY.intro low106 (by simp[n106]) ?_;have hc:=indexFunc_spec B v l h;obtain⟨a,c,rfl,hl,hr⟩:=h;cases m0 with
 |true=>
  exact zAW
 |false=>
  refine GOH ?_;by_cases hm:most < l.length
  ·rw[show decide ((l.length:Int) > (most:Int))=true from Zt Zo,Zt hm];exact zAW
  ·rw[show decide ((l.length:Int) > (most:Int))=false from Zf Zo,Zf hm];refine GOH ?_;refine kM hc Zr ZP (fun v Post hv=>?_);obtain⟨rfl,rfl⟩:=hv;simp only[CNx];refine GOH ?_;refine kJ (kw _) Zr ZP (fun v Post hv=>?_) (fun ch Post hz=>?_)
   ·obtain⟨h1,rfl,rfl⟩:=hv;simp only[QD];refine GOH ?_;exact jI (kG (Post:=[B,lkA lb false deep]) (.inl rfl) .nil ⟨by simpa using h1,rfl,rfl⟩ ZI)
   ·obtain⟨h1,rfl,rfl⟩:=hz;exact⟨[B,lkA lb false deep],ZI,by simpa using h1,rfl,false,rfl⟩
end Go.Proofs.YtijnokbblmbpkaaGreatDoor
namespace Go.Proofs.YtijnokbblmbpkaaGreatDoor
open Go Go.V
set_option maxHeartbeats 3200000
set_option maxRecDepth 100000
theorem nd_open {A:List kC}{x:Nd}{vs:List Value}(h:jQ A x vs):∃c2 c3 c4 c5 c6 c7 c8 c9 c10,vs=[cv x.kind,.string x.name,c2,c3,c4,c5,c6,c7,c8,c9,c10]/\x.name.size<=140737488355328/\x.kind < 256:=by
 cases h with
 |mk wf hl hav htv ha hm hr=>
  cases hl with
  |mk wf2 ha2 hm2 hr2=>exact⟨_,_,_,_,_,_,_,_,_,rfl,wf.name,wf.kind⟩
def wx(A:List kC)(x:Nd)(vs:List Value):Prop:=(∀lb m0 deep,Look 169 [kE lb,.agg vs.toArray] A lb m0 deep (kO x))/\∀d m,kO x=some (d,m)->d<=1099511627776
theorem part_spec(A:List kC)(x:Nd)(vs:List Value)(h:jQ A x vs)(hn:wx A x vs)(place lb:Nat)(m0 deep:Bool):Look 206 [kE lb,.agg vs.toArray,vi place] A lb m0 deep (partR x place (kO x)):=by
 obtain⟨hn1,hn2⟩:=hn;obtain⟨c2,c3,c4,c5,c6,c7,c8,c9,c10,rfl,hsz,hk⟩:=nd_open h;have hlev:levelN x=levelKS x.kind x.name:=rfl;have hls:=level_spec x.kind x.name hsz c2 c3 c4 c5 c6 c7 c8 c9 c10;have hcall:=hn1 lb m0 deep;refine jY.intro low206 (by simp[n206]) ?_;unfold partR;rw[hlev];generalize x.kind=k at*;generalize x.name=s at*;generalize kO x=r at*;generalize levelKS k s=lv at*;refine GOH ?_;refine kd Zr (fun q=>?_);simp only[Value.cells];refine GOH ?_;by_cases h9:k=9
 ·have hnone:kP (decide (k≠9/\k≠6)) (if lv < place then wV r else r)=none:=by simp[kP,h9]
  rw[show decide ((k:Int)=9)=true from Zt Zo,Bool.not_true];exact zA7
 rw[show decide ((k:Int)=9)=false from Zf Zo,vL];refine GOH ?_;by_cases h6:k=6
 ·have hnone:kP (decide (k≠9/\k≠6)) (if lv < place then wV r else r)=none:=by simp[kP,h6]
  rw[show decide ((k:Int)=6)=true from Zt Zo,Bool.not_true];exact zA7
 rw[show decide ((k:Int)=6)=false from Zf Zo,vL];have hmust:kP (decide (k≠9/\k≠6)) (if lv < place then wV r else r)=(if lv < place then wV r else r):=by simp[kP,h9,h6]
 rw[hmust];refine GOH ?_;refine kJ (kw true) Zr ZP (fun v Post hv=>?_) Zaj;obtain⟨_,rfl,rfl⟩:=hv;simp only[QD];refine GOH ?_;refine kJ hcall Zr ZP (fun v Post hv=>?_) (fun ch Post hz=>?_);rotate_left
 ·obtain⟨hb,rfl,m2,rfl⟩:=hz;exact⟨[A,lkA lb m2 deep],ZI,by rw[hb];split <;> rfl,rfl,m2,rfl⟩
 obtain⟨d,m2,he,rfl,rfl⟩:=hv;have hd:=hn2 d m2 he;simp only[CNx];refine GOH ?_;refine kV hls Zr ?_;refine GOH ?_;by_cases hlt:lv < place
 ·rw[show decide ((lv:Int) < (place:Int))=true from Zt Zo];refine GOH ?_;refine jI (kG (Post:=[A,lkA lb (m0||m2) deep]) (.inr rfl) (.tmp Zr .nil) ⟨d+1,m2,by rw[if_pos hlt,he];rfl,rfl,rfl⟩ ZI)
 ·rw[show decide ((lv:Int) < (place:Int))=false from Zf Zo];refine GOH ?_;refine jI (kG (Post:=[A,lkA lb (m0||m2) deep]) (.inr rfl) (.tmp Zr .nil) ⟨d,m2,by rw[if_neg hlt,he],rfl,rfl⟩ ZI)
theorem zM(A:List kC)(x:Nd)(vs:List Value)(h:jQ A x vs)(hn:wx A x vs)(place lb:Nat)(m0 deep:Bool):Look 170 [kE lb,.agg vs.toArray,vi place] A lb m0 deep (jr x place (kO x)):=by
 have hp:=part_spec A x vs h hn place lb m0 deep;obtain⟨c2,c3,c4,c5,c6,c7,c8,c9,c10,rfl,hsz,hk⟩:=nd_open h;have hsu:wh x=superKS x.kind x.name:=rfl;have hss:=super_spec x.kind x.name c2 c3 c4 c5 c6 c7 c8 c9 c10;refine jY.intro low170 (by simp[n170]) ?_;unfold jr;rw[hsu];generalize partR x place (kO x)=r at*;refine GOH ?_;refine kd Zr (fun q=>?_);simp only[Value.cells];refine GOH ?_;refine kV hss Zr ?_;cases hs:superKS x.kind x.name with
 |true=>
  have hnone:kP (!true) r=none:=rfl;exact zA7
 |false=>
  have hm:kP (!false) r=r:=rfl;rw[hm];refine GOH ?_;refine kJ (kw true) Zr ZP (fun v Post hv=>?_) Zaj;obtain⟨_,rfl,rfl⟩:=hv;simp only[QD];refine GOH ?_;refine kJ hp Zr ZP (fun v Post hv=>?_) (fun ch Post hz=>?_);rotate_left
  ·obtain⟨hb,rfl,m2,rfl⟩:=hz;exact⟨[A,lkA lb m2 deep],ZI,hb,rfl,m2,rfl⟩
  exact zCJ
end Go.Proofs.YtijnokbblmbpkaaGreatDoor
namespace Go.V
open Go
section
variable {ops:Array Oper}
theorem coverC {both:Bool}{rs:List (RO×Oper)}{orders:List (List Nat)}(hc:coverG both rs ops orders=true)(t:Nat):
 ∃o∈orders,o.Perm (jd ops ops.size t (Array.replicate ops.size false))/\(jd ops ops.size t (Array.replicate ops.size false)).Nodup/\(∀i∈o,i < ops.size)/\
  o.Pairwise (fun x y=>indep (rs.getD y default) (rs.getD x default)=true∨[x,y].Sublist (jd ops ops.size t (Array.replicate ops.size false))):=by
 simp only[coverG,vF]at hc;obtain⟨⟨⟨hb,hd⟩,ho⟩,hp⟩:=hc;have hu:unl ops (Array.replicate ops.size false)=List.range ops.size:=by
  exact zAZ
 obtain⟨s1,s2,_⟩:=sched_spec hb ops.size t (Array.replicate ops.size false) Zs (by rw[hu];simp);generalize hl:jd ops ops.size t (Array.replicate ops.size false)=l at s1 s2|-;have hanc:∀{x y:Nat},y < ops.size->x∈(ancs ops).getD y []->Bef l x y:=fun hy hx=>hl ▸ anc_bef hb (QW _) (ancs_sound hx) hy
 have hmem:∀i,i∈l↔i < ops.size:=fun i=>by rw[s2,hu];simp
 generalize hdd:clash both rs (ancs ops) ops.size=d at hd hp;have hdlt:∀x∈d,x < ops.size:=by
  exact zCF
 have hsp:(l.filter (d.contains ·)).Perm d:=by
  exact zB7
 have hall:=vX.1 hp _ (mem_perms hsp);simp only[vO,vK,vY]at hall;have hresp:zE (fun x y=>!((ancs ops).getD x []).contains y) (l.filter (d.contains ·))=true:=by
  exact zAD
 rcases hall with hall|⟨o,hom,hpo⟩
 ·rw[hresp]at hall;cases hall
 have ho':=vX.1 ho o hom;simp only[vF,beq_iff_eq,vX,decide_eq_true_eq]at ho';obtain⟨⟨o1,o2⟩,o3⟩:=ho';have hperm:o.Perm l:=by
  exact zAI
 refine⟨o,hom,hperm,s1,fun i hi=>(hmem i).1 (hperm.subset hi),?_⟩;exact zAN
theorem eq_of_order {o l:List Nat}(hp:o.Perm l)(hn:l.Nodup)(h:o.Pairwise fun x y=>[x,y].Sublist l):o=l:=by
 refine List.Perm.eq_of_pairwise (le:=fun x y=>[x,y].Sublist l) (fun a b _ _ h1 h2=>?_) h (List.pairwise_iff_forall_sublist.2 fun h=>h) hp;have b1:=(sub_bef hn h1).2.2;have b2:=(sub_bef hn h2).2.2;omega
def envO(X:Nat->RO×Oper)(val:Nat->Value):List Nat->Env->Env
 |[],Γ=>Γ
 |i::r,Γ=>envO X val r (putE (X i).1.dst (val i) Γ)
def writes(X:Nat->RO×Oper)(t j:Nat):Bool:=(X j).1.dst==some t
theorem envO_filter {X:Nat->RO×Oper}{val:Nat->Value}{t:Nat}:∀{p:List Nat} {Γ Δ:Env},look Γ t=look Δ t->look (envO X val p Γ) t=look (envO X val (p.filter (writes X t)) Δ) t:=by
 intro p
 induction p with
 |nil=>intro Γ Δ h;exact h
 |cons j p ih=>
  intro Γ Δ h;simp only[envO,vq];by_cases hw:writes X t j=true
  ·rw[if_pos hw];simp only[envO];refine ih ?_;simp only[writes,beq_iff_eq]at hw;rw[hw];simp[putE,look]
  ·rw[if_neg hw];refine ih ?_;simp only[writes,beq_iff_eq]at hw;rw[<- h];cases hd:(X j).1.dst with
   |none=>rfl
   |some d=>
    have:d≠t:=fun e=>hw (by rw[hd,e])
    simp[putE,look,this]
theorem split_at {i:Nat}:∀{a b c d:List Nat},a++i::b=c++i::d->i∉a->i∉c->a=c:=by
 intro a
 induction a with
 |nil=>
  intro b c d h _ hc;cases c with
  |nil=>rfl
  |cons x c=>simp at h;exact absurd (by simp[h.1]) hc
 |cons x a ih=>
  intro b c d h ha hc;cases c with
  |nil=>simp at h;exact absurd (by simp[h.1]) ha
  |cons y c=>
   simp only[vf,ve]at h;rw[h.1,ih h.2 (fun h=>ha (by simp[h])) (fun h=>hc (by simp[h]))]
theorem env_alike {X:Nat->RO×Oper}{val:Nat->Value}{Γ:Env}{p q l1 l2:List Nat}{i t:Nat}(hp:(p++i::q).Perm (l1++i::l2))(hn:(l1++i::l2).Nodup)
 (hpw:(p++i::q).Pairwise (fun x y=>indep (X y) (X x)=true∨[x,y].Sublist (l1++i::l2))) (ht:t∈looks (X i)):look (envO X val p Γ) t=look (envO X val l1 Γ) t:=by
 have key:(p++i::q).filter (fun j=>decide (j=i)||writes X t j)=(l1++i::l2).filter (fun j=>decide (j=i)||writes X t j):=by
  refine eq_of_order (hp.filter _) (hn.filter _) ?_;have hno:(p++i::q).Pairwise (fun x y=>x≠y):=hp.nodup_iff.2 hn;refine((hpw.and hno).filter _).imp_of_mem ?_;intro x y hx hy ⟨h,hne⟩;have fx:=(Q7.1 hx).2;have fy:=(Q7.1 hy).2;rcases h with h|h
  ·exfalso;simp only[indep,vF]at h;obtain⟨⟨h1,h2⟩,_⟩:=h;have a1:=ww h1;have a2:=ww h2;simp only[vO,decide_eq_true_eq,writes,beq_iff_eq]at fx fy;rcases fx with fx|fx <;> rcases fy with fy|fy
   ·exact hne (fx.trans fy.symm)
   ·subst fx;exact(a1 t fy).1 ht
   ·subst fy;exact(a2 t fx).1 ht
   ·exact(a1 t fy).2 fx
  ·have:=h.filter (fun j=>decide (j=i)||writes X t j)
   rwa [show List.filter (fun j=>decide (j=i)||writes X t j) [x,y]=[x,y] by simp only[List.filter,fx,fy]]at this
 have hip:i∉p:=by
  have:=hp.nodup_iff.2 hn;intro h;exact(QE.1 this).2.2 i h i Zs rfl
 have hil:i∉l1:=fun h=>(QE.1 hn).2.2 i h i Zs rfl
 rw[vp,vp,List.filter_cons_of_pos Zs,List.filter_cons_of_pos Zs]at key;have h2:=split_at key (fun h=>hip ((Q7.1 h).1)) (fun h=>hil ((Q7.1 h).1));have fe:∀l:List Nat,i∉l->l.filter (fun j=>decide (j=i)||writes X t j)=l.filter (writes X t):=fun l hl=>List.filter_congr fun j hj=>by
  have:j≠i:=fun e=>hl (e ▸ hj)
  simp[this]
 rw[fe p hip,fe l1 hil]at h2;rw[envO_filter (p:=p) rfl,envO_filter (p:=l1) rfl,h2]
theorem envO_snoc {X:Nat->RO×Oper}{val:Nat->Value}{i:Nat}:∀{p:List Nat} {Γ:Env},envO X val (p++[i]) Γ=putE (X i).1.dst (val i) (envO X val p Γ):=by
 intro p
 induction p with
 |nil=>intro Γ;rfl
 |cons j p ih=>intro Γ;exact ih
def StepZ(P:Program)(n:Nat)(X:Nat->RO×Oper)(PZ:List PanicEntry->SH->Prop)(Hs:SH->Prop)(val:Nat->Value)(φ:Nat->Prop)(i:Nat)(Δ:Env):Prop:=
 ∀Γ H,(∀t∈looks (X i),∀v,look Δ t=some v->look Γ t=some v)->Hs H->VO P n [(X i).1] Γ H (fun ch _ H'=>PZ ch H') (fun Γ' H'=>Γ'=putE (X i).1.dst (val i) Γ/\Hs H'/\φ i)
theorem run_any {P:Program}{n:Nat}{X:Nat->RO×Oper}{PZ:List PanicEntry->SH->Prop}{Hs:SH->Prop}{val:Nat->Value}{φ:Nat->Prop}{Γ0:Env}{o l:List Nat}(hp:o.Perm l)(hn:l.Nodup)
 (hpw:o.Pairwise (fun x y=>indep (X y) (X x)=true∨[x,y].Sublist l)) (hlow:∀i∈l,LowAll P n [(X i).1] [X i]) (hstep:∀p i q,o=p++i::q->StepZ P n X PZ Hs val φ i (envO X val p Γ0))
 {F:List kC} {ZZ:Exit->Act->World->Prop} {Q:Act->World->Prop} {a0:Act} {w0:World}
 (hq:∀a' w' H',jn n (envO X val l Γ0) a'->a'.defers=a0.defers->Sat w' (H'.flatten++F)->kg w0 w'->Hs H'->(∀i∈l,φ i)->Q a' w')
 (hz:∀ch a' w' H',a'.tmps.size=n->a'.defers=a0.defers->Sat w' (H'.flatten++F)->kg w0 w'->PZ ch H'->ZZ (.panic ch) a' w'):
 ∀(l2 l1:List Nat),l=l1++l2->∀a w H,jn n (envO X val l1 Γ0) a->a.defers=a0.defers->Sat w (H.flatten++F)->kg w0 w->Hs H->(∀i∈l1,φ i)->wpR P ZZ Q (l2.map X) a w:=by
 intro l2
 induction l2 with
 |nil=>
  intro l1 hl a w H ha hd hs hk hh hφ;rw[vd]at hl;subst hl;exact hq a w H ha hd hs hk hh hφ
 |cons i l2 ih=>
  intro l1 hl a w H ha hd hs hk hh hφ;have hi:i∈o:=hp.mem_iff.2 (by rw[hl];simp);obtain⟨p,q,ho⟩:=List.append_of_mem hi;have st:=hstep p i q ho (envO X val l1 Γ0) H (fun t ht v hv=>by
   rw[<- env_alike (val:=val) (Γ:=Γ0) (by rw[<- ho,<- hl];exact hp) (by rw[<- hl];exact hn) (by rw[<- ho,<- hl];exact hpw) ht];exact hv) hh
  have:=st [X i] (hlow i (by rw[hl];simp)) a w F ZZ (wpR P ZZ Q (l2.map X)) ha hs
   (fun a' w' Γ' H' ⟨k1,k2,k3⟩ g1 g2 g3 g4=>by
     subst k1;exact ih (l1++[i]) (by rw[hl];simp) a' w' H' (by rw[envO_snoc];exact g1) (g2.trans hd) g3 (hk.trans g4) k2 (fun j hj=>by
      rcases Q1.1 hj with h|h
      ·exact hφ j h
      ·rw[QC.1 h];exact k3))
   (fun ch a' w' Γ' H' k g1 g2 g3 g4=>hz ch a' w' H' g1.size (g2.trans hd) g3 (hk.trans g4) k)
  exact this
def argO:R->List Operand
 |.call _ xs=>xs
 |r=>rOps r
def looksR(r:RO):List Nat:=guardTmps r.guard++opTmps (argO r.op)
def okR(r:RO):Bool:=kY r.op||jA r.op||(match r.op with|.call _ _=>true|_=>false)
def StepsZ(P:Program)(n:Nat)(PZ:List PanicEntry->SH->Prop)(Hs:SH->Prop):List RO->Env->Prop->Prop
 |[],_,Φ=>¬Φ
 |r::rs,Δ,Φ=>okR r=true/\∃(v:Value) (φ:Prop),(∀Γ H,(∀t∈looksR r,∀u,look Δ t=some u->look Γ t=some u)->Hs H->VO P n [r] Γ H (fun ch _ H'=>PZ ch H') (fun Γ' H'=>Γ'=putE r.dst v Γ/\Hs H'/\φ))/\
   StepsZ P n PZ Hs rs (putE r.dst v Δ) (Φ/\φ)
theorem kH {P:Program}{n:Nat}{PZ:List PanicEntry->SH->Prop}{Hs:SH->Prop}{r:RO}{rs:List RO}{Δ:Env}{Φ:Prop}{v:Value}(h2:StepsZ P n PZ Hs rs (putE r.dst v Δ) (Φ/\True))(ok:okR r=true:=by rfl)
 (h1:∀Γ H,(∀t∈looksR r,∀u,look Δ t=some u->look Γ t=some u)->Hs H->VO P n [r] Γ H (fun ch _ H'=>PZ ch H') (fun Γ' H'=>Γ'=putE r.dst v Γ/\Hs H'/\True):=by
   intro Γ H hΓ hH
   first
    |(subst hH
      first
       |exact st_gf (hΓ _ Zd _ rfl) rfl Zaf
       |exact st_mv (hΓ _ Zd _ rfl) Zaf
       |exact st_fld (hΓ _ Zd _ rfl) rfl Zaf
       |exact wL (hΓ _ Zd _ rfl) Zh Zaf
       |exact st_lenI (hΓ _ Zd _ rfl) (VO.nil ⟨rfl,rfl,trivial⟩)
       |exact st_pick_f (hΓ _ Zd _ rfl) rfl Zaf
       |exact st_pick_t (hΓ _ Zd _ rfl) (hΓ _ Zd _ rfl) Zaf
       |exact st_gt (hΓ _ Zd _ rfl) (st_fld (hΓ _ Zd _ rfl) rfl Zaf)
       |exact st_gt (hΓ _ Zd _ rfl) (wL (hΓ _ Zd _ rfl) Zh Zaf))
    |(obtain⟨mz,hz⟩:=hH
      refine VO.imp hz ?_
      first
       |exact st_mv (hΓ _ Zd _ rfl) Zae
       |exact st_fld (hΓ _ Zd _ rfl) rfl Zae
       |exact st_fld (hΓ _ Zd _ rfl) Zo (VO.nil ⟨rfl,⟨mz,Imp.refl _⟩,trivial⟩)
       |exact wL (hΓ _ Zd _ rfl) (by first|(exact Zh)|(exact Zm)) Zae
       |exact kZ (hΓ _ Zd _ rfl) Zah hyl Zae
       |exact st_idxL (hΓ _ Zd _ rfl) rfl Zo Zz (VO.nil ⟨rfl,⟨mz,Imp.refl _⟩,trivial⟩)
       |exact st_slcL1 (hΓ _ Zd _ rfl) rfl (l:=1) rfl Zo (VO.nil ⟨rfl,⟨mz,Imp.refl _⟩,trivial⟩))):StepsZ P n PZ Hs (r::rs) Δ Φ:=⟨ok,v,True,h1,h2⟩
theorem looksR_sub {P:Program}{n:Nat}{x:RO×Oper}(hl:lowRO P n ops x.2=some x.1)(hok:okR x.1=true):∀t∈looksR x.1,t∈looks x:=by
 intro t ht;simp only[looksR,looks,Q1]at ht|-;rcases ht with ht|ht
 ·exact .inl ht
 right;by_cases hq:(kY x.1.op||jA x.1.op)=true
 ·rw[if_pos hq];have:argO x.1.op=rOps x.1.op:=by
   cases hop:x.1.op <;> first|rfl|(rw[hop]at hq;cases hq)
  rwa [this]at ht
 ·rw[if_neg hq];simp only[okR,hq,vJ]at hok;cases hop:x.1.op with
  |call f xs=>
   have g1:=(jE hl).1;rw[hop]at g1;obtain⟨c,h1,h2,h3,h4⟩:=low_call g1;rw[hop]at ht;simp only[argO]at ht;rw[h1];simp only[Op.operands,Call.operands,Array.toList_append,h3,opTmps,List.filterMap_append,Q1];exact .inr ht
  |_=>rw[hop]at hok;cases hok
theorem envO_congr {X:Nat->RO×Oper}{val val':Nat->Value}:∀{p:List Nat} {Γ:Env},(∀j∈p,val j=val' j)->envO X val p Γ=envO X val' p Γ:=by
 intro p
 induction p with
 |nil=>intro Γ _;rfl
 |cons j p ih=>intro Γ h;simp only[envO];rw[h j Zs];exact ih fun k hk=>h k (by simp[hk])
theorem stepsZ_funs {P:Program}{n:Nat}{X:Nat->RO×Oper}{PZ:List PanicEntry->SH->Prop}{Hs:SH->Prop}:∀(o:List Nat) (Γ:Env) (Φ:Prop),o.Nodup->(∀i∈o,okR (X i).1=true->∀t∈looksR (X i).1,t∈looks (X i))->StepsZ P n PZ Hs (o.map fun i=>(X i).1) Γ Φ->
 ∃(val:Nat->Value) (φ:Nat->Prop),(∀p i q,o=p++i::q->StepZ P n X PZ Hs val φ i (envO X val p Γ))/\¬(Φ/\∀i∈o,φ i):=by
 intro o
 induction o with
 |nil=>intro Γ Φ _ _ h;exact⟨fun _=>undef,fun _=>True,fun p i q e=>by simp at e,fun hh=>h hh.1⟩
 |cons i o ih=>
  intro Γ Φ hn hsub h;obtain⟨hok,v,φ0,h1,h2⟩:=h;have hn':=QF.1 hn;obtain⟨val,φ,g1,g2⟩:=ih _ _ hn'.2 (fun j hj=>hsub j (by simp[hj])) h2;refine⟨fun j=>if j=i then v else val j,fun j=>if j=i then φ0 else φ j,fun p j q e=>?_,fun hh=>g2 ⟨⟨hh.1,?_⟩,fun j hj=>?_⟩⟩
  ·cases p with
   |nil=>
    simp only[QD,ve]at e;obtain⟨rfl,rfl⟩:=e;intro Γ' H hl hH;have:=h1 Γ' H (fun t ht=>hl t (hsub i Zs hok t ht)) hH;simpa using this
   |cons k p=>
    simp only[vf,ve]at e;obtain⟨rfl,e⟩:=e;have hj:j∈o:=by rw[e];simp
    have hji:j≠i:=fun e2=>hn'.1 (e2 ▸ hj)
    have st:=g1 p j q e;have hc:envO X (fun j=>if j=i then v else val j) p (putE (X i).1.dst v Γ)=envO X val p (putE (X i).1.dst v Γ):=envO_congr fun k hk=>by
     have hk2:k∈o:=by rw[e];simp[hk]
     have hki:k≠i:=fun e2=>hn'.1 (e2 ▸ hk2)
     simp[hki]
    intro Γ' H hl hH;simp only[envO,if_pos]at hl;rw[hc]at hl;have:=st Γ' H hl hH;simpa[hji]using this
  ·have:=hh.2 i Zs;simpa using this
  ·have h3:=hh.2 j (by simp[hj]);have hji:j≠i:=fun e2=>hn'.1 (e2 ▸ hj)
   simpa[hji]using h3
end
theorem VC.drawZ {P:Program}{n:Nat}{Γ:Env}{H:SH}{Q:Exit->Env->SH->Prop}{rss:List (List RO)}{keep:List Nat}(PZ:List PanicEntry->SH->Prop)(Hs:SH->Prop)(h0:Hs H)
 (h:∀rs∈rss,StepsZ P n PZ Hs rs Γ True) (hz:∀ch H',PZ ch H'->Q (.panic ch) [] H'):VC P n (.draw rss keep) Γ H Q:=by
 intro ρ kp od code hl a w F QQ hr ha hs hh;obtain⟨id,ops,rs,rfl,h1,hm,hc,rfl,rfl⟩:=jW hl;have hlen:=(js h1).1;refine wpIn_region_draw (fun t=>?_);have hsched:Region.schedule (P.follows .mixedOrders) ops t=jd ops ops.size t (Array.replicate ops.size false):=by simp[Region.schedule,hm,Region.linearise,jd]
 rw[hsched];obtain⟨both,hcb⟩:∃both,coverG both (rs.zip ops.toList) ops (od id)=true:=by
  unfold coverB at hc;rcases vP.1 hc with hc|hc
  ·exact⟨_,hc⟩
  ·exact⟨_,hc⟩
 obtain⟨o,hom,hp,hn,hlt,hpw⟩:=coverC hcb t;have hX:∀i,i < ops.size->ops[i]? =some ((rs.zip ops.toList).getD i default).2/\((rs.zip ops.toList).getD i default).1=rs.getD i default/\lowRO P n ops ((rs.zip ops.toList).getD i default).2=some ((rs.zip ops.toList).getD i default).1:=fun i hi=>wd h1 hi
 have hlt2:∀i∈jd ops ops.size t (Array.replicate ops.size false),i < ops.size:=fun i hi=>hlt i (hp.mem_iff.2 hi)
 refine wpR_sound (P:=P) (ρ:=ρ) (n:=n) (ops:=ops) (X:=fun i=>(rs.zip ops.toList).getD i default) (QQ:=QQ) (fun i hi=>⟨(hX i hi).1,(hX i hi).2.2⟩) _ a _ hlt2 ?_;have hst:=h (o.map fun i=>rs.getD i default) (Q9.2 ⟨o,hom,rfl⟩);have hmap:(o.map fun i=>rs.getD i default)=o.map fun i=>((rs.zip ops.toList).getD i default).1:=Vx fun i hi=>(hX i (hlt i hi)).2.1.symm
 rw[hmap]at hst;obtain⟨val,φ,g1,g2⟩:=stepsZ_funs (X:=fun i=>(rs.zip ops.toList).getD i default) o Γ True (hp.nodup_iff.2 hn) (fun i hi hok=>looksR_sub (hX i (hlt i hi)).2.2 hok) hst;refine run_any (X:=fun i=>(rs.zip ops.toList).getD i default) (l:=jd ops ops.size t (Array.replicate ops.size false)) (val:=val) (φ:=φ) (Γ0:=Γ) (a0:=a) (w0:={w with drawn:=w.drawn+1}) (F:=F) hp hn hpw (fun i hi=>⟨rfl,fun x hx=>by rw[QC.1 hx];exact⟨ops,(hX i (hlt2 i hi)).2.2⟩⟩) g1 ?_ ?_ _ [] rfl a _ H ha rfl (hs.drawn _) (.refl _) h0 (fun i hi=>by cases hi)
 ·intro a' w' H' _ _ _ _ _ hall;exact absurd ⟨trivial,fun i hi=>hall i (hp.mem_iff.1 hi)⟩ g2
 ·intro ch a' w' H' k1 k2 k3 k4 k5;exact hh (.panic ch) a' w' [] H' [] (hz ch H' k5) ⟨k1,fun t v e=>by cases e⟩ k2 k3.nomarks (((kg.refl w).drawn _).trans k4)
end Go.V
