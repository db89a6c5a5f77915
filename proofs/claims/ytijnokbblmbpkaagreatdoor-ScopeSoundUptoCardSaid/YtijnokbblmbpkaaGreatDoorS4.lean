/-
  A region that draws its order: it is enough to walk it in one order for each way in which what does not commute may come up.
-/
import Derived.Test.YtijnokbblmbpkaaGreatDoorS3
set_option linter.unusedSimpArgs false
set_option linter.unusedVariables false
namespace Go.V
open Go
section
variable {P:Program}
theorem upon_put {o:Oper}{a:Act}{d:Nat}{u:Value}(hd:o.dst≠some d){K:Act->World->Prop}{r:Result Next}
 (h:jb P o a (fun a' w'=>K (a'.put (some d) u) w') w7 r):jb P o (a.put (some d) u) K w7 r:=by
 have hc:∀v,(a.put o.dst v).put (some d) u=(a.put (some d) u).put o.dst v:=fun v=>Act.put_comm a v u (fun e h1 h2=>hd (by rw[h1,<- h2]))
 cases r with
 |ok n w'=>
  cases n <;> simp only[jb]at h|-
  case value v=>rw[<- hc];exact h
  case skip=>rw[<- hc];exact h
  case enter f args=>exact Calls.mono h (fun e w'' he=>by cases e <;> first|(simp only at he|-;rw[<- hc];exact he)|exact he)
  case round l f tmps assign body=>exact RoundIn.mono h (fun e w'' he=>by cases e <;> first|(simp only at he|-;rw[<- hc];exact he)|exact he)
 |halt x w'=>cases x <;> simp only[jb]at h|- <;> exact h
theorem upon_put' {o:Oper}{a:Act}{d:Nat}{u:Value}(hd:o.dst≠some d){K:Act->World->Prop}{r:Result Next}
 (h:jb P o (a.put (some d) u) K w7 r):jb P o a (fun a' w'=>K (a'.put (some d) u) w') w7 r:=by
 have hc:∀v,(a.put o.dst v).put (some d) u=(a.put (some d) u).put o.dst v:=fun v=>Act.put_comm a v u (fun e h1 h2=>hd (by rw[h1,<- h2]))
 cases r with
 |ok n w'=>
  cases n <;> simp only[jb]at h|-
  case value v=>rw[hc];exact h
  case skip=>rw[hc];exact h
  case enter f args=>exact Calls.mono h (fun e w'' he=>by cases e <;> first|(simp only at he|-;rw[hc];exact he)|exact he)
  case round l f tmps assign body=>exact RoundIn.mono h (fun e w'' he=>by cases e <;> first|(simp only at he|-;rw[hc];exact he)|exact he)
 |halt x w'=>cases x <;> simp only[jb]at h|- <;> exact h
theorem upon_exists {o:Oper}{a:Act}{K:Act->World->Prop}{r:Result Next}(h:jb P o a K w7 r):∃ds v w',K ({a with defers:=ds}.put o.dst v) w':=by
 cases r with
 |ok n w'=>
  cases n <;> simp only[jb]at h
  case value v=>exact⟨a.defers,v,w',h⟩
  case skip=>exact⟨a.defers,undef,w',h⟩
  case enter f args=>
   obtain⟨e,w1,fr,hR,_⟩:=h [];exact zDN
  case round l f tmps assign body=>
   obtain⟨e,w1,hR,_⟩:=h.2 default [] (room_wide _);exact zDN
 |halt x w'=>cases x <;> simp only[jb]at h <;> exact h.elim
theorem eval_defers(a:Act)(ds:List Deferred):({a with defers:=ds}:Act).eval=a.eval:=by funext x;cases x <;> rfl
theorem Yv_defers {x:RO×Oper}{a:Act}{ds:List Deferred}{w:World}{v:Value}:Yv P x {a with defers:=ds} w v↔Yv P x a w v:=by
 unfold Yv;rw[eval_defers];have:j8 x.1.guard {a with defers:=ds}=j8 x.1.guard a:=by cases x.1.guard <;> rfl
 rw[this]
structure Good (P:Program)(n:Nat)(ops:Array Oper)(x:RO×Oper):Prop where
 low:lowRO P n ops x.2=some x.1
 sel:∀cs b,x.2.op≠.select cs b
theorem low_noSelect {op:Op}{r:R}(h:kz P op=some r)(cs:Array SelectCase)(b:Bool):op≠.select cs b:=by
 rintro rfl;simp[kz]at h
theorem Good.of_low {n:Nat}{ops:Array Oper}{x:RO×Oper}(h:lowRO P n ops x.2=some x.1):Good P n ops x:=⟨h,low_noSelect (jE h).1⟩
theorem ww {x y:RO×Oper}(h:apart1 x y=true):∀d,x.1.dst=some d->d∉looks y/\y.1.dst≠some d:=by
 intro d e;simp only[apart1,e,vF,vK,bne_iff_ne]at h;exact⟨by simpa using h.1,h.2⟩
variable {n:Nat} {ops:Array Oper}
theorem swap {x y:RO×Oper}(gx:Good P n ops x)(gy:Good P n ops y)(h:indep x y=true){K:Act->World->Prop}{a:Act}{w:World}
 (hh:jq P w7 y (fun a w=>jq P w7 x K a w) a w):jq P w7 x (fun a w=>jq P w7 y K a w) a w:=by
 simp only[indep,vF]at h;obtain⟨⟨hxy,hyx⟩,hc⟩:=h;have axy:=ww hxy;have ayx:=ww hyx;have comm:∀(b:Act) (u v:Value),(b.put x.1.dst u).put y.1.dst v=(b.put y.1.dst v).put x.1.dst u:=fun b u v=>Act.put_comm b u v (fun d e=>(axy d e).2)
 by_cases qx:(kY x.1.op||jA x.1.op)=true
 ·by_cases qy:(kY y.1.op||jA y.1.op)=true
  ·obtain⟨v,hv,h1⟩:=(jp qy).1 hh;obtain⟨u,hu,h2⟩:=(jp qx).1 h1;refine(jp qx).2 ⟨u,(Yv_put qx (fun t e=>(ayx t e).1)).1 hu,(jp qy).2 ⟨v,(Yv_put qy (fun t e=>(axy t e).1)).2 hv,?_⟩⟩;rw[comm];exact h2
  ·-- x is pure,y acts
   have qy':(kY y.1.op||jA y.1.op)=false:=by simpa using qy
   have px:kY x.1.op=true:=by
    try simp only[vO,vF]at hc
    simp only[vN]at qy';rcases hc with((h|h)|h)|h
    ·exact h
    ·rw[qy'.1]at h;cases h
    ·rw[qy'.2]at h;cases h.2
    ·rw[qy'.2]at h;cases h.2
   simp only[vN]at qy';by_cases hw:j8 y.1.guard a=true
   ·unfold jq at hh;rw[if_pos hw,if_neg (by simp[qy'.1]),if_neg (by simp[qy'.2])]at hh;obtain⟨hnew,hh⟩:=hh
    replace hh:=wpV_mono (K':=fun a w=>∃v,Yv P x a w v/\K (a.put x.1.dst v) w) (fun a w h=>(jp qx).1 h) hh
    obtain⟨gl1,gl2,gl3,_⟩:=jE gy.low;obtain⟨ds,v0,w0,u,hu,_⟩:=upon_exists hh;have hu':∀w,Yv P x a w u:=fun w=>by
     rw[<- gl2]at hu;have:=(Yv_put qx (fun t e=>(ayx t e).1)).1 hu;exact(Yv_pure px).1 (Yv_defers.1 this)
    refine(jp qx).2 ⟨u,hu' w,?_⟩;have hw':j8 y.1.guard (a.put x.1.dst u)=true:=by rw[wanted_put_of (fun t e=>(wt (axy t e).1).1)];exact hw
    show jq P w7 y K (a.put x.1.dst u) w;unfold jq;rw[if_pos hw',if_neg (by simp[qy'.1]),if_neg (by simp[qy'.2])];have he:execOp (a.put x.1.dst u).eval y.2=execOp a.eval y.2:=
     execOp_congr y.2 gy.sel (fun z hz=>eval_put_of (fun t e=>(wt (axy t e).1).2.2 (by simp[qy'.1,qy'.2])) (by simpa using hz))
    refine⟨fun e=>by rw[he];exact hnew e,?_⟩;unfold wpV at hh|-;rw[he];have step:jb P y.2 a (fun a' w'=>K (a'.put x.1.dst u) w') w7 ((execOp a.eval y.2).run P w):=by
     generalize (execOp a.eval y.2).run P w=r at hh;have fin:∀{b:Act} {w':World},(∃ds v,b={a with defers:=ds}.put y.2.dst v)->(∃u',Yv P x b w' u'/\K (b.put x.1.dst u') w')->K (b.put x.1.dst u) w':=by
      rintro b w' ⟨ds,v,rfl⟩ ⟨u',h1,h2⟩
      rw[<- gl2]at h1;have h3:=(Yv_put qx (fun t e=>(ayx t e).1)).1 h1;have h4:=Yv_defers.1 h3;rw[Yv_fun (hu' w') h4];exact h2
     cases r with
     |ok nx w'=>
      cases nx <;> simp only[jb]at hh|-
      case value v=>exact fin ⟨a.defers,v,rfl⟩ hh
      case skip=>exact fin ⟨a.defers,undef,rfl⟩ hh
      case enter f args=>exact Calls.mono hh (fun e w'' he=>by cases e <;> first|exact fin ⟨a.defers,_,rfl⟩ he|exact he)
      case round l f tmps assign body=>exact RoundIn.mono hh (fun e w'' he=>by cases e <;> first|exact fin ⟨a.defers,_,rfl⟩ he|exact he)
     |halt z w'=>cases z <;> simp only[jb]at hh|- <;> exact hh
    cases hxd:x.1.dst with
    |none=>rw[hxd]at step;exact step
    |some d=>
     rw[hxd]at step;exact upon_put (by rw[<- gl2];exact(axy d hxd).2) step
   ·unfold jq at hh;rw[if_neg hw]at hh;obtain⟨u,hu,h2⟩:=(jp qx).1 hh;refine(jp qx).2 ⟨u,(Yv_put qx (fun t e=>(ayx t e).1)).1 hu,?_⟩;show jq P w7 y K (a.put x.1.dst u) w;unfold jq;rw[if_neg (by rw[wanted_put_of (fun t e=>(wt (axy t e).1).1)];exact hw),comm];exact h2
 ·-- x acts,y is pure
  have qx':(kY x.1.op||jA x.1.op)=false:=by simpa using qx
  have pq:kY y.1.op=true∨(isNew x.1.op=true/\jA y.1.op=true):=by
   try simp only[vO,vF]at hc
   simp only[vN]at qx';rcases hc with((h|h)|h)|h
   ·rw[qx'.1]at h;cases h
   ·exact .inl h
   ·rw[qx'.2]at h;cases h.1
   ·exact .inr h
  have qy:(kY y.1.op||jA y.1.op)=true:=by rcases pq with h|h <;> simp[h]
  simp only[vN]at qx';obtain⟨v,hv,h1⟩:=(jp qy).1 hh;have hwe:j8 x.1.guard (a.put y.1.dst v)=j8 x.1.guard a:=wanted_put_of (fun t e=>(wt (ayx t e).1).1);unfold jq at h1|-;rw[hwe]at h1;by_cases hw:j8 x.1.guard a=true
  ·rw[if_pos hw,if_neg (by simp[qx'.1]),if_neg (by simp[qx'.2])]at h1|-;obtain⟨gl1,gl2,gl3,_⟩:=jE gx.low;obtain⟨hnew,h1⟩:=h1;unfold wpV at h1;have he:execOp (a.put y.1.dst v).eval x.2=execOp a.eval x.2:=
    execOp_congr x.2 gx.sel (fun z hz=>eval_put_of (fun t e=>(wt (ayx t e).1).2.2 (by simp[qx'.1,qx'.2])) (by simpa using hz))
   rw[he]at h1 hnew;refine⟨hnew,?_⟩;unfold wpV;have step:jb P x.2 a (fun a' w'=>K (a'.put y.1.dst v) w') w7 ((execOp a.eval x.2).run P w):=by
    cases hyd:y.1.dst with
    |none=>rw[hyd]at h1;exact h1
    |some d=>
     rw[hyd]at h1;exact upon_put' (by rw[<- gl2];exact(ayx d hyd).2) h1
   have fin0:∀{b:Act} {w':World},(∃ds u,b={a with defers:=ds}.put x.2.dst u)->Yv P y a w' v->K (b.put y.1.dst v) w'->jq P w7 y K b w':=by
    rintro b w' ⟨ds,u,rfl⟩ hv h2
    refine(jp qy).2 ⟨v,?_,h2⟩;rw[<- gl2];exact(Yv_put qy (fun t e=>(axy t e).1)).2 (Yv_defers.2 hv)
   rcases pq with py|⟨nx,_⟩
   rotate_left
   ·obtain⟨u,w',hrun,hext⟩:=hnew nx;rw[hrun]at step|-;exact fin0 ⟨a.defers,u,rfl⟩ (Yv_ext hv hext) step
   have fin:∀{b:Act} {w':World},(∃ds u,b={a with defers:=ds}.put x.2.dst u)->K (b.put y.1.dst v) w'->jq P w7 y K b w':=fun hb h2=>fin0 hb ((Yv_pure py).1 hv) h2
   generalize (execOp a.eval x.2).run P w=r at step;cases r with
   |ok nx w'=>
    cases nx <;> simp only[jb]at step|-
    case value u=>exact fin ⟨a.defers,u,rfl⟩ step
    case skip=>exact fin ⟨a.defers,undef,rfl⟩ step
    case enter f args=>exact Calls.mono step (fun e w'' he=>by cases e <;> first|exact fin ⟨a.defers,_,rfl⟩ he|exact he)
    case round l f tmps assign body=>exact RoundIn.mono step (fun e w'' he=>by cases e <;> first|exact fin ⟨a.defers,_,rfl⟩ he|exact he)
   |halt z w'=>cases z <;> simp only[jb]at step|- <;> exact step
  ·rw[if_neg hw]at h1|-;refine(jp qy).2 ⟨v,(Yv_put qy (fun t e=>(axy t e).1)).2 hv,?_⟩;rw[comm];exact h1
theorem toFront {X:Nat->RO×Oper}{Q:Act->World->Prop}(i:Nat)(l2:List Nat)(gi:Good P n ops (X i)):∀(l1:List Nat),(∀j∈l1,Good P n ops (X j)/\indep (X i) (X j)=true)->
 ∀{a w},wpR P w7 Q ((l1++i::l2).map X) a w->wpR P w7 Q ((i::(l1++l2)).map X) a w:=by
 intro l1
 induction l1 with
 |nil=>intro _ a w h;exact h
 |cons j l1 ih=>
  intro hj a w h;have h1:jq P w7 (X j) (wpR P w7 Q ((i::(l1++l2)).map X)) a w:=wpR1_mono (fun a w h=>ih (fun k hk=>hj k (by simp[hk])) h) h;obtain⟨gj,hij⟩:=hj j Zs;exact swap gi gj hij h1
theorem reorder {X:Nat->RO×Oper}{Q:Act->World->Prop}:∀(l o:List Nat),o.Perm l->l.Nodup->(∀i∈l,Good P n ops (X i))->
 o.Pairwise (fun x y=>indep (X y) (X x)=true∨[x,y].Sublist l)->∀{a w},wpR P w7 Q (o.map X) a w->wpR P w7 Q (l.map X) a w:=by
 intro l
 induction l with
 |nil=>intro o hp _ _ _ a w h;rw[List.perm_nil.1 hp]at h;exact h
 |cons i l ih=>
  intro o hp hn hg hpw a w h;have hi:i∈o:=hp.mem_iff.2 Zs;obtain⟨o1,o2,rfl⟩:=List.append_of_mem hi;have hn':=QF.1 hn;have hind:∀x∈o1,indep (X i) (X x)=true:=by
   intro x hx;have hx2:=(List.pairwise_append.1 hpw).2.2 x hx i Zs;rcases hx2 with h|h
   ·exact h
   ·exfalso;cases h with
    |cons _ h=>exact hn'.1 (h.subset Zs)
    |cons_cons _ h=>exact hn'.1 (h.subset Zs)
  have h1:=toFront i o2 (hg i Zs) o1 (fun x hx=>⟨hg x (hp.mem_iff.1 (by simp[hx])),hind x hx⟩) h;have hp':(o1++o2).Perm l:=by
   have:=(QK (a:=i) (l₁:=o1) (l₂:=o2)).symm.trans hp;exact List.Perm.cons_inv this
  refine wpR1_mono (fun a w h=>ih (o1++o2) hp' hn'.2 (fun j hj=>hg j (by simp[hj])) ?_ h) h1;have hsub:(o1++o2).Sublist (o1++i::o2):=List.Sublist.append_left (QN i o2) o1;have hpw':=hpw.sublist hsub;refine hpw'.imp_of_mem (fun {x y} hx hy h=>?_);rcases h with h|h
  ·exact .inl h
  ·right;have hxi:x≠i:=by rintro rfl;exact hn'.1 (hp'.mem_iff.1 hx)
   cases h with
   |cons _ h=>exact h
   |cons_cons _ h=>exact absurd rfl hxi
end
end Go.V
namespace Go.V
open Go
def Bef(l:List Nat)(x y:Nat):Prop:=x∈l/\y∈l/\l.idxOf x < l.idxOf y
theorem idxOf_ne {a x:Nat}{l:List Nat}(h:a≠x):List.idxOf x (a::l)=List.idxOf x l+1:=by
 rw[List.idxOf_cons,show(a==x)=false from beq_eq_false_iff_ne.2 h];rfl
theorem Bef.trans {l:List Nat}{x y z:Nat}(h:Bef l x y)(k:Bef l y z):Bef l x z:=⟨h.1,k.2.1,Nat.lt_trans h.2.2 k.2.2⟩
theorem Bef.sub {x y:Nat}:∀{l:List Nat},Bef l x y->[x,y].Sublist l:=by
 intro l
 induction l with
 |nil=>rintro⟨h,_⟩;simp at h
 |cons a l ih=>
  rintro⟨h1,h2,h3⟩
  by_cases ex:a=x
  ·subst ex;refine List.Sublist.cons_cons _ (List.singleton_sublist.2 ?_);rcases Q4.1 h2 with rfl|h
   ·simp at h3
   ·exact h
  ·refine List.Sublist.cons _ (ih ?_);have hx:x∈l:=by rcases Q4.1 h1 with rfl|h;exact absurd rfl ex;exact h
   have ey:a≠y:=by
    rintro rfl
    simp[List.idxOf_cons]at h3
   have hy:y∈l:=by rcases Q4.1 h2 with rfl|h;exact absurd rfl ey;exact h
   refine⟨hx,hy,?_⟩;rw[idxOf_ne ex,idxOf_ne ey]at h3;omega
theorem sub_bef {x y:Nat}:∀{l:List Nat},l.Nodup->[x,y].Sublist l->Bef l x y:=by
 intro l
 induction l with
 |nil=>intro _ h;cases h
 |cons a l ih=>
  intro hn h;have hn':=QF.1 hn;cases h with
  |cons _ h=>
   obtain⟨h1,h2,h3⟩:=ih hn'.2 h;have ex:a≠x:=by rintro rfl;exact hn'.1 h1
   have ey:a≠y:=by rintro rfl;exact hn'.1 h2
   exact⟨by simp[h1],by simp[h2],by rw[idxOf_ne ex,idxOf_ne ey];omega⟩
  |cons_cons _ h=>
   have hy:y∈l:=List.singleton_sublist.1 h;have ey:x≠y:=by rintro rfl;exact hn'.1 hy
   exact⟨Zs,by simp[hy],by rw[idxOf_ne ey];simp⟩
section
variable {ops:Array Oper}
def jd(ops:Array Oper)(fuel t:Nat)(listed:Array Bool):List Nat:=Region.linearise.go .any ops fuel t listed []
theorem sched_succ(fuel t:Nat)(listed:Array Bool):jd ops (fuel+1) t listed=
 match(Region.ready .any ops listed)[t % (Region.ready .any ops listed).length]? with
 |some i=>i::jd ops fuel (t / (Region.ready .any ops listed).length) (listed.setIfInBounds i true)
 |none=>[]:=by
 unfold jd;simp only[Region.linearise.go];change (match(Region.ready .any ops listed)[t % (Region.ready .any ops listed).length]? with
  |some i=>Region.linearise.go .any ops fuel (t / (Region.ready .any ops listed).length) (listed.setIfInBounds i true) [i]
  |none=>[].reverse)=_
 split
 ·rw[linearise_go_acc];simp
 ·simp
def wQ(ops:Array Oper):Bool:=ops.toList.zipIdx.all fun(o,i)=>o.after.all fun e=>!Region.binds .any e||e.on < i
theorem backEdges_spec(h:wQ ops=true){i:Nat}{o:Oper}(ho:ops[i]? =some o){e:Edge}(he:e∈o.after)(hb:Region.binds .any e=true):e.on < i:=by
 simp only[wQ,vX]at h;have hm:(o,i)∈ops.toList.zipIdx:=by
  rw[List.mem_zipIdx_iff_getElem?];simpa using ho
 have h2:=Array.all_eq_true_iff_forall_mem.1 (h _ hm) e he;simpa[hb]using h2
def unl(ops:Array Oper)(listed:Array Bool):List Nat:=(List.range ops.size).filter fun i=>!listed.getD i true
theorem ready_ne(h:wQ ops=true){listed:Array Bool}(hs:listed.size=ops.size)(hu:unl ops listed≠[]):Region.ready .any ops listed≠[]:=by
 obtain⟨i,hi,hmin⟩:∃i,i∈unl ops listed/\∀j,j < i->j∉unl ops listed:=by
  obtain⟨k,hk⟩:=List.exists_mem_of_ne_nil _ hu;have:∀n,∀k,k<=n->k∈unl ops listed->∃i,i∈unl ops listed/\∀j,j < i->j∉unl ops listed:=by
   intro n
   induction n with
   |zero=>intro k hkn hk;exact⟨k,hk,fun j hj=>by omega⟩
   |succ n ih=>
    intro k hkn hk;by_cases hex:∃j,j < k/\j∈unl ops listed
    ·obtain⟨j,hj,hj'⟩:=hex;exact ih j Zo hj'
    ·exact⟨k,hk,fun j hj hj'=>hex ⟨j,hj,hj'⟩⟩
  exact this k k (QW _) hk
 intro he;have:i∈Region.ready .any ops listed:=by
  simp only[unl,Q7,QB,vK]at hi;rw[mem_ready];obtain⟨o,ho⟩:∃o,ops[i]? =some o:=⟨ops[i],by simp[hi.1]⟩;refine⟨hi.2,o,ho,fun e hee hb=>?_⟩;have hlt:=backEdges_spec h ho hee hb;have:=hmin e.on hlt;simp only[unl,Q7,QB,vK,not_and,Bool.not_eq_false]at this;have h2:=this Zo;have hlt2:e.on < listed.size:=by omega
  simpa[hlt2]using h2
 rw[he]at this;cases this
theorem sched_spec(hb:wQ ops=true):∀(fuel t:Nat) (listed:Array Bool),listed.size=ops.size->(unl ops listed).length<=fuel->
 (jd ops fuel t listed).Nodup/\(∀i,i∈jd ops fuel t listed↔i∈unl ops listed)/\
 ∀i∈jd ops fuel t listed,∀o,ops[i]? =some o->∀e∈o.after,Region.binds .any e=true->listed.getD e.on false=true∨Bef (jd ops fuel t listed) e.on i:=by
 intro fuel
 induction fuel with
 |zero=>
  intro t listed hs hl;have hnil:unl ops listed=[]:=List.length_eq_zero_iff.1 Zo;have:jd ops 0 t listed=[]:=by simp[jd,Region.linearise.go]
  rw[this,hnil];simp
 |succ fuel ih=>
  intro t listed hs hl;rw[sched_succ];cases hr:(Region.ready .any ops listed)[t % (Region.ready .any ops listed).length]? with
  |none=>
   have hnil:unl ops listed=[]:=by
    by_cases hu:unl ops listed=[]
    ·exact hu
    ·have hne:=ready_ne hb hs hu;have hlt:t % (Region.ready .any ops listed).length < (Region.ready .any ops listed).length:=Nat.mod_lt _ (List.length_pos_iff.2 hne);rw[Zg hlt]at hr;cases hr
   simp[hnil]
  |some i=>
   have hi:=Zv hr;obtain⟨hi0,o,ho,hedge⟩:=mem_ready.1 hi;have hin:i < ops.size:=(v8.1 ho).1;have hiu:i∈unl ops listed:=by simp only[unl,Q7,QB,vK];exact⟨hin,hi0⟩
   have hset:∀j,(listed.setIfInBounds i true).getD j true=if j=i then true else listed.getD j true:=by
    intro j;by_cases e:j=i
    ·subst e;simp[hs,hin]
    ·rw[getD_set_ne true (Ne.symm e)];simp[e]
   have hmem:∀j,j∈unl ops (listed.setIfInBounds i true)↔j∈unl ops listed/\j≠i:=by
    intro j;simp only[unl,Q7,QB,vK,hset];by_cases e:j=i <;> simp[e]
   have hlen:(unl ops (listed.setIfInBounds i true)).length<=fuel:=by
    have hp:(unl ops (listed.setIfInBounds i true)).Perm ((unl ops listed).erase i):=by
     have nd:(unl ops listed).Nodup:=QG.filter _;refine(QJ (QG.filter _) (nd.erase i)).2 (fun j=>?_);rw[nd.mem_erase_iff];rw[show(j∈List.filter (fun k=>!(listed.setIfInBounds i true).getD k true) (List.range ops.size))↔_ from hmem j];exact And.comm
    have:=hp.length_eq;rw[List.length_erase_of_mem hiu]at this;have hpos:0 < (unl ops listed).length:=List.length_pos_of_mem hiu;omega
   obtain⟨n1,n2,n3⟩:=ih (t / (Region.ready .any ops listed).length) (listed.setIfInBounds i true) (by simp[hs]) hlen;have hnot:i∉jd ops fuel (t / (Region.ready .any ops listed).length) (listed.setIfInBounds i true):=fun h=>((hmem i).1 ((n2 i).1 h)).2 rfl
   refine⟨QF.2 ⟨hnot,n1⟩,fun j=>?_,fun j hj o' ho' e he hbe=>?_⟩
   ·rw[Q4,n2,hmem];constructor
    ·rintro(rfl|h);exact hiu;exact h.1
    ·intro h;by_cases e:j=i;exact .inl e;exact .inr ⟨h,e⟩
   ·rcases Q4.1 hj with rfl|hj'
    ·rw[ho]at ho';cases ho';exact .inl (hedge e he hbe)
    ·have hji:i≠j:=fun e=>hnot (e ▸ hj')
     rcases n3 j hj' o' ho' e he hbe with h|h
     ·by_cases ei:e.on=i
      ·right;exact⟨by simp[ei],by simp[hj'],by rw[ei,idxOf_ne hji];simp⟩
      ·left;rw[getD_set_ne false (Ne.symm ei)]at h;exact h
     ·right;have ei:i≠e.on:=fun e'=>hnot (e' ▸ h.1)
      exact⟨by simp[h.1],by simp[hj'],by rw[idxOf_ne ei,idxOf_ne hji];have:=h.2.2;omega⟩
inductive Anc (ops:Array Oper):Nat->Nat->Prop where
 |edge {i:Nat} {o:Oper} {e:Edge}:ops[i]? =some o->e∈o.after->Region.binds .any e=true->Anc ops e.on i
 |step {i j:Nat} {o:Oper} {e:Edge}:ops[i]? =some o->e∈o.after->Region.binds .any e=true->Anc ops j e.on->Anc ops j i
def addNew(s:List Nat)(l:List Nat):List Nat:=l.foldl (fun s x=>if s.contains x then s else x::s) s
theorem mem_addNew {x:Nat}:∀{l s:List Nat},x∈addNew s l->x∈s∨x∈l:=by
 intro l
 induction l with
 |nil=>intro s h;exact .inl h
 |cons a l ih=>
  intro s h;simp only[addNew,List.foldl_cons]at h;rcases ih (s:=if s.contains a then s else a::s) h with h|h
  ·split at h
   ·exact .inl h
   ·rcases Q4.1 h with rfl|h
    ·exact .inr Zs
    ·exact .inl h
  ·exact .inr (by simp[h])
def ancStep(acc:List (List Nat))(o:Oper):List Nat:=
 o.after.toList.foldl (fun s e=>if Region.binds .any e then addNew (addNew s [e.on]) (acc.getD e.on [])else s) []
def ancGo:List Oper->List (List Nat)->List (List Nat)
 |[],acc=>acc
 |o::r,acc=>ancGo r (acc++[ancStep acc o])
def ancs(ops:Array Oper):List (List Nat):=ancGo ops.toList []
theorem ancStep_sound {acc:List (List Nat)}{k:Nat}{o:Oper}(ho:ops[k]? =some o)(hacc:∀j x,x∈acc.getD j []->Anc ops x j){x:Nat}(hx:x∈ancStep acc o):Anc ops x k:=by
 unfold ancStep at hx;have:∀(l:List Edge) (s:List Nat),(∀e∈l,e∈o.after)->(∀x∈s,Anc ops x k)->∀x∈l.foldl (fun s e=>if Region.binds .any e then addNew (addNew s [e.on]) (acc.getD e.on [])else s) s,Anc ops x k:=by
  intro l
  induction l with
  |nil=>intro s _ hs x hx;exact hs x hx
  |cons e l ih=>
   intro s hl hs x hx;simp only[List.foldl_cons]at hx;refine ih _ (fun e he=>hl e (by simp[he])) (fun y hy=>?_) x hx;split at hy
   ·rename_i hb;rcases mem_addNew hy with hy|hy
    ·rcases mem_addNew hy with hy|hy
     ·exact hs y hy
     ·rw[QC.1 hy];exact .edge ho (hl e Zs) hb
    ·exact .step ho (hl e Zs) hb (hacc _ _ hy)
   ·exact hs y hy
 exact this o.after.toList [] (fun e he=>by simpa using he) (fun _ h=>by cases h) x hx
theorem ancGo_sound:∀(l:List Oper) (acc:List (List Nat)),(∀j,l[j]? =ops[acc.length+j]?)->(∀j x,x∈acc.getD j []->Anc ops x j)->∀j x,x∈(ancGo l acc).getD j []->Anc ops x j:=by
 intro l
 induction l with
 |nil=>intro acc _ h;exact h
 |cons o l ih=>
  intro acc hl hacc;refine ih (acc++[ancStep acc o]) (fun j=>?_) (fun j x hx=>?_)
  ·have:=hl (j+1);simp only[V9]at this;rw[this];simp;congr 1;omega
  ·by_cases e:j < acc.length
   ·rw[V5,V7 e,<- V5]at hx;exact hacc j x hx
   ·rw[V5,V8 Zo]at hx;by_cases e2:j - acc.length=0
    ·rw[e2]at hx;have hj:j=acc.length:=by omega
     subst hj;have h0:=hl 0;simp at h0 hx;exact ancStep_sound h0.symm hacc hx
    ·have:([ancStep acc o]:List (List Nat))[j - acc.length]? =none:=by
      rw[Vb];simp;omega
     rw[this]at hx;simp at hx
theorem ancs_sound {x j:Nat}(h:x∈(ancs ops).getD j []):Anc ops x j:=ancGo_sound ops.toList [] Zs Zs j x h
theorem anc_bef(hb:wQ ops=true){fuel t:Nat}(hf:ops.size<=fuel){x y:Nat}(h:Anc ops x y):y < ops.size->Bef (jd ops fuel t (Array.replicate ops.size false)) x y:=by
 have hu:unl ops (Array.replicate ops.size false)=List.range ops.size:=by
  exact zAZ
 obtain⟨s1,s2,s3⟩:=sched_spec hb fuel t (Array.replicate ops.size false) Zs (by rw[hu];simpa using hf);have edge:∀{i:Nat} {o:Oper} {e:Edge},ops[i]? =some o->e∈o.after->Region.binds .any e=true->Bef (jd ops fuel t (Array.replicate ops.size false)) e.on i:=by
  intro i o e ho he hbe;have hi:i < ops.size:=(v8.1 ho).1;rcases s3 i ((s2 i).2 (by rw[hu];simpa using hi)) o ho e he hbe with h|h
  ·have:e.on < ops.size:=Nat.lt_trans (backEdges_spec hb ho he hbe) hi;simp[this]at h
  ·exact h
 induction h with
 |edge ho he hbe=>intro _;exact edge ho he hbe
 |step ho he hbe _ ih=>
  intro hi;exact(ih (Nat.lt_trans (backEdges_spec hb ho he hbe) hi)).trans (edge ho he hbe)
def insAll(x:Nat):List Nat->List (List Nat)
 |[]=>[[x]]
 |y::r=>(x::y::r)::(insAll x r).map (y::·)
def perms:List Nat->List (List Nat)
 |[]=>[[]]
 |x::r=>(perms r).flatMap (insAll x)
theorem mem_insAll {x:Nat}(l1 l2:List Nat):l1++x::l2∈insAll x (l1++l2):=by
 induction l1 with
 |nil=>cases l2 <;> simp[insAll]
 |cons a l1 ih=>simp only[vf,insAll,Q4,Q9];right;exact⟨_,ih,rfl⟩
theorem mem_perms:∀{d s:List Nat},s.Perm d->s∈perms d:=by
 intro d
 induction d with
 |nil=>intro s h;rw[List.perm_nil.1 h];simp[perms]
 |cons x d ih=>
  intro s h;have hx:x∈s:=h.mem_iff.2 Zs;obtain⟨l1,l2,rfl⟩:=List.append_of_mem hx;have:=ih (List.Perm.cons_inv ((QK (a:=x) (l₁:=l1) (l₂:=l2)).symm.trans h));simp only[perms,Q8];exact⟨_,this,mem_insAll l1 l2⟩
def befB(x y:Nat):List Nat->Bool
 |[]=>false
 |z::r=>if z=x then r.contains y else befB x y r
theorem befB_sub {x y:Nat}:∀{l:List Nat},befB x y l=true->[x,y].Sublist l:=by
 intro l
 induction l with
 |nil=>intro h;cases h
 |cons z r ih=>
  intro h;simp only[befB]at h;split at h
  ·rename_i e;subst e;exact List.Sublist.cons_cons _ (List.singleton_sublist.2 (by simpa using h))
  ·exact List.Sublist.cons _ (ih h)
def zE(p:Nat->Nat->Bool):List Nat->Bool
 |[]=>true
 |x::r=>r.all (p x)&&zE p r
theorem pairsAll_spec {p:Nat->Nat->Bool}:∀{l:List Nat},zE p l=true->l.Pairwise fun x y=>p x y=true:=by
 intro l
 induction l with
 |nil=>intro _;exact .nil
 |cons x r ih=>
  intro h;simp only[zE,vF,vX]at h;exact .cons h.1 (ih h.2)
theorem mem_of_full {n:Nat}:∀{o:List Nat},o.Nodup->(∀x∈o,x < n)->o.length=n->∀{x},x < n->x∈o:=by
 induction n with
 |zero=>intro o _ _ _ x hx;omega
 |succ n ih=>
  intro o hn hlt hlen x hx;have hmem:n∈o:=by
   refine Classical.byContradiction fun hno=>?_
   have h2:∀x∈o,x < n:=fun y hy=>by
    have:=hlt y hy;have:y≠n:=fun e=>hno (e ▸ hy)
    omega
   have key:∀(m:Nat) (l:List Nat),l.Nodup->(∀y∈l,y < m)->l.length<=m:=by
    intro m
    induction m with
    |zero=>intro l _ h;cases l with|nil=>simp|cons a l=>exact absurd (h a Zs) Zo
    |succ m ihm=>
     intro l hl hb;have:=ihm (l.erase m) (hl.erase m) (fun y hy=>by
      have h1:=hb y (List.mem_of_mem_erase hy);have h2:y≠m:=fun e=>by rw[e]at hy;exact(hl.mem_erase_iff.1 hy).1 rfl
      omega)
     by_cases hm:m∈l
     ·rw[List.length_erase_of_mem hm]at this;omega
     ·rw[List.erase_of_not_mem hm]at this;omega
   have:=key n o hn h2;omega
  by_cases e:x=n
  ·exact e ▸ hmem
  ·have:=ih (o:=o.erase n) (hn.erase n) (fun y hy=>by
    have h1:=hlt y (List.mem_of_mem_erase hy);have h2:y≠n:=fun e=>by rw[e]at hy;exact(hn.mem_erase_iff.1 hy).1 rfl
    omega) (by rw[List.length_erase_of_mem hmem];omega) (x:=x) Zo
   exact List.mem_of_mem_erase this
instance:Inhabited RO:=⟨⟨none,none,.mkmap⟩⟩
def indepAt(rs:List (RO×Oper))(x y:Nat):Bool:=match rs[x]?,rs[y]? with|some a,some b=>indep b a|_,_=>false
def nodupB:List Nat->Bool
 |[]=>true
 |x::r=>!r.contains x&&nodupB r
theorem nodupB_spec:∀{l:List Nat},nodupB l=true->l.Nodup:=by
 intro l
 induction l with
 |nil=>intro _;exact .nil
 |cons x r ih=>
  intro h;simp only[nodupB,vF,vK]at h;exact QF.2 ⟨by simpa using h.1,ih h.2⟩
def clash(both:Bool)(rs:List (RO×Oper))(an:List (List Nat))(n:Nat):List Nat:=
 (List.range n).filter fun x=>(List.range n).any fun y=>x !=y&&!(an.getD x []).contains y&&!(an.getD y []).contains x&&!(if both then indepAt rs x y&&indepAt rs y x else indepAt rs x y||indepAt rs y x)
def coverG(both:Bool)(rs:List (RO×Oper))(ops:Array Oper)(orders:List (List Nat)):Bool:=
 let an:=ancs ops
 let n:=ops.size
 let d:=clash both rs an n
 wQ ops&&nodupB d&&orders.all (fun o=>o.length==n&&nodupB o&&o.all (·< n))&&
 (perms d).all fun s=>!(zE (fun x y=>!(an.getD x []).contains y) s)||orders.any fun o=>zE (fun x y=>indepAt rs x y||(an.getD y []).contains x||befB x y s) o
def coverB(rs:List (RO×Oper))(ops:Array Oper)(orders:List (List Nat)):Bool:=coverG false rs ops orders||coverG true rs ops orders
theorem coverOf {both:Bool}{P:Program}{n:Nat}{rs:List (RO×Oper)}{orders:List (List Nat)}{Q:Act->World->Prop}{a:Act}{w:World}(hlen:rs.length=ops.size)(hX:∀(i:Nat) x,rs[i]? =some x->Good P n ops x)
 (hc:coverG both rs ops orders=true) (h:∀o∈orders,wpR P w7 Q (o.map fun i=>rs.getD i default) a w) (t:Nat):
 wpR P w7 Q ((jd ops ops.size t (Array.replicate ops.size false)).map fun i=>rs.getD i default) a w:=by
 simp only[coverG,vF]at hc;obtain⟨⟨⟨hb,hd⟩,ho⟩,hp⟩:=hc;have hu:unl ops (Array.replicate ops.size false)=List.range ops.size:=by
  exact zAZ
 obtain⟨s1,s2,_⟩:=sched_spec hb ops.size t (Array.replicate ops.size false) Zs (by rw[hu];simp);generalize hl:jd ops ops.size t (Array.replicate ops.size false)=l at s1 s2|-;have hanc:∀{x y:Nat},y < ops.size->x∈(ancs ops).getD y []->Bef l x y:=fun hy hx=>hl ▸ anc_bef hb (QW _) (ancs_sound hx) hy
 have hmem:∀i,i∈l↔i < ops.size:=fun i=>by rw[s2,hu];simp
 generalize hdd:clash both rs (ancs ops) ops.size=d at hd hp;have hdlt:∀x∈d,x < ops.size:=by
  exact zCF
 have hsp:(l.filter (d.contains ·)).Perm d:=by
  exact zB7
 have hall:=vX.1 hp _ (mem_perms hsp);simp only[vO,vK,vY]at hall;have hresp:zE (fun x y=>!((ancs ops).getD x []).contains y) (l.filter (d.contains ·))=true:=by
  exact zAD
 rcases hall with hall|⟨o,hom,hpo⟩
 ·rw[hresp]at hall;cases hall
 have ho':=vX.1 ho o hom;simp only[vF,beq_iff_eq,vX,decide_eq_true_eq]at ho';obtain⟨⟨o1,o2⟩,o3⟩:=ho';have hperm:o.Perm l:=by
  exact zAI
 refine reorder (P:=P) (n:=n) (ops:=ops) l o hperm s1 (fun i hi=>?_) ?_ (h o hom)
 ·have hi':=(hmem i).1 hi;have:rs[i]? =some (rs.getD i default):=by
   rw[V5];have hlt:i < rs.length:=by omega
   simp[hlt]
  exact hX i _ this
 ·exact zAN
theorem cover {P:Program}{n:Nat}{rs:List (RO×Oper)}{orders:List (List Nat)}{Q:Act->World->Prop}{a:Act}{w:World}(hlen:rs.length=ops.size)(hX:∀(i:Nat) x,rs[i]? =some x->Good P n ops x)
 (hc:coverB rs ops orders=true) (h:∀o∈orders,wpR P w7 Q (o.map fun i=>rs.getD i default) a w) (t:Nat):
 wpR P w7 Q ((jd ops ops.size t (Array.replicate ops.size false)).map fun i=>rs.getD i default) a w:=by
 unfold coverB at hc;rcases vP.1 hc with hc|hc
 ·exact coverOf hlen hX hc h t
 ·exact coverOf hlen hX hc h t
end
end Go.V
namespace Go.V
open Go
abbrev Env:=List (Nat×Value)
abbrev SH:=List (List kC)
def look:Env->Nat->Option Value
 |[],_=>none
 |(s,v)::r,t=>if s=t then some v else look r t
def ev(Γ:Env):Operand->Option Value
 |.tmp t=>look Γ t
 |.const v=>some v
 |.global g=>some (.pointer (some ⟨g,0,none⟩))
 |.func f=>some (.func (.func f) #[] #[])
def evs(Γ:Env):List Operand->Option (List Value)
 |[]=>some []
 |x::r=>match ev Γ x,evs Γ r with
  |some v,some l=>some (v::l)
  |_,_=>none
structure jn (n:Nat)(Γ:Env)(a:Act):Prop where
 size:a.tmps.size=n
 slots:∀t v,look Γ t=some v->a.tmps[t]? =some v
def Sub(Γ Δ:Env):Prop:=∀t v,look Δ t=some v->look Γ t=some v
theorem jn.sub {n:Nat}{Γ Δ:Env}{a:Act}(h:jn n Γ a)(s:Sub Γ Δ):jn n Δ a:=⟨h.size,fun t v e=>h.slots t v (s t v e)⟩
theorem jn.put {n:Nat}{Γ:Env}{a:Act}(h:jn n Γ a){d:Nat}(hd:d < n)(v:Value):jn n ((d,v)::Γ) (a.put (some d) v):=by
 refine⟨by simp[Act.put,h.size],fun t u e=>?_⟩;simp only[look]at e;split at e
 ·rename_i hd';subst hd';cases e;simp[Act.put,h.size,hd]
 ·rename_i hne;simp only[Act.put,vA hne];exact h.slots t u e
theorem jn.ev {n:Nat}{Γ:Env}{a:Act}(h:jn n Γ a){x:Operand}{v:Value}(e:ev Γ x=some v):a.eval x=v:=by
 cases x with
 |tmp t=>simp only[V.ev]at e;simp[Act.eval,Array.getD_eq_getD_getElem?,h.slots t v e]
 |const u=>simpa[V.ev,Act.eval]using e
 |global g=>simpa[V.ev,Act.eval]using e
 |func f=>simpa[V.ev,Act.eval]using e
theorem jn.evs {n:Nat}{Γ:Env}{a:Act}(h:jn n Γ a):∀{l:List Operand} {vs:List Value},evs Γ l=some vs->l.map a.eval=vs:=by
 intro l
 induction l with
 |nil=>intro vs e;simp[V.evs]at e;subst e;rfl
 |cons x r ih=>
  intro vs e;simp only[V.evs]at e;split at e
  ·rename_i v l hv hl;cases e;simp[h.ev hv,ih hl]
  ·cases e
def putE(d:Option Nat)(v:Value)(Γ:Env):Env:=match d with|some d=>(d,v)::Γ|none=>Γ
theorem jn.putE {n:Nat}{Γ:Env}{a:Act}(h:jn n Γ a){d:Option Nat}(hd:∀t,d=some t->t < n)(v:Value):jn n (V.putE d v Γ) (a.put d v):=by
 cases d with
 |none=>exact h
 |some d=>exact h.put (hd d rfl) v
def LowAll(P:Program)(n:Nat)(rs:List RO)(l:List (RO×Oper)):Prop:=l.map (·.1)=rs/\∀x∈l,∃ops,lowRO P n ops x.2=some x.1
theorem jV(a:Act)(d:Option Nat)(v:Value):(a.put d v).defers=a.defers:=by cases d <;> rfl
def VO(P:Program)(n:Nat)(rs:List RO)(Γ:Env)(H:SH)(Z:List PanicEntry->Env->SH->Prop)(K:Env->SH->Prop):Prop:=
 ∀l,LowAll P n rs l->∀a w F (ZZ:Exit->Act->World->Prop) (Q:Act->World->Prop),jn n Γ a->Sat w (H.flatten++F)->
  (∀a' w' Γ' H',K Γ' H'->jn n Γ' a'->a'.defers=a.defers->Sat w' (H'.flatten++F)->kg w w'->Q a' w')->
  (∀ch a' w' Γ' H',Z ch Γ' H'->jn n Γ' a'->a'.defers=a.defers->Sat w' (H'.flatten++F)->kg w w'->ZZ (.panic ch) a' w')->wpR P ZZ Q l a w
def Fun(P:Program)(f:Nat)(args:List Value)(Pre:SH)(Q:Value->SH->Prop):Prop:=
 ji P f=true/\∀F w,Sat w (Pre.flatten++F)->
  Calls P f args.toArray w fun e w'=>∃v Post,e=.returned v/\Q v Post/\Sat w' (Post.flatten++F)/\kg w w'
def Spl(H Pre R:SH):Prop:=H.flatten.Perm (Pre.flatten++R.flatten)
section
variable {P:Program} {n:Nat} {rs:List RO} {Γ Δ:Env} {H:SH} {Z:List PanicEntry->Env->SH->Prop} {K:Env->SH->Prop}
theorem VO.nil(h:K Γ H):VO P n [] Γ H Z K:=by
 intro l hl a w F ZZ Q ha hs hq hz;obtain rfl:l=[]:=by simpa using hl.1
 exact hq a w Γ H h ha rfl hs (.refl w)
theorem VO.sub(s:Sub Γ Δ)(h:VO P n rs Δ H Z K):VO P n rs Γ H Z K:=fun l hl a w F ZZ Q ha hs hq hz=>h l hl a w F ZZ Q (ha.sub s) hs hq hz
theorem VO.mono {K':Env->SH->Prop}(h:VO P n rs Γ H Z K)(hk:∀Γ H,K Γ H->K' Γ H):VO P n rs Γ H Z K':=fun l hl a w F ZZ Q ha hs hq hz=>h l hl a w F ZZ Q ha hs (fun a' w' Γ' H' k=>hq a' w' Γ' H' (hk _ _ k)) hz
theorem wp {r:RO}{l:List (RO×Oper)}(h:LowAll P n (r::rs) l):∃o l',l=(r,o)::l'/\LowAll P n rs l'/\∃ops,lowRO P n ops o=some r:=by
 obtain⟨h1,h2⟩:=h;cases l with
 |nil=>simp at h1
 |cons x l=>
  simp at h1;obtain⟨rfl,h1⟩:=h1;exact⟨x.2,l,rfl,⟨h1,fun y hy=>h2 y (by simp[hy])⟩,h2 x Zs⟩
theorem VO.pure {d:Option Nat}{r:R}{v:Value}(hp:kY r=true)(hv:∀ρ:Operand->Value,(∀x u,ev Γ x=some u->ρ x=u)->kS ρ r=some v)(h:VO P n rs (putE d v Γ) H Z K):VO P n (⟨d,none,r⟩::rs) Γ H Z K:=by
 intro l hl a w F ZZ Q ha hs hq hz;obtain⟨o,l',rfl,hl',ops,ho⟩:=wp hl;obtain⟨g1,g2,g3,g4⟩:=jE ho;show jq P ZZ (_,o) (wpR P ZZ Q l') a w;unfold jq;simp only[j8,hp,if_true];exact⟨v,hv a.eval (fun x u e=>ha.ev e),h l' hl' _ w F ZZ Q (ha.putE g3 v) hs (fun a2 w2 Γ2 H2 k1 k2 k3 k4 k5=>hq a2 w2 Γ2 H2 k1 k2 (k3.trans (jV ..)) k4 k5) (fun ch a2 w2 Γ2 H2 k1 k2 k3 k4 k5=>hz ch a2 w2 Γ2 H2 k1 k2 (k3.trans (jV ..)) k4 k5)⟩
theorem VO.read {d:Option Nat}{r:R}{v:Value}(hp:kY r=false)(hr:jA r=true)(hv:∀ρ:Operand->Value,(∀x u,ev Γ x=some u->ρ x=u)->∃s,jw ρ r=some s/\∀F w,Sat w (H.flatten++F)->s.run P w=.ok (.value v) w)
 (h:VO P n rs (putE d v Γ) H Z K):VO P n (⟨d,none,r⟩::rs) Γ H Z K:=by
 intro l hl a w F ZZ Q ha hs hq hz;obtain⟨o,l',rfl,hl',ops,ho⟩:=wp hl;obtain⟨g1,g2,g3,g4⟩:=jE ho;show jq P ZZ (_,o) (wpR P ZZ Q l') a w;unfold jq;obtain⟨s,h1,h2⟩:=hv a.eval (fun x u e=>ha.ev e);simp only[j8,hp,hr,if_true,vI,if_false];exact⟨s,v,h1,fun w2 e2=>h2 F w2 (hs.ext e2),h l' hl' _ w F ZZ Q (ha.putE g3 v) hs (fun a2 w2 Γ2 H2 k1 k2 k3 k4 k5=>hq a2 w2 Γ2 H2 k1 k2 (k3.trans (jV ..)) k4 k5) (fun ch a2 w2 Γ2 H2 k1 k2 k3 k4 k5=>hz ch a2 w2 Γ2 H2 k1 k2 (k3.trans (jV ..)) k4 k5)⟩
theorem ext_push {w:World}(o:Obj):Ext w {w with heap:=w.heap.push o}:=fun i x h=>by
 have hl:=(v8.1 h).1;show(w.heap.push o)[i]? =_;rw[Array.getElem?_push,if_neg (Nat.ne_of_lt hl)];exact h
theorem ext_freeze {w:World}{a:Addr}{n:Nat}(h:w.heap.size<=a.block):∀{w':World},Ext w w'->Ext w (w'.freeze a n):=by
 intro w' e i o hi;have hl:=(v8.1 hi).1;unfold World.freeze;split
 ·exact e _ _ hi
 ·have:=e _ _ hi;simp only[v9,this,if_neg (show ¬a.block=i by omega)]
theorem run_new_ext {w w':World}{c:Array Value}{t:TypeId}{f:Nat->Next}{nx:Next}(h:(do let b <- Go.newObj (.cells c t);pure (f b):Sem Next).run P w=.ok nx w'):nx=f w.heap.size/\Ext w w':=by
 simp only[Go.newObj,Sem.run_bind,Sem.run,Sem.run_pure,Result.andThen_ok]at h;cases h;exact⟨rfl,ext_push _⟩
theorem run_s2b_ext {w w':World}{t:TypeId}{s:ByteArray}{v:Value}(h:(Conv.stringToBytes t s).run P w=.ok v w'):Ext w w':=by
 unfold Conv.stringToBytes at h;rw[Sem.run_bind]at h;obtain⟨cap,w1,h1,h2⟩:=kn h;have e1:w1.heap=w.heap:=by
  simp only[Go.choose,Sem.run]at h1;split at h1 <;> (cases h1;rfl)
 have x1:Ext w w1:=fun i o e=>by rw[e1];exact e
 refine x1.trans ?_;rw[Sem.run_bind]at h2;obtain⟨a,w2,h3,h4⟩:=kn h2;have h3':a=⟨w1.heap.size,0,none⟩/\w2={w1 with heap:=w1.heap.push (.cells (s.data.map (fun b=>Value.int .u8 b.toNat)++Array.replicate (cap - s.size) (.int .u8 0)) t)}:=by
  simp only[newRow,Go.newObj,Sem.run_bind,Sem.run,Sem.run_pure,Result.andThen_ok]at h3;cases h3;exact⟨rfl,rfl⟩
 obtain⟨rfl,rfl⟩:=h3';rw[Sem.run_bind]at h4;obtain⟨_,w3,h5,h6⟩:=kn h4;rw[Sem.run_pure]at h6;cases h6;unfold markStringish at h5;rw[Sem.run_bind]at h5;simp only[Go.shape,Sem.run,Result.andThen_ok]at h5;split at h5
 ·simp only[Go.freeze,Sem.run]at h5;cases h5;exact ext_freeze (QW _) (ext_push _)
 ·rw[Sem.run_pure]at h5;cases h5;exact ext_push _
theorem loadFrom_any {P:Program}{a:Addr}:∀(k i:Nat) (acc:Array Value) (w1:World) (r:Array Value) (w2:World),(loadCellsFrom a i k acc).run P w1=.ok r w2->w2=w1:=by
 exact zB5
theorem first_same {P:Program}{size n:Nat}{x:Value}{w w':World}{c:Array Value}(h:(Builtin.firstCells size n x).run P w=.ok c w'):w'=w:=by
 unfold Builtin.firstCells at h;split at h
 ·exact loadFrom_any _ _ _ _ _ _ h
 ·rw[Sem.run_pure]at h;cases h;rfl
 ·rw[Sem.run_pure]at h;cases h;rfl
 ·simp[stuck,Sem.run]at h
theorem memS_new {ρ:Operand->Value}{r:R}{s:Sem Next}{w w':World}{nx:Next}(hρ:∀u,ρ (.const u)=u)(hn:isNew r=true)(hs:jw ρ r=some s)(h:s.run P w=.ok nx w'):∃u,nx=.value u/\Ext w w':=by
 cases r
 case append t size bytes zero sx x=>
  have e:sx=.const (.slice none 0 0):=by
   unfold isNew at hn;split at hn <;> first|(rename_i e;cases e;done)|(rename_i e;cases e;rfl)|cases hn
  subst e;simp only[jw,hρ,Qo]at hs;subst hs;cases hm:seqLen (ρ x)with
  |none=>rw[hm]at h;simp[stuck,Sem.run]at h
  |some m=>
   rw[hm]at h;simp only at h;split at h
   ·rw[Sem.run_bind]at h;obtain⟨c,w1,h1,h2⟩:=kn h;rw[first_same h1]at h2;simp only[Sem.run_bind,Sem.run_pure,Result.andThen_ok]at h2;cases h2;exact⟨_,rfl,.refl _⟩
   ·split at h
    ·simp[stuck,Sem.run]at h
    ·rw[Sem.run_bind]at h;obtain⟨cap,w1,h1,h2⟩:=kn h;have e1:w1.heap=w.heap:=by
      simp only[Go.choose,Sem.run]at h1;split at h1 <;> (cases h1;rfl)
     have x1:Ext w w1:=fun i o e=>by rw[e1];exact e
     rw[Sem.run_bind]at h2;obtain⟨old,w2,h3,h4⟩:=kn h2;rw[first_same h3]at h4;rw[Sem.run_bind]at h4;obtain⟨new,w3,h5,h6⟩:=kn h4;rw[first_same h5]at h6;obtain⟨rfl,e⟩:=run_new_ext h6;exact⟨_,rfl,x1.trans e⟩
 all_goals simp only[isNew]at hn
 all_goals first|(cases hn;done)|skip
 all_goals (simp only[jw,Qo]at hs;subst hs)
 case alloc=>obtain⟨rfl,e⟩:=run_new_ext h;exact⟨_,rfl,e⟩
 case box=>obtain⟨rfl,e⟩:=run_new_ext h;exact⟨_,rfl,e⟩
 case bslice=>
  split at h
  ·obtain⟨rfl,e⟩:=run_new_ext h;exact⟨_,rfl,e⟩
  ·simp[stuck,Sem.run]at h
 case mkmap=>
  simp only[Go.newObj,Sem.run_bind,Sem.run,Sem.run_pure,Result.andThen_ok]at h;cases h;exact⟨_,rfl,ext_push _⟩
 case s2b=>
  split at h
  ·rw[Sem.run_bind]at h;obtain⟨v,w1,h1,h2⟩:=kn h;rw[Sem.run_pure]at h2;cases h2;exact⟨_,rfl,run_s2b_ext h1⟩
  ·simp[stuck,Sem.run]at h
theorem VO.act {d:Option Nat}{r:R}(hp:kY r=false)(hr:jA r=false)
 (hv:∀ρ:Operand->Value,(∀x u,ev Γ x=some u->ρ x=u)->∃s,jw ρ r=some s/\SWP P s H.flatten fun nx L=>∃v H',(nx=.value v∨(nx=.skip/\v=undef))/\L.Perm H'.flatten/\VO P n rs (putE d v Γ) H' Z K):
 VO P n (⟨d,none,r⟩::rs) Γ H Z K:=by
 intro l hl a w F ZZ Q ha hs hq hz;obtain⟨o,l',rfl,hl',ops,ho⟩:=wp hl;obtain⟨g1,g2,g3,g4⟩:=jE ho;show jq P ZZ (_,o) (wpR P ZZ Q l') a w;unfold jq;obtain⟨s,h1,h2⟩:=hv a.eval (fun x u e=>ha.ev e);simp only[j8,hp,hr,if_true,vI,if_false];obtain⟨nx,w',L,hrun,⟨v,H',hnx,hL,hvo⟩,hs',hk⟩:=h2 F w hs;have hrun':=mem_sound (zP a) g1 h1 hrun;refine⟨fun hn=>?_,?_⟩
 ·obtain⟨u,hu,hext⟩:=memS_new (zP a) hn h1 hrun;exact⟨u,w',by rw[hrun',hu],hext⟩
 have fin:wpR P ZZ Q l' (a.put o.dst v) w':=by
  rw[<- g2];exact hvo l' hl' _ w' F ZZ Q (ha.putE g3 v) (hs'.perm (hL.append_right F)) (fun a2 w2 Γ2 H2 k1 k2 k3 k4 k5=>hq a2 w2 Γ2 H2 k1 k2 (k3.trans (jV ..)) k4 (hk.trans k5)) (fun ch a2 w2 Γ2 H2 k1 k2 k3 k4 k5=>hz ch a2 w2 Γ2 H2 k1 k2 (k3.trans (jV ..)) k4 (hk.trans k5))
 rcases hnx with rfl|⟨rfl,rfl⟩
 ·simpa only[wpV,hrun',jb]using fin
 ·simpa only[wpV,hrun',jb]using fin
theorem VO.act' {d:Option Nat}{r:R}(hp:kY r=false)(hr:jA r=false)
 (hv:∀ρ:Operand->Value,(∀x u,ev Γ x=some u->ρ x=u)->∃s,jw ρ r=some s/\SWP P s H.flatten fun nx L=>∃v H' X,(nx=.value v∨(nx=.skip/\v=undef))/\L.Perm (List.flatten H'++X)/\VO P n rs (putE d v Γ) H' Z K):
 VO P n (⟨d,none,r⟩::rs) Γ H Z K:=by
 refine VO.act hp hr (fun ρ hρ=>?_);obtain⟨s,h1,h2⟩:=hv ρ hρ;refine⟨s,h1,fun F w hs=>?_⟩;obtain⟨nx,w',L,k1,⟨v,H',X,k2,k3,k4⟩,k5,k6⟩:=h2 F w hs;refine⟨nx,w',H'.flatten,k1,⟨v,H',k2,.refl _,k4⟩,?_,k6⟩;have:=k5.perm (k3.append_right F);exact zDZ
theorem wz {f:Nat}{args:Array Value}{w:World}(h:ji P f=true):(callFunc f args).run P w=.ok (.enter f args) w:=by
 unfold ji at h;split at h
 ·rename_i fn hf;simp only[vF,bne_iff_ne]at h;obtain⟨c,hc⟩:=Qj.1 h.2;simp[callFunc,hf,h.1,hc]
 ·cases h
theorem wp_call {o:Oper}{a:Act}{w:World}{f:Nat}{args:List Value}{next:Act->World->Prop}{ZZ:Exit->Act->World->Prop}(he:(execOp a.eval o).run P w=.ok (.enter f args.toArray) w)
 (h:Calls P f args.toArray w fun e w'=>(∃v,e=.returned v/\next (a.put o.dst v) w')∨(∃ch,e=.panicked ch/\ZZ (.panic ch) a w')):wpV P o a w next ZZ:=by
 simp only[wpV,he,jb];refine h.mono ?_
 rintro e w' (⟨v,rfl,hn⟩|⟨ch,rfl,hn⟩)
 ·exact hn
 ·exact hn
theorem VO.call_aux {d:Option Nat}{r:R}{f:Nat}{args:List Value}{Pre R:SH}{Q:Value->SH->Prop}(hp:kY r=false)(hr:jA r=false)(hnw:isNew r=false)
 (hx:∀(a:Act) (w:World) (o:Oper),(∀x u,ev Γ x=some u->a.eval x=u)->kz P o.op=some r->(execOp a.eval o).run P w=.ok (.enter f args.toArray) w)
 (hf:Fun P f args Pre Q) (hs:Spl H Pre R) (h:∀v Post,Q v Post->VO P n rs (putE d v Γ) (Post++R) Z K):VO P n (⟨d,none,r⟩::rs) Γ H Z K:=by
 intro l hl a w F ZZ Q' ha hsat hq hz;obtain⟨o,l',rfl,hl',ops,ho⟩:=wp hl;obtain⟨g1,g2,g3,g4⟩:=jE ho;show jq P ZZ (_,o) (wpR P ZZ Q' l') a w;unfold jq;simp only[j8,hp,hr,if_true,vI,if_false];refine⟨fun e=>(by rw[hnw]at e;cases e),?_⟩;refine wp_call (hx a w o (fun x u e=>ha.ev e) g1) ?_;have hsat':Sat w (Pre.flatten++(R.flatten++F)):=by
  exact zCU
 refine(hf.2 (R.flatten++F) w hsat').mono ?_
 rintro e w' ⟨v,Post,rfl,hQ,hs',hk⟩
 refine .inl ⟨v,rfl,?_⟩;exact zBF
theorem low_call {op:Op}{f:Nat}{xs:List Operand}(h:kz P op=some (.call f xs)):∃c,op=.call c/\c.callee=.value (.func f)/\c.args.toList=xs/\ji P f=true:=by
 cases op
 case call c=>
  refine⟨c,rfl,?_⟩;obtain⟨callee,args,ats⟩:=c;simp only[kz]at h;split at h
  ·split at h
   ·rename_i hc;cases h;exact⟨rfl,rfl,hc⟩
   ·cases h
  ·cases h
  all_goals (repeat' split at h)
  all_goals first
   |(cases h;done)
   |(simp only[Qk]at h;obtain⟨_,_,h⟩:=h;cases h;done)
 all_goals (exfalso;try simp only[kz]at h)
 all_goals (repeat' split at h)
 all_goals first
  |(cases h;done)
  |(simp only[Qk]at h;obtain⟨_,_,h⟩:=h;cases h;done)
theorem low_callv {op:Op}{x:Operand}{xs:List Operand}(h:kz P op=some (.callv x xs)):∃c,op=.call c/\c.callee=.value x/\c.args.toList=xs:=by
 cases op
 case call c=>
  refine⟨c,rfl,?_⟩;obtain⟨callee,args,ats⟩:=c;simp only[kz]at h;split at h
  ·split at h
   ·cases h
   ·cases h
  ·cases h;exact⟨rfl,rfl⟩
  all_goals (repeat' split at h)
  all_goals first
   |(cases h;done)
   |(simp only[Qk]at h;obtain⟨_,_,h⟩:=h;cases h;done)
 all_goals (exfalso;try simp only[kz]at h)
 all_goals (repeat' split at h)
 all_goals first
  |(cases h;done)
  |(simp only[Qk]at h;obtain⟨_,_,h⟩:=h;cases h;done)
theorem VO.call {d:Option Nat}{f:Nat}{xs:List Operand}{args:List Value}{Pre R:SH}{Q:Value->SH->Prop}(hf:Fun P f args Pre Q)(he:evs Γ xs=some args)(hs:Spl H Pre R)
 (h:∀v Post,Q v Post->VO P n rs (putE d v Γ) (Post++R) Z K):VO P n (⟨d,none,.call f xs⟩::rs) Γ H Z K:=by
 refine VO.call_aux rfl rfl rfl (fun a w o ha hl=>?_) hf hs h;obtain⟨c,h1,h2,h3,h4⟩:=low_call hl;have hm:xs.map a.eval=args:=by
  have:∀{l:List Operand} {vs:List Value},evs Γ l=some vs->l.map a.eval=vs:=by
   intro l
   induction l with
   |nil=>intro vs e;simp[evs]at e;subst e;rfl
   |cons x r ih=>
    intro vs e;simp only[evs]at e;split at e
    ·rename_i v l hv hl;cases e;simp[ha _ _ hv,ih hl]
    ·cases e
  exact this he
 have hargs:(c.args.map a.eval)=args.toArray:=by
  exact zE5
 simp[execOp,h1,resolve,h2,Act.eval,Deferred.ofValue,invoke,hargs,wz h4]
end
end Go.V
