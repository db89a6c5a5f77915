/-
  Looks: a send.
-/
import Derived.Test.YtijnokbblmbpkaaGreatDoorS13
import Derived.Test.YtijnokbblmbpkaaGreatDoorS11
import Derived.KernelRfl
import Derived.Test.YtijnokbblmbpkaaGreatDoorProg
set_option linter.unusedSimpArgs false
set_option linter.unusedVariables false
namespace Go.Proofs.YtijnokbblmbpkaaGreatDoor
open Go Go.V
set_option maxHeartbeats 3200000
set_option maxRecDepth 100000
theorem node_k4(A:List kC)(hE:ErA A)(x:Nd)(vs:List Value)(h:jQ A x vs)(hw:x.w<=274877906944)(hok:∀y us,y∈x.kids->jQ A y us->wx A y us)(hk:x.kind=4):NodeSw A x vs:=by
 intro lb q r m0 deep;cases h with
 |@mk k s lit args temps kids p lv av tv a c bk o us wf hl hav htv ha hm hr hcp=>
 simp only[Nd.kind]at hk;have hl2:=hl;cases hl2 with
 |@mk lk ln lbt lt items la lc lbk lo lus lwf lha lhm lhr=>
 have hav2:=hav;have htv2:=htv;obtain⟨aa,ac,rfl,hal,har⟩:=hav2;obtain⟨ta,tc,rfl,htl,htr⟩:=htv2;have hkids:zS A kids a bk o us:=⟨ha,wf.many,hm,hr,fun i y e=>hok y (us i) (Zv e) (hr i y e)⟩;have hns:=wf.name;have hmany:=wf.many;simp only[Nd.w]at hw;obtain⟨RR,hRR⟩:∃RR,RR=kO (.mk k s (.mk lk ln lbt lt items) args temps kids p):=⟨_,rfl⟩;rw[<- hRR];rw[show kO (.mk k s (.mk lk ln lbt lt items) args temps kids p)=je k s (.mk lk ln lbt lt items) args temps kids (kids.map kO) by simp[kO,jh]]at hRR;show VC _ _ _ _ [kA r 0 [cv k,.string s,cv lk,vi ln,uv lbt,.string lt,.slice la items.length lc,.slice aa args.length ac,.slice ta temps.length tc,.slice none 0 0,vi p],kA q 0 [cv k,.string s,cv lk,vi ln,uv lbt,.string lt,.slice la items.length lc,.slice aa args.length ac,.slice ta temps.length tc,.slice a kids.length c,vi p],A,lkA lb m0 deep] _;subst hk;refine GOH ?_;by_cases hk0:0 < kids.length;rotate_left
 ·have hnone:RR=none:=by
   obtain rfl:kids=[]:=vj Zo;rw[hRR];unfold je;rw[if_neg Zd,if_neg Zd,if_neg Zd,if_pos rfl];unfold kP;split <;> rfl
  rw[show decide ((kids.length:Int) > 0)=false from Zf Zo];exact zA7
 rw[show decide ((kids.length:Int) > 0)=true from Zt Zo];refine GOH ?_;refine kV (arity_spec s hns) Zr ?_;refine GOH ?_;by_cases har:0<=j7 s;rotate_left
 ·have hnone:RR=none:=by
   rw[hRR];unfold je;rw[if_neg Zd,if_neg Zd,if_neg Zd,if_pos rfl];rw[Zf har,Bool.and_false];rfl
  rw[show decide (j7 s ≥ 0)=false from Zf har];exact zA7
 rw[show decide (j7 s ≥ 0)=true from Zt har];refine GOH ?_;refine kJ (kw true) Zr ZP (fun v Post hv=>?_) Zaj;obtain⟨_,rfl,rfl⟩:=hv;simp only[QD];refine GOH ?_;obtain⟨y,l,hky⟩:∃y l,kids=y::l:=by
  cases kids with
  |nil=>simp at hk0
  |cons y l=>exact⟨y,l,rfl⟩
 have hy0:kids[0]? =some y:=by rw[hky];rfl
 have hym:=hm 0 Zo;rw[Qg,QU]at hym;have hyl:=(hr 0 y hy0).len;obtain rfl:=ha Zo;have hls:l.length=kids.length - 1:=by rw[hky];rfl
 have hkl:zS A l (some ⟨bk,if c=1 then o else o+1*11,none⟩) bk (if c=1 then o else o+1*11) (fun i=>us (i+1)):=by
  refine⟨fun _=>rfl,Zo,fun i hi z hz=>?_,fun i z e=>hr (i+1) z (by rw[hky];exact e),fun i z e=>hkids.ok (i+1) z (by rw[hky];exact e)⟩;refine hm (i+1) Zo z ?_;rw[if_neg Zo]at hz
  rwa [show o+1*11+i*11=o+(i+1)*11 by omega]at hz
 have hF:=fun m=>first_spec A y _ (hr 0 y hy0) (hkids.ok 0 y hy0) s hns lb m deep
 have hA:=fun m=>arguments_spec A l _ (c - 1) bk _ _ hkl s hns lb m deep
 rw[hls]at hA;have hR4:RR=kP (decide (args.length=0/\temps.length=0)&&litZ (.mk lk ln lbt lt items)&&decide (0<=j7 s)) (bothR (firstR y s (kO y)) (argsR s l (l.map kO))):=by
  rw[hRR,hky];rfl
 by_cases hno:firstR y s (kO y)=none∨argsR s l (l.map kO)=none
 ·skip
  have hnone:RR=none:=by
   rw[hR4,bothR_none hno];unfold kP;split <;> rfl
  obtain⟨dF,φF,hFφ,hFz⟩:=look_any hF;obtain⟨dA,φA,hAφ,hAz⟩:=look_any hA;refine VC.drawZ (fun ch H'=>ch=w9/\∃m,Imp H' [A,lkA lb m deep]) (fun H'=>∃m,Imp H' [A,lkA lb m deep,kA q 0 [cv 4,.string s,cv lk,vi ln,uv lbt,.string lt,.slice la items.length lc,.slice aa args.length ac,.slice ta temps.length tc,.slice (some ⟨bk,o,none⟩) kids.length c,vi p]]) ⟨m0,ZI⟩ ?_ (fun ch H' hp=>?_)
  ·skip
   intro rs hrs;rcases Q4.1 hrs with rfl|hrs
   ·skip
    refine kH ?_;refine kH ?_;refine kH ?_;refine kH ?_;refine kH ?_;refine kH ?_;refine kH ?_;refine⟨rfl,vi dF,φF,fun Γ H hΓ hH=>?_,?_⟩
    ·exact zAE
    refine kH ?_;refine kH ?_;refine kH ?_;refine kH ?_;refine kH ?_;exact zA5
   rcases Q4.1 hrs with rfl|hrs
   ·skip
    refine kH ?_;refine kH ?_;refine kH ?_;refine kH ?_;refine kH ?_;refine kH ?_;refine kH ?_;refine kH ?_;refine kH ?_;refine kH ?_;refine⟨rfl,vi dF,φF,fun Γ H hΓ hH=>?_,?_⟩
    ·exact zAE
    refine kH ?_;refine kH ?_;exact zA5
   rcases Q4.1 hrs with rfl|hrs
   ·skip
    refine kH ?_;refine kH ?_;refine kH ?_;refine kH ?_;refine kH ?_;refine kH ?_;refine kH ?_;refine kH ?_;refine kH ?_;refine kH ?_;refine kH ?_;refine kH ?_;refine⟨rfl,vi dF,φF,fun Γ H hΓ hH=>?_,?_⟩
    ·exact zAE
    exact zA5
   rcases Q4.1 hrs with rfl|hrs
   ·skip
    refine kH ?_;refine kH ?_;refine kH ?_;refine kH ?_;refine kH ?_;refine kH ?_;refine kH ?_;refine⟨rfl,vi dF,φF,fun Γ H hΓ hH=>?_,?_⟩
    ·exact zAE
    refine kH ?_;refine kH ?_;refine kH ?_;refine kH ?_;refine kH ?_;exact zA5
   rcases Q4.1 hrs with rfl|hrs
   ·skip
    refine kH ?_;refine kH ?_;refine kH ?_;refine kH ?_;refine kH ?_;refine kH ?_;refine kH ?_;refine kH ?_;refine kH ?_;refine kH ?_;refine kH ?_;refine⟨rfl,vi dF,φF,fun Γ H hΓ hH=>?_,?_⟩
    ·exact zAE
    refine kH ?_;exact zA5
   rcases Q4.1 hrs with rfl|hrs
   ·skip
    refine kH ?_;refine kH ?_;refine kH ?_;refine kH ?_;refine kH ?_;refine kH ?_;refine kH ?_;refine kH ?_;refine kH ?_;refine kH ?_;refine kH ?_;refine kH ?_;refine⟨rfl,vi dF,φF,fun Γ H hΓ hH=>?_,?_⟩
    ·exact zAE
    exact zA5
   ·cases hrs
  ·obtain⟨rfl,m,hi⟩:=hp;exact⟨_,hi,hnone,rfl,m,rfl⟩
 obtain⟨⟨dF,mF⟩,hf⟩:∃p,firstR y s (kO y)=some p:=Option.ne_none_iff_exists'.1 fun h=>hno (.inl h)
 obtain⟨⟨dA,mA⟩,hal2⟩:∃p,argsR s l (l.map kO)=some p:=Option.ne_none_iff_exists'.1 fun h=>hno (.inr h)
 have hFf:=look_some (hF m0) hf;have hAf:=look_some (hA (m0||mF)) hal2;refine VC.draws ⟨?_,?_,?_,?_,?_,?_,trivial⟩
 ·exact zA3
 ·exact zA3
 ·exact zA3
 ·exact zA3
 ·exact zA3
 ·exact zA3
end Go.Proofs.YtijnokbblmbpkaaGreatDoor
namespace Go.Proofs.YtijnokbblmbpkaaGreatDoor
open Go Go.V
set_option maxHeartbeats 3200000
set_option maxRecDepth 100000
theorem node_k5(A:List kC)(hE:ErA A)(x:Nd)(vs:List Value)(h:jQ A x vs)(hw:x.w<=274877906944)(hok:∀y us,y∈x.kids->jQ A y us->wx A y us)(hk:x.kind=5):NodeSw A x vs:=by
 intro lb q r m0 deep;cases h with
 |@mk k s lit args temps kids p lv av tv a c bk o us wf hl hav htv ha hm hr hcp=>
 simp only[Nd.kind]at hk;have hl2:=hl;cases hl2 with
 |@mk lk ln lbt lt items la lc lbk lo lus lwf lha lhm lhr=>
 have hav2:=hav;have htv2:=htv;obtain⟨aa,ac,rfl,hal,har⟩:=hav2;obtain⟨ta,tc,rfl,htl,htr⟩:=htv2;have hkids:zS A kids a bk o us:=⟨ha,wf.many,hm,hr,fun i y e=>hok y (us i) (Zv e) (hr i y e)⟩;have hns:=wf.name;have hmany:=wf.many;simp only[Nd.w]at hw;obtain⟨RR,hRR⟩:∃RR,RR=kO (.mk k s (.mk lk ln lbt lt items) args temps kids p):=⟨_,rfl⟩;rw[<- hRR];rw[show kO (.mk k s (.mk lk ln lbt lt items) args temps kids p)=je k s (.mk lk ln lbt lt items) args temps kids (kids.map kO) by simp[kO,jh]]at hRR;show VC _ _ _ _ [kA r 0 [cv k,.string s,cv lk,vi ln,uv lbt,.string lt,.slice la items.length lc,.slice aa args.length ac,.slice ta temps.length tc,.slice none 0 0,vi p],kA q 0 [cv k,.string s,cv lk,vi ln,uv lbt,.string lt,.slice la items.length lc,.slice aa args.length ac,.slice ta temps.length tc,.slice a kids.length c,vi p],A,lkA lb m0 deep] _;subst hk;refine GOH ?_;by_cases hk0:2 < kids.length;rotate_left
 ·have hnone:RR=none:=by
   rw[hRR];unfold je;rw[if_neg Zd,if_neg Zd,if_neg Zd,if_neg Zd,if_neg Zd,if_pos rfl];simp[kP,hk0]
  rw[show decide ((kids.length:Int) > 2)=false from Zf Zo];exact zA7
 rw[show decide ((kids.length:Int) > 2)=true from Zt Zo];refine GOH ?_;refine kJ (kw true) Zr ZP (fun v Post hv=>?_) Zaj;obtain⟨_,rfl,rfl⟩:=hv;simp only[QD];refine GOH ?_;obtain⟨y,z,l,hky⟩:∃y z l,kids=y::z::l:=by
  match kids,hk0 with
  |y::z::l,_=>exact⟨y,z,l,rfl⟩
  |[],h=>simp at h
  |[_],h=>simp at h
 have hy0:kids[0]? =some y:=by rw[hky];rfl
 have hz0:kids[1]? =some z:=by rw[hky];rfl
 have hym:=hm 0 Zo;rw[Qg,QU]at hym;have hyl:=(hr 0 y hy0).len;have hzn:z.name.size<=140737488355328/\kC.cell bk (o+12) (.string z.name)∈A:=by
  have hzr:=hr 1 z hz0;have hzm:=hm 1 Zo;obtain⟨c2,c3,c4,c5,c6,c7,c8,c9,c10,e,hsz,hkk⟩:=nd_open hzr;rw[e]at hzm;exact⟨hsz,hzm _ (kI.2 ⟨1,_,rfl,by rw[show o+1*11+1=o+12 by omega]⟩)⟩
 obtain⟨hzs,hzc⟩:=hzn;obtain rfl:=ha Zo;have hls:(z::l).length=kids.length - 1:=by rw[hky];rfl
 have hF:=fun m=>first_spec A y _ (hr 0 y hy0) (hkids.ok 0 y hy0) z.name hzs lb m deep
 have hR5:RR=kP (decide (s.size=0/\args.length=0/\temps.length=0/\2 < kids.length)&&litZ (.mk lk ln lbt lt items)) (wo (decide (256 < kids.length)) (bothR (wM ((z::l).map fun y=>kP (decide (y.kind=6)) (kO y))) (firstR y z.name (kO y)))):=by
  rw[hRR,hky,<- msgsR_map];rfl
 obtain⟨m0',hm0'⟩:∃m0',m0'=m0:=⟨_,rfl⟩;cases m0 with
 |true=>
  obtain⟨mB,hmB⟩:∃b,b=(true||decide (256 < kids.length)):=⟨_,rfl⟩;have hmB0:mB=true:=by rw[hmB,Bool.true_or]
  exact zA1
 |false=>
  obtain⟨mB,hmB⟩:∃b,b=(false||decide (256 < kids.length)):=⟨_,rfl⟩;have hmB0:mB=decide ((kids.length:Int) > 256):=by
   rw[hmB,vJ];exact decide_eq_decide.2 Zo
  exact zA1
end Go.Proofs.YtijnokbblmbpkaaGreatDoor
namespace Go.Proofs.YtijnokbblmbpkaaGreatDoor
open Go Go.V
theorem node_ok(A:List kC)(hE:ErA A):∀(N:Nat) (x:Nd),x.w<=N->x.w<=274877906944->∀vs,jQ A x vs->wx A x vs:=by
 intro N
 induction N with
 |zero=>intro x hx;have:=x.w_pos;omega
 |succ N ih=>
  intro x hx hb vs h;have hok:∀y us,y∈x.kids->jQ A y us->wx A y us:=fun y us hy hr=>by
   have h1:y.w < x.w:=by
    cases x;have:=Nd.ws_mem hy;simp only[Nd.kids]at this;simp only[Nd.w];omega
   exact ih y Zo Zo us hr
  refine⟨fun lb m0 deep=>node_of A x vs h ?_ lb m0 deep,fun d m e=>?_⟩
  ·by_cases k1:x.kind=1
   ·exact node_k1 A hE x vs h hb hok k1
   by_cases k2:x.kind=2
   ·exact node_k2 A hE x vs h hb hok k2
   by_cases k3:x.kind=3
   ·exact node_k3 A hE x vs h hb hok k3
   by_cases k4:x.kind=4
   ·exact node_k4 A hE x vs h hb hok k4
   by_cases k5:x.kind=5
   ·exact node_k5 A hE x vs h hb hok k5
   by_cases k6:x.kind=6
   ·exact node_k6 A hE x vs h hb hok k6
   by_cases k7:x.kind=7
   ·exact node_k7 A hE x vs h hb hok k7
   by_cases k8:x.kind=8
   ·exact node_k8 A hE x vs h hb hok k8
   by_cases k9:x.kind=9
   ·exact node_k9 A hE x vs h hb hok k9
   exact node_k0 A hE x vs h hb hok ⟨k1,k2,k3,k4,k5,k6,k7,k8,k9⟩
  ·have:=nodeD_le _ x (QW _) d m e;omega
theorem node_spec(A:List kC)(hE:ErA A)(x:Nd)(hb:x.w<=274877906944)(vs:List Value)(h:jQ A x vs):wx A x vs:=node_ok A hE _ x (QW _) hb vs h
end Go.Proofs.YtijnokbblmbpkaaGreatDoor
namespace Go.Proofs.YtijnokbblmbpkaaGreatDoor
open Go Go.V
set_option maxRecDepth 100000
def F160:RIR:=laidA (X:=⟨11,[],4,[qo 5 (.tassert 262 (Value.agg #[(.int .i64 0)]) true (.tmp 4)),qm 3 5,qe 6 3 0,qe 7 3 1,
 qo 1 (.alloc 262 [(.int .i64 0)]),qs 1 1 6,qm 2 7],(qS [qm 8 2] [0,1,8] (qC 8 (.reg [qf 9 0 1,ql 10 9,qs 1 0 10] []) .skip))⟩)
theorem n160:F160.n=11:=rfl
theorem low160:lowFR Tryz.prog (kQ [(0,[0,1,2]),(1,[0,1,8]),(2,[])]) (kQ []) 160=some F160:=by kernel_rfl
end Go.Proofs.YtijnokbblmbpkaaGreatDoor
namespace Go.Proofs.YtijnokbblmbpkaaGreatDoor
open Go Go.V
set_option maxHeartbeats 3200000
set_option maxRecDepth 100000
theorem caught1_none(e:Nat)(n:Int):FunDR Tryz.prog 160 [kE e] .returning .returning [kA e 0 [vi n]] (fun Post=>Post=[kA e 0 [vi n]]):=by
 refine FunDR.intro low160 (by simp[n160]) .none ?_;refine GOH ?_;refine kL (fun q=>?_);refine GOH ?_;refine VCz.seq (VCz.reg ?_);refine GOH ?_;refine VCz.cond (t:=false) Zr (fun h=>by cases h) (fun _=>VCz.skip ?_);exact kG (Post:=[kA e 0 [vi n]]) (.inl rfl) .nil rfl ZI
theorem caught1_some(e:Nat)(n:Int):FunDR Tryz.prog 160 [kE e] (.panicking w9) (.panicking [{v:=wrongV,recovered:=true}]) [kA e 0 [vi n]] (fun Post=>Post=[kA e 0 [vi 150]]):=by
 refine FunDR.intro low160 (by simp[n160]) .some ?_;refine GOH ?_;refine kL (fun q=>?_);refine GOH ?_;refine VCz.seq (VCz.reg ?_);refine GOH ?_;refine VCz.cond (t:=true) Zr (fun _=>VCz.reg ?_) (fun h=>by cases h);refine GOH ?_;exact kG (Post:=[kA e 0 [vi 150]]) (.inl rfl) .nil rfl ZI
theorem spl_comm(L R:SH):Spl (L++R) R L:=by
 simp only[V.Spl,vy];exact QH
theorem imp_drop2(X Y:List kC)(L:SH):Imp ([X,Y]++L) L:=⟨[X,Y],by
 simp only[V.Spl,vy];exact QH⟩
theorem imp_drop2f(X Y:List kC)(L:SH):Imp ([X]++[Y,L.flatten]) L:=⟨[X,Y],by
 simp only[V.Spl,vy,vz,V0,vd];rw[<- vZ];exact QH⟩
theorem caught_end(e lb:Nat)(n:Int)(m d:Bool)(Post':SH)(Q:Value->SH->Prop)(Γ:Env)(hΓ:V.look Γ 2=some (kE e))(hq:Q (vi n) Post'){H:SH}(hH:Spl H [kA e 0 [vi n]] [lkA lb m d,Post'.flatten]):
 endDP Tryz.prog 160 [kE e] [.cell1 2] Q .ret Γ H:=by
 refine⟨.inr rfl,[kA e 0 [vi n]],[lkA lb m d,Post'.flatten],_,caught1_none e n,hH,?_⟩
 rintro Post rfl
 exact⟨.inr rfl,[vi n],Post',.cell1 hΓ Zan .nil,imp_drop2f _ _ _,hq⟩
theorem caught_spec(fv:Value)(Pre:SH)(QQ:Bool->Bool->SH->Prop)(ZZ:SH->Prop)
 (h:∀lb,FunVP Tryz.prog fv [kE lb] (lkA lb false false::Pre) (fun v Post=>∃m d Post',Post=lkA lb m d::Post'/\QQ m d Post') (fun ch Post=>ch=w9/\∃m d Post',Post=lkA lb m d::Post'/\ZZ Post')):
 Fun Tryz.prog 102 [fv] Pre (fun v Post=>(∃m d,v=vi (if m then 151 else if d then 152 else 0)/\QQ m d Post)∨(v=vi 150/\ZZ Post)):=by
 refine Fun.introDP low102 (by simp[n102]) ?_;simp only[F102,laidA,VDP];refine GOH ?_;refine kL (fun e=>?_);refine GOH ?_;refine kd Zr (fun lb=>?_);simp only[Value.cells];refine GOH ?_;refine⟨[kE e],Zr,?_⟩;refine GOH ?_;have hR:Spl (kA lb 0 [.bool false,.bool false]::kA e 0 [vi 0]::Pre) (lkA lb false false::Pre) [kA e 0 [vi 0]]:=by
  simp only[V.Spl,vz,V0,vf,vd,vZ];exact zDB
 refine st_callVZ Zr (h lb) Zr hR (fun v Post hv=>?_) (fun ch Post hz=>?_);rotate_left
 ·obtain⟨rfl,m,d,Post',rfl,hz⟩:=hz;refine⟨[kA e 0 [vi 0]],lkA lb m d::Post',_,_,caught1_some e 0,rfl,spl_comm _ _,?_⟩
  rintro Post rfl
  exact⟨.inr rfl,[vi 150],Post',.cell1 Zr Zan .nil,imp_drop2 _ _ _,.inr ⟨rfl,hz⟩⟩
 obtain⟨m,d,Post',rfl,hq⟩:=hv;refine VO.imp (H':=[lkA lb m d,kA e 0 [vi 0],Post'.flatten]) (Imp.perm ?_) ?_
 ·simp only[vz,V0,vf,vd,vy];exact zDB
 cases m with
 |true=>
  refine GOH ?_;exact caught_end e lb 151 true d Post' _ _ rfl (.inl ⟨true,d,rfl,hq⟩) ZP
 |false=>
  cases d with
  |true=>
   refine GOH ?_;exact caught_end e lb 152 false true Post' _ _ rfl (.inl ⟨false,true,rfl,hq⟩) ZP
  |false=>
   refine GOH ?_;exact caught_end e lb 0 false false Post' _ _ rfl (.inl ⟨false,false,rfl,hq⟩) ZP
end Go.Proofs.YtijnokbblmbpkaaGreatDoor
namespace Go.Proofs.YtijnokbblmbpkaaGreatDoor
open Go Go.V
set_option maxHeartbeats 3200000
set_option maxRecDepth 100000
structure Md where
 sel:ByteArray
 args:List ByteArray
 temps:List ByteArray
 prim:Int
 body:List Nd
structure MdRd (A:List kC)(x:Md)(vs:List Value):Prop where
 form:∃aa ac ta tc a c bk o us,vs=[.string x.sel,.slice aa x.args.length ac,.slice ta x.temps.length tc,vi x.prim,.slice a x.body.length c]/\RdT A (.slice aa x.args.length ac) x.args/\RdT A (.slice ta x.temps.length tc) x.temps/\zS A x.body a bk o us
 sel:x.sel.size<=140737488355328
 prim:-9223372036854775808<=x.prim/\x.prim<=9223372036854775807
def methodR(x:Md):Rs:=kP (decide (j7 x.sel=x.args.length/\0<=x.prim/\x.prim<=255)) (wn 15 x.args (wn 63 x.temps (wM (zN x.body (x.body.map kO)))))
def zB(x:Md):Nat:=endE (fun d=>decide (40 < d)) (methodR x)
theorem check1_spec(A:List kC)(x:Md)(vs:List Value)(h:MdRd A x vs)(q lb:Nat):
 jY Tryz.prog 103 [kE lb,kE q] [lkA lb false false,A,kA q 0 vs] (fun v Post=>∃m d Post',Post=lkA lb m d::Post'/\(∃dd,methodR x=some (dd,m)/\d=decide (40 < dd))/\Post'=[A])
  (fun ch Post=>ch=w9/\∃m d Post',Post=lkA lb m d::Post'/\methodR x=none/\Post'=[A]):=by
 obtain⟨⟨aa,ac,ta,tc,a,c,bk,o,us,rfl,hav,htv,hkids⟩,hsel,hprim⟩:=h;obtain⟨sel,args,temps,prim,body⟩:=x;simp only at hav htv hkids hsel hprim|-;obtain⟨RR,hRR⟩:∃RR,RR=methodR ⟨sel,args,temps,prim,body⟩:=⟨_,rfl⟩;rw[<- hRR];simp only[methodR]at hRR;refine jY.intro low103 (by simp[n103]) ?_;refine jU ?_;by_cases h1:j7 sel=(args.length:Int);rotate_left
 ·have hnone:RR=none:=by simp[hRR,kP,h1]
  have hb1:decide (j7 sel=(args.length:Int))=false:=Zf h1;refine VC.seq (VC.drawZ (fun ch H'=>ch=w9/\Imp H' [lkA lb false false,A,kA q 0 [.string sel,.slice aa args.length ac,.slice ta temps.length tc,vi prim,.slice a body.length c]]) (fun H'=>H'=[lkA lb false false,A,kA q 0 [.string sel,.slice aa args.length ac,.slice ta temps.length tc,vi prim,.slice a body.length c]]) rfl ?_ (fun ch H' hp=>?_))
  ·skip
   intro rs hrs;rcases Q4.1 hrs with rfl|hrs
   ·skip
    refine kH ?_;refine kH ?_;refine⟨rfl,vi (j7 sel),True,fun Γ H hΓ hH=>?_,?_⟩
    ·exact zC4
    refine kH ?_;refine kH ?_;refine kH ?_;refine⟨rfl,.bool false,True,fun Γ H hΓ hH=>?_,?_⟩
    ·exact zAV
    refine kH ?_;refine kH ?_;refine kH ?_;refine kH ?_;refine kH ?_;refine kH ?_;refine kH ?_;refine kH ?_;refine kH ?_;exact zAC
   rcases Q4.1 hrs with rfl|hrs
   ·skip
    refine kH ?_;refine kH ?_;refine kH ?_;refine kH ?_;refine⟨rfl,vi (j7 sel),True,fun Γ H hΓ hH=>?_,?_⟩
    ·exact zC4
    refine kH ?_;refine⟨rfl,.bool false,True,fun Γ H hΓ hH=>?_,?_⟩
    ·exact zAV
    refine kH ?_;refine kH ?_;refine kH ?_;refine kH ?_;refine kH ?_;refine kH ?_;refine kH ?_;refine kH ?_;refine kH ?_;exact zAC
   ·cases hrs
  ·exact zC3
 have hb1:decide (j7 sel=(args.length:Int))=true:=Zt h1;by_cases h2:0<=prim;rotate_left
 ·have hnone:RR=none:=by simp[hRR,kP,h2]
  have hb2:decide (0<=prim)=false:=Zf h2;refine VC.seq (VC.drawZ (fun ch H'=>ch=w9/\Imp H' [lkA lb false false,A,kA q 0 [.string sel,.slice aa args.length ac,.slice ta temps.length tc,vi prim,.slice a body.length c]]) (fun H'=>H'=[lkA lb false false,A,kA q 0 [.string sel,.slice aa args.length ac,.slice ta temps.length tc,vi prim,.slice a body.length c]]) rfl ?_ (fun ch H' hp=>?_))
  ·skip
   intro rs hrs;rcases Q4.1 hrs with rfl|hrs
   ·skip
    refine kH ?_;refine kH ?_;refine⟨rfl,vi (j7 sel),True,fun Γ H hΓ hH=>?_,?_⟩
    ·exact zC4
    refine kH ?_;refine kH ?_;refine kH ?_;refine⟨rfl,.bool true,True,fun Γ H hΓ hH=>?_,?_⟩
    ·exact zAV
    refine kH ?_;refine kH ?_;refine kH ?_;refine⟨rfl,.bool false,True,fun Γ H hΓ hH=>?_,?_⟩
    ·exact zBA
    refine kH ?_;refine kH ?_;refine kH ?_;refine kH ?_;refine kH ?_;exact zAC
   rcases Q4.1 hrs with rfl|hrs
   ·skip
    refine kH ?_;refine kH ?_;refine kH ?_;refine kH ?_;refine⟨rfl,vi (j7 sel),True,fun Γ H hΓ hH=>?_,?_⟩
    ·exact zC4
    refine kH ?_;refine⟨rfl,.bool true,True,fun Γ H hΓ hH=>?_,?_⟩
    ·exact zAV
    refine kH ?_;refine kH ?_;refine kH ?_;refine⟨rfl,.bool false,True,fun Γ H hΓ hH=>?_,?_⟩
    ·exact zBA
    refine kH ?_;refine kH ?_;refine kH ?_;refine kH ?_;refine kH ?_;exact zAC
   ·cases hrs
  ·exact zC3
 have hb2:decide (0<=prim)=true:=Zt h2;by_cases h3:prim<=255;rotate_left
 ·have hnone:RR=none:=by simp[hRR,kP,h3]
  have hb3:decide (prim<=255)=false:=Zf h3;refine VC.seq (VC.drawZ (fun ch H'=>ch=w9/\Imp H' [lkA lb false false,A,kA q 0 [.string sel,.slice aa args.length ac,.slice ta temps.length tc,vi prim,.slice a body.length c]]) (fun H'=>H'=[lkA lb false false,A,kA q 0 [.string sel,.slice aa args.length ac,.slice ta temps.length tc,vi prim,.slice a body.length c]]) rfl ?_ (fun ch H' hp=>?_))
  ·skip
   intro rs hrs;rcases Q4.1 hrs with rfl|hrs
   ·skip
    refine kH ?_;refine kH ?_;refine⟨rfl,vi (j7 sel),True,fun Γ H hΓ hH=>?_,?_⟩
    ·exact zC4
    refine kH ?_;refine kH ?_;refine kH ?_;refine⟨rfl,.bool true,True,fun Γ H hΓ hH=>?_,?_⟩
    ·exact zAV
    refine kH ?_;refine kH ?_;refine kH ?_;refine⟨rfl,.bool true,True,fun Γ H hΓ hH=>?_,?_⟩
    ·exact zBA
    refine kH ?_;refine kH ?_;refine kH ?_;refine kH ?_;refine⟨rfl,.bool false,True,fun Γ H hΓ hH=>?_,?_⟩
    ·exact zDK
    exact zAC
   rcases Q4.1 hrs with rfl|hrs
   ·skip
    refine kH ?_;refine kH ?_;refine kH ?_;refine kH ?_;refine⟨rfl,vi (j7 sel),True,fun Γ H hΓ hH=>?_,?_⟩
    ·exact zC4
    refine kH ?_;refine⟨rfl,.bool true,True,fun Γ H hΓ hH=>?_,?_⟩
    ·exact zAV
    refine kH ?_;refine kH ?_;refine kH ?_;refine⟨rfl,.bool true,True,fun Γ H hΓ hH=>?_,?_⟩
    ·exact zBA
    refine kH ?_;refine kH ?_;refine kH ?_;refine kH ?_;refine⟨rfl,.bool false,True,fun Γ H hΓ hH=>?_,?_⟩
    ·exact zDK
    exact zAC
   ·cases hrs
  ·exact zC3
 have hb3:decide (prim<=255)=true:=Zt h3;have hm:RR=wn 15 args (wn 63 temps (wM (zN body (body.map kO)))):=by simp[hRR,kP,h1,h2,h3]
 refine VC.seq (VC.draws ⟨?_,?_,trivial⟩)
 ·exact zAA
 ·exact zAA
theorem Check_spec(A:List kC)(x:Md)(vs:List Value)(h:MdRd A x vs):Fun Tryz.prog 47 [.agg vs.toArray] [A] (fun v Post=>v=vi (zB x)/\Post=[A]):=by
 have h1:=check1_spec A x vs h;obtain⟨⟨aa,ac,ta,tc,a,c,bk,o,us,rfl,hav,htv,hkids⟩,hsel,hprim⟩:=h;refine Fun.intro low47 (by simp[n47]) ?_;refine GOH ?_;refine kd Zr (fun q=>?_);simp only[Value.cells];refine GOH ?_;refine kM (caught_spec (.func (.func 103) #[] #[kE q]) [A,kA q 0 [.string x.sel,.slice aa x.args.length ac,.slice ta x.temps.length tc,vi x.prim,.slice a x.body.length c]]
  (fun m d Post'=>(∃dd,methodR x=some (dd,m)/\d=decide (40 < dd))/\Post'=[A]) (fun Post'=>methodR x=none/\Post'=[A]) (fun lb=>FunVP.of_fun (first:=#[]) (cap:=#[kE q]) (h1 q lb))) Zr ZP (fun v Post hv=>?_)
 have hfin:v=vi (zB x)/\Post=[A]:=by
  rcases hv with⟨m,d,rfl,⟨dd,e,rfl⟩,rfl⟩|⟨rfl,e,rfl⟩
  ·refine⟨?_,rfl⟩;simp only[zB,endE,e];cases m <;> simp <;> split <;> rfl
  ·refine⟨?_,rfl⟩;simp only[zB,endE,e];rfl
 obtain⟨rfl,rfl⟩:=hfin;simp only[CNx];exact zC0
end Go.Proofs.YtijnokbblmbpkaaGreatDoor
