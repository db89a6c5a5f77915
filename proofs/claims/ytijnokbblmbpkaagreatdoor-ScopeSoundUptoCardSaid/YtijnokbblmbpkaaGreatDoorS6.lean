/-
  Slices that grow; ranging over a map.
-/
import Derived.Test.YtijnokbblmbpkaaGreatDoorS5
import Derived.DefersIn
import Derived.RecoverIn
set_option linter.unusedSimpArgs false
set_option linter.unusedVariables false
namespace Go.V
open Go
inductive jC (size:Nat):Value->Nat->List Value->List Value->Prop where
 |mk {b o n c:Nat} {xs sp:List Value}:xs.length=n*size->xs.length+sp.length=c*size->n<=c->jC size (.slice (some ⟨b,o,none⟩) n c) n xs sp
 |nil:jC size (.slice none 0 0) 0 [] []
def slA:Value->List Value->List Value->List kC
 |.slice (some ⟨b,o,none⟩) _ _,xs,sp=>kA b o (xs++sp)
 |_,_,_=>[]
theorem jC.len {size n:Nat}{v:Value}{xs sp:List Value}(h:jC size v n xs sp):xs.length=n*size:=by
 cases h with
 |mk h1 _ _=>exact h1
 |nil=>simp
theorem jC.some {size n:Nat}{v:Value}{xs sp:List Value}(h:jC size v n xs sp)(hn:0 < n):∃b o c,v=.slice (some ⟨b,o,none⟩) n c/\n<=c/\xs.length+sp.length=c*size:=by
 cases h with
 |mk h1 h2 h3=>exact⟨_,_,_,rfl,h3,h2⟩
 |nil=>omega
theorem jC.form {size n:Nat}{v:Value}{xs sp:List Value}(h:jC size v n xs sp):∃a c,v=.slice a n c:=by
 cases h with
 |mk h1 h2 h3=>exact⟨_,_,rfl⟩
 |nil=>exact⟨_,_,rfl⟩
theorem growBy_le(need:Nat):∀(r c:Nat),c<=2*need+192->Builtin.growBy need r c<=2*need+192:=by
 intro r
 induction r with
 |zero=>intro c h;exact h
 |succ r ih=>
  intro c h;simp only[Builtin.growBy];split
  ·exact h
  ·exact ih _ Zo
theorem nextcap_le {need c:Nat}(h:c < need):Builtin.nextslicecap need c<=2*need+192:=by
 unfold Builtin.nextslicecap;split
 ·omega
 ·split
  ·omega
  ·exact growBy_le need 4 c Zo
theorem Src.mono {H H':List kC}{size n:Nat}{vs:List Value}{v:Value}(hs:∀x∈H,x∈H')(h:Src H size n vs v):Src H' size n vs v:=by
 unfold Src at*;split at h
 ·exact⟨h.1,fun x hx=>hs x (h.2 x hx)⟩
 ·exact h
 ·exact h
 ·exact h.elim
theorem zeroRow_length(n:Nat)(z:List Value):(kf n z).length=n*z.length:=by simp[kf]
section
variable {P:Program} {n:Nat} {rs:List RO} {Γ:Env} {H:SH} {Z:List PanicEntry->Env->SH->Prop} {K:Env->SH->Prop} {d:Option Nat}
theorem jF {t:TypeId}{size bytes:Nat}{zero:List Value}{s x:Operand}{sv xv:Value}{k m:Nat}{xs sp ys:List Value}{R:SH}(hs:ev Γ s=some sv)(hx:ev Γ x=some xv)(hsl:jC size sv k xs sp)
 (ht:Tk H (slA sv xs sp) R) (hm:seqLen xv=some m) (hsrc:Src R.flatten size m ys xv) (hlen:ys.length=m*size) (hone:ys.all jc=true) (hz:zero.length=size) (hb:bytes≠0) (hroom:(2*(k+m)+192)*bytes<=2 ^ 48)
 (h:∀sv' sp',jC size sv' (k+m) (xs++ys) sp'->VO P n rs (putE d sv' Γ) (slA sv' (xs++ys) sp'::R) Z K):VO P n (⟨d,none,.append t size bytes zero s x⟩::rs) Γ H Z K:=by
 refine VO.act' rfl rfl (fun ρ hρ=>⟨_,rfl,?_⟩);rw[hρ _ _ hs,hρ _ _ hx];refine SWP.perm ht.perm ?_;have hsrc':Src (slA sv xs sp++R.flatten) size m ys xv:=hsrc.mono (fun x hx=>Q3 _ hx);have grow:∀(a:Option Addr) (c:Nat),sv=.slice a k c->¬(k+m<=c)->Src (slA sv xs sp++R.flatten) size k xs sv->
  SWP P (if Builtin.nextslicecap (k + m) c * bytes > 2 ^ 48 ∨ bytes = 0 then stuck "size" else do
   let cap <- choose (.appendCap (k+m) c t)
   let old <- Builtin.firstCells size k sv
   let new <- Builtin.firstCells size m xv
   let b <- newObj (.cells (old++new++(kf (cap - (k+m)) zero).toArray) t)
   pure (Next.value (.slice (Option.some ⟨b,0,none⟩) (k+m) cap)):Sem Next) (slA sv xs sp++R.flatten) fun nx L=>∃v H' X,(nx=.value v∨(nx=.skip/\v=undef))/\L.Perm (List.flatten H'++X)/\VO P n rs (putE d v Γ) H' Z K:=by
  intro a c hsv hle hso;have hnc:Builtin.nextslicecap (k+m) c*bytes<=2 ^ 48:=QY (Qc _ (nextcap_le Zo)) hroom;rw[if_neg Zo];have fin:∀cap,k+m<=cap->SWP P (do
   let old <- Builtin.firstCells size k sv
   let new <- Builtin.firstCells size m xv
   let b <- newObj (.cells (old++new++(kf (cap - (k+m)) zero).toArray) t)
   pure (Next.value (.slice (Option.some ⟨b,0,none⟩) (k+m) cap)):Sem Next) (slA sv xs sp++R.flatten) fun nx L=>∃v H' X,(nx=.value v∨(nx=.skip/\v=undef))/\L.Perm (List.flatten H'++X)/\VO P n rs (putE d v Γ) H' Z K:=by
   intro cap hcap;refine SWP.bind (SWP.firstCells hso (SWP.bind (SWP.firstCells hsrc' (mem_new (fun b=>?_)))));have hI:jC size (.slice (Option.some ⟨b,0,none⟩) (k+m) cap) (k+m) (xs++ys) (kf (cap - (k+m)) zero):=by
    refine .mk ?_ ?_ hcap
    ·rw[Vj,hsl.len,hlen,Nat.add_mul]
    ·rw[Vj,hsl.len,hlen,zeroRow_length,hz,<- Nat.add_mul,<- Nat.add_mul]
     congr 1;omega
   refine⟨_,_,slA sv xs sp,.inl rfl,?_,h _ _ hI⟩;have:(xs.toArray++ys.toArray++(kf (cap - (k+m)) zero).toArray).toList=xs++ys++kf (cap - (k+m)) zero:=by simp
   rw[this];simp only[vz,vZ];refine List.Perm.trans ?_ (vU _ QH);simp only[slA,vZ];exact vW _
  refine SWP.bind (SWP.choose (fun hf=>by simp[Question.forced]at hf) (fun t'=>fin _ ?_));simp only[Question.cut];omega
 cases hsl with
 |@mk b o _ c _ _ h1 h2 h3=>
  simp only[hm];by_cases hle:k+m<=c
  ·rw[if_pos hle];refine SWP.bind (SWP.firstCells hsrc' ?_);have hl2:ys.length<=sp.length:=by
    have e1:(k+m)*size<=c*size:=Qc _ hle;rw[Nat.add_mul]at e1;omega
   have hsplit:kA b o (xs++sp)=kA b o xs++(kA b (o+k*size) (sp.take ys.length)++kA b (o+k*size+ys.length) (sp.drop ys.length)):=by
    rw[ku,h1]
    congr 1
    conv=>lhs;rw[<- QP ys.length sp]
    rw[ku]
    congr 2
    simp;omega
   have hI:jC size (.slice (Option.some ⟨b,o,none⟩) (k+m) c) (k+m) (xs++ys) (sp.drop ys.length):=by
    refine .mk ?_ ?_ hle
    ·rw[Vj,h1,hlen,Nat.add_mul]
    ·rw[Vj,Vm];omega
   have hadd:((⟨b,o,none⟩:Addr).add (k*size))=⟨b,o+k*size,none⟩:=add_off b o _;simp only[hadd];have hperm:(slA (.slice (Option.some ⟨b,o,none⟩) k c) xs sp++R.flatten).Perm (kA b (o+k*size) (sp.take ys.length)++(kA b o xs++(kA b (o+k*size+ys.length) (sp.drop ys.length)++R.flatten))):=by
    simp only[slA,hsplit,vZ];exact z4 _ _ _
   refine SWP.perm hperm (SWP.bind (SWP.storeCells Zam (vX.1 hone) (SWP.pure ?_)));refine⟨_,_,[],.inl rfl,?_,h _ _ hI⟩;simp only[slA,vz,vd,ku,h1,vZ];exact z4 _ _ _
  ·rw[if_neg hle];refine grow _ c rfl hle ⟨h1,fun x hx=>?_⟩;simp only[slA,ku,Q1];exact .inl (.inl hx)
 |nil=>
  simp only[hm];by_cases hle:0+m<=0
  ·rw[if_pos hle];have hm0:m=0:=by omega
   subst hm0;obtain rfl:ys=[]:=by simpa using hlen
   refine SWP.bind (SWP.firstCells hsrc' (SWP.pure ?_));exact⟨_,_,[],.inl rfl,by simp[slA],h _ _ .nil⟩
  ·rw[if_neg hle];exact grow _ 0 rfl hle rfl
end
end Go.V
namespace Go.V
open Go
theorem Imp.left {A B:SH}:Imp (A++B) A:=⟨B,by simp[Spl]⟩
theorem Imp.perm {A B:SH}(h:A.flatten.Perm B.flatten):Imp A B:=⟨[],by simpa[Spl]using h⟩
theorem VO.imp {P:Program}{n:Nat}{rs:List RO}{Γ:Env}{H H':SH}{Z:List PanicEntry->Env->SH->Prop}{K:Env->SH->Prop}(i:Imp H H')(h:VO P n rs Γ H' Z K):VO P n rs Γ H Z K:=
 fun l hl a w F ZZ Q ha hs hq hz=>h l hl a w F ZZ Q ha (hs.imp i) hq hz
theorem kG {res:List RV}{Q:Value->SH->Prop}{e:Exit}{Γ:Env}{H Post:SH}{vs:List Value}(he:e=.normal∨e=.ret)(hr:Res Γ H res vs)(hq:Q (tup vs) Post)(hi:Imp H Post):endQ res Q e Γ H:=⟨he,vs,Post,hr,hi,hq⟩
inductive HasM:SH->Nat->Nat->Nat->List Value->Prop where
 |cells {b o k n:Nat} {vs us:List Value} {L:SH}:o<=k->k - o+n<=vs.length->(vs.drop (k - o)).take n=us->us.length=n->HasM (kA b o vs::L) b k n us
 |there {A:List kC} {L:SH} {b k n:Nat} {us:List Value}:HasM L b k n us->HasM (A::L) b k n us
theorem HasM.row {H:SH}{b k n:Nat}{us:List Value}(h:HasM H b k n us):HasN H b k us/\us.length=n:=by
 induction h with
 |cells h1 _ h2 h3=>exact⟨.cells h1 (by rw[h3,h2]) h3,h3⟩
 |there _ ih=>exact⟨.there ih.1,ih.2⟩
theorem st_loadM {P:Program}{n:Nat}{rs:List RO}{Γ:Env}{H:SH}{Z:List PanicEntry->Env->SH->Prop}{K:Env->SH->Prop}{d:Option Nat}{m:Nat}{x:Operand}{b o:Nat}{us:List Value}(hx:ev Γ x=some (.pointer (some ⟨b,o,none⟩)))(hm:HasM H b o m us)(h:VO P n rs (putE d (.agg us.toArray) Γ) H Z K):VO P n (⟨d,none,.loadN m x⟩::rs) Γ H Z K:=
 st_loadN hx hm.row.1 hm.row.2 h
inductive Bnd (Γ:Env)(d:Nat):Option Operand->Nat->Prop where
 |dft:Bnd Γ d none d
 |num {x:Operand} {k:IntKind} {m:Nat}:ev Γ x=some (.int k m)->Bnd Γ d (some x) m
theorem Bnd.val {Γ:Env}{d y m:Nat}{o:Option Operand}{ρ:Operand->Value}(h:Bnd Γ d o m)(hm:m<=y)(hρ:∀x u,ev Γ x=some u->ρ x=u):ju y (some d) (o.map ρ)=some m:=by
 cases h with
 |dft=>rfl
 |num hx=>simp[ju,hρ _ _ hx,bound,hm]
section
variable {P:Program} {n:Nat} {rs:List RO} {Γ:Env} {H:SH} {Z:List PanicEntry->Env->SH->Prop} {K:Env->SH->Prop} {d:Option Nat}
theorem st_slcS {l h:Nat}{x:Operand}{lo hi:Option Operand}{s:ByteArray}(hx:ev Γ x=some (.string s))(hlo:Bnd Γ 0 lo l)(hhi:Bnd Γ s.size hi h)(hr:l<=h/\h<=s.size)
 (hh:VO P n rs (putE d (.string (s.extract l h)) Γ) H Z K):VO P n (⟨d,none,.slcS x lo hi⟩::rs) Γ H Z K:=
 VO.pure rfl (fun ρ hρ=>by
  have h1:=hlo.val (y:=h) hr.1 hρ;have h2:=hhi.val (y:=s.size) hr.2 hρ;have h3:ju s.size (some s.size) none=some s.size:=rfl;simp[kS,hρ _ _ hx,zC,h1,h2,h3]) hh
end
theorem st_ext {P:Program}{n:Nat}{rs:List RO}{Γ:Env}{H:SH}{Z:List PanicEntry->Env->SH->Prop}{K:Env->SH->Prop}{d:Option Nat}{i:Nat}{x:Operand}{vs:Array Value}{v:Value}(hx:ev Γ x=some (.tuple vs))(hv:vs[i]? =some v)(h:VO P n rs (putE d v Γ) H Z K):VO P n (⟨d,none,.ext x i⟩::rs) Γ H Z K:=
 VO.pure rfl (fun ρ hρ=>by simp[kS,hρ _ _ hx,hv]) h
section
variable {P:Program} {n:Nat} {rs:List RO} {Γ:Env} {H R:SH} {Z:List PanicEntry->Env->SH->Prop} {K:Env->SH->Prop} {A B C:List kC} {c:IC} {Q:Exit->Env->SH->Prop}
end
end Go.V
namespace Go.V
open Go
section
variable {κ β:Type} [DecidableEq κ]
theorem mget_mem {k:κ}{v:β}:∀{m:List (κ×β)},kq k m=some v->(k,v)∈m:=by
 intro m
 induction m with
 |nil=>intro h;simp[kq]at h
 |cons p m ih=>
  obtain⟨a,u⟩:=p;intro h;simp only[kq]at h;split at h
  ·rename_i e;cases h;subst e;simp
  ·simp[ih h]
theorem mget_none {k:κ}:∀{m:List (κ×β)},kq k m=none↔k∉m.map (·.1):=by
 intro m
 induction m with
 |nil=>simp[kq]
 |cons p m ih=>
  obtain⟨a,u⟩:=p;simp only[kq,Vy,Q4];split
  ·rename_i e;simp[e]
  ·rename_i e;rw[ih];simp only[not_or];exact⟨fun h=>⟨fun x=>e x.symm,h⟩,fun h=>h.2⟩
theorem jo {k j:κ}{v:β}:∀{m:List (κ×β)},kq j (jZ k v m)=if k=j then some v else kq j m:=by
 intro m
 induction m with
 |nil=>simp[jZ,kq]
 |cons p m ih=>
  obtain⟨a,u⟩:=p;simp only[jZ];split
  ·rename_i e;subst e;simp only[kq];split <;> rfl
  ·rename_i e;simp only[kq,ih];by_cases h1:a=j
   ·subst h1;simp[show ¬k=a from fun x=>e x.symm]
   ·simp[h1]
theorem mset_keys {k:κ}{v:β}:∀{m:List (κ×β)},(jZ k v m).map (·.1)=if k∈m.map (·.1)then m.map (·.1)else m.map (·.1)++[k]:=by
 intro m
 induction m with
 |nil=>simp[jZ]
 |cons p m ih=>
  obtain⟨a,u⟩:=p;simp only[jZ];split
  ·rename_i e;simp[e]
  ·rename_i e;have e':¬k=a:=fun x=>e x.symm
   simp only[Vy,ih,Q4,e',false_or];split <;> simp
theorem mset_nodup {k:κ}{v:β}{m:List (κ×β)}(h:(m.map (·.1)).Nodup):((jZ k v m).map (·.1)).Nodup:=by
 rw[mset_keys];split
 ·exact h
 ·rename_i hk;rw[QE];refine⟨h,Zs,?_⟩;intro a ha b hb;simp at hb
  rintro rfl
  exact hk (hb ▸ ha)
theorem mdel_sub {k:κ}:∀{m:List (κ×β)},(mdel k m).Sublist m:=by
 intro m
 induction m with
 |nil=>exact .slnil
 |cons p m ih=>
  obtain⟨a,u⟩:=p;simp only[mdel];split
  ·exact QN _ _
  ·exact ih.cons_cons _
theorem mset_perm {k:κ}{x:β}:∀{m:List (κ×β)},(jZ k x m).Perm ((k,x)::mdel k m):=by
 intro m
 induction m with
 |nil=>exact .refl _
 |cons p m ih=>
  obtain⟨a,u⟩:=p;simp only[jZ,mdel];split
  ·rename_i e;subst e;simp
  ·exact(ih.cons _).trans (List.Perm.swap _ _ _)
theorem mset_mset {k:κ}{x y:β}:∀{m:List (κ×β)},jZ k y (jZ k x m)=jZ k y m:=by
 intro m
 induction m with
 |nil=>simp[jZ]
 |cons p m ih=>
  obtain⟨a,u⟩:=p;simp only[jZ];split
  ·rename_i e;simp[jZ,e]
  ·rename_i e;simp[jZ,e,ih]
theorem mset_mem {k:κ}{v:β}{q:κ×β}:∀{m:List (κ×β)},q∈jZ k v m->q=(k,v)∨q∈m:=by
 intro m hq;have:=mset_perm.mem_iff.1 hq;rcases Q4.1 this with h|h
 ·exact .inl h
 ·exact .inr (mdel_sub.subset h)
end
theorem Upd.set1 {b o i k:Nat}{vs:List Value}{u:Value}{L:SH}(hk:o+i=k)(h:i < vs.length):Upd (kA b o vs::L) b k [u] (kA b o (vs.set i u)::L):=by
 subst hk;refine .cells Zo Zam ?_;rw[Nat.add_sub_cancel_left,List.set_eq_take_append_cons_drop,if_pos h];simp
section
variable {κ β:Type} [DecidableEq κ] {E:KEnc κ} {V:β->Value}
end
theorem VC.seq_cond_t {P:Program}{n:Nat}{Γ:Env}{H:SH}{Q:Exit->Env->SH->Prop}{c:Operand}{x y z:IC}(hc:ev Γ c=some (.bool true))(h:VC P n x Γ H (thenQ (fun Γ' H'=>VC P n z Γ' H' Q) Q)):VC P n (.seq (.cond c x y) z) Γ H Q:=VC.seq (VC.cond_t hc h)
theorem VC.seq_cond_f {P:Program}{n:Nat}{Γ:Env}{H:SH}{Q:Exit->Env->SH->Prop}{c:Operand}{x y z:IC}(hc:ev Γ c=some (.bool false))(h:VC P n y Γ H (thenQ (fun Γ' H'=>VC P n z Γ' H' Q) Q)):VC P n (.seq (.cond c x y) z) Γ H Q:=VC.seq (VC.cond_f hc h)
end Go.V
namespace Go.V
open Go
abbrev vi (n:Int):Value:=.int .i64 n
abbrev kE (b:Nat):Value:=.pointer (some ⟨b,0,none⟩)
theorem Imp.cut {H M Δ:SH}(h:Imp H M)(k:Imp M Δ):Imp H Δ:=by
 obtain⟨X,hX⟩:=h;obtain⟨Y,hY⟩:=k;refine⟨Y++X,?_⟩;simp only[Spl,vy]at*;refine hX.trans ?_;rw[<- vZ];exact hY.append_right _
theorem kZ {P:Program}{n:Nat}{rs:List RO}{Γ:Env}{H:SH}{Z:List PanicEntry->Env->SH->Prop}{K:Env->SH->Prop}{d:Option Nat}{m:Nat}{x:Operand}{b o:Nat}{us:List Value}(hx:ev Γ x=some (.pointer (some ⟨b,o,none⟩)))(hm:∀a∈kA b o us,a∈H.flatten)(hn:us.length=m)(h:VO P n rs (putE d (.agg us.toArray) Γ) H Z K):VO P n (⟨d,none,.loadN m x⟩::rs) Γ H Z K:=
 VO.read rfl rfl (fun ρ hρ=>⟨_,rfl,fun F w hs=>by
  simp[hρ _ _ hx,Instr.sureAddr,run_loadCells hn hm hs]⟩) h
theorem st_extL {P:Program}{n:Nat}{rs:List RO}{Γ:Env}{H:SH}{Z:List PanicEntry->Env->SH->Prop}{K:Env->SH->Prop}{d:Option Nat}{i:Nat}{x:Operand}{l:List Value}{v:Value}(hx:ev Γ x=some (.tuple l.toArray))(hi:l[i]? =some v)(h:VO P n rs (putE d v Γ) H Z K):VO P n (⟨d,none,.ext x i⟩::rs) Γ H Z K:=
 VO.pure rfl (fun ρ hρ=>by simp[kS,hρ _ _ hx,hi]) h
theorem st_gu {P:Program}{n:Nat}{rs:List RO}{Γ:Env}{H:SH}{Z:List PanicEntry->Env->SH->Prop}{K:Env->SH->Prop}{d:Option Nat}{r:R}{s:Nat}{b:Bool}(hs:look Γ s=some undef)(h:VO P n rs (putE d undef Γ) H Z K):VO P n (⟨d,some (s,b),r⟩::rs) Γ H Z K:=by
 intro l hl a w F ZZ Q ha hsat hq hz;obtain⟨o,l',rfl,hl',ops,ho⟩:=wp hl;obtain⟨g1,g2,g3,g4⟩:=jE ho;have hw:j8 (some (s,b)) a=false:=by simp[j8,ha.slots _ _ hs,undef]
 exact zBB
structure Later (R:Prop):Prop where
 out:R
end Go.V
namespace Go.V
open Go
def Invk(P:Program)(fv:Value)(args:List Value)(w:World)(R:Ending->World->Prop):Prop:=
 match fv with
 |.func (.func f) first cap=>ji P f=true/\Calls P f (first++args.toArray++cap) w R
 |.func (.yield l) first _=>∃f tmps asg body,(Instr.yield l (first++args.toArray)).run P w=.ok (.round l f tmps asg body) w/\RoundIn Fence.wide 0 P l f tmps asg body w R
 |_=>False
def FunV(P:Program)(fv:Value)(args:List Value)(Pre:SH)(Q:Value->SH->Prop):Prop:=
 ∀F w,Sat w (Pre.flatten++F)->Invk P fv args w fun e w'=>∃v Post,e=.returned v/\Q v Post/\Sat w' (Post.flatten++F)/\kg w w'
theorem Invk.mono {P:Program}{fv:Value}{args:List Value}{w:World}{R R':Ending->World->Prop}(h:Invk P fv args w R)(hr:∀e w',R e w'->R' e w'):Invk P fv args w R':=by
 unfold Invk at*;split at h
 ·exact⟨h.1,Calls.mono h.2 hr⟩
 ·obtain⟨f,tmps,asg,body,h1,h2⟩:=h;exact⟨f,tmps,asg,body,h1,RoundIn.mono h2 hr⟩
 ·exact h.elim
theorem FunV.conv {P:Program}{fv:Value}{args:List Value}{H Pre R:SH}{Q Q':Value->SH->Prop}(h:FunV P fv args Pre Q)(hs:Spl H Pre R)(hq:∀v Post,Q v Post->∃Post',Q' v Post'/\Imp (Post++R) Post'):FunV P fv args H Q':=by
 intro F w hw;have hw':Sat w (Pre.flatten++(R.flatten++F)):=by
  rw[<- vZ];exact hw.perm (vV F hs)
 refine(h (R.flatten++F) w hw').mono ?_
 rintro e w' ⟨v,Post,h1,h2,h3,h4⟩
 obtain⟨Post',h5,h6⟩:=hq v Post h2;refine⟨v,Post',h1,h5,Sat.imp h6 ?_,h4⟩;rw[vy,vZ];exact h3
theorem FunV.of_fun {P:Program}{f:Nat}{first cap:Array Value}{args:List Value}{Pre:SH}{Q:Value->SH->Prop}(h:Fun P f (first.toList++args++cap.toList) Pre Q):FunV P (.func (.func f) first cap) args Pre Q:=by
 exact zCH
theorem st_callV {P:Program}{n:Nat}{rs:List RO}{Γ:Env}{H:SH}{Z:List PanicEntry->Env->SH->Prop}{K:Env->SH->Prop}{d:Option Nat}{x:Operand}{fv:Value}{xs:List Operand}{args:List Value}{Pre R:SH}{Q:Value->SH->Prop}
 (hx:ev Γ x=some fv) (hf:FunV P fv args Pre Q) (he:evs Γ xs=some args) (hs:Spl H Pre R)
 (h:∀v Post,Q v Post->VO P n rs (putE d v Γ) (Post++R) Z K):VO P n (⟨d,none,.callv x xs⟩::rs) Γ H Z K:=by
 intro l hl a w F ZZ Q' ha hsat hq hz;obtain⟨o,l',rfl,hl',ops,ho⟩:=wp hl;obtain⟨g1,g2,g3,g4⟩:=jE ho;show jq P ZZ (_,o) (wpR P ZZ Q' l') a w;unfold jq;have hp:kY (V.R.callv x xs)=false:=rfl;have hr:jA (V.R.callv x xs)=false:=rfl;simp only[j8,hp,hr,if_true,vI,if_false];refine⟨fun e=>(by cases e),?_⟩;obtain⟨c,h1,h2,h3⟩:=low_callv g1;have hm:xs.map a.eval=args:=ha.evs he;have hargs:(c.args.map a.eval)=args.toArray:=by
  exact zE5
 have hsat':Sat w (Pre.flatten++(R.flatten++F)):=by
  exact zCU
 have hi:=hf (R.flatten++F) w hsat';have fin:∀(e:Ending) (w':World),(∃v Post,e=.returned v/\Q v Post/\Sat w' (Post.flatten++(R.flatten++F))/\kg w w')->∃v,e=.returned v/\wpR P ZZ Q' l' (a.put o.dst v) w':=by
  rintro e w' ⟨v,Post,rfl,hQ,hs',hk⟩
  refine⟨v,rfl,?_⟩;exact zBF
 have hev:a.eval x=fv:=ha.ev hx;unfold Invk at hi;split at hi
 ·rename_i f first cap
  have hrun:(execOp a.eval o).run P w=.ok (.enter f (first++args.toArray++cap)) w:=by
   simp[execOp,h1,resolve,h2,hev,Deferred.ofValue,invoke,hargs];rw[wz hi.1]
  simp only[wpV,hrun,jb];refine hi.2.mono (fun e w' he=>?_);obtain⟨v,rfl,hv⟩:=fin e w' he;exact hv
 ·rename_i l0 first cap
  obtain⟨f,tmps,asg,body,hy,hrd⟩:=hi;have hrun:(execOp a.eval o).run P w=.ok (.round l0 f tmps asg body) w:=by
   simp[execOp,h1,resolve,h2,hev,Deferred.ofValue,invoke,hargs];exact hy
  simp only[wpV,hrun,jb];refine hrd.mono (fun e w' he=>?_);obtain⟨v,rfl,hv⟩:=fin e w' he;exact hv
 ·exact hi.elim
def bindE:List Nat->List Value->Env->Env
 |p::ps,v::vs,Γ=>bindE ps vs ((p,v)::Γ)
 |_,_,Γ=>Γ
def OkC {α:Type}(Spec:List α->Prop)(c:List α):Prop:=∃t,Spec (c++t)
def Iter(P:Program)(g:Value){α:Type}(enc:α->List Value)(Pre Post:SH)(Spec:List α->Prop):Prop:=
 ∀(y:Value) (J SP:List α->List kC->Prop),
  (∀c x A,OkC Spec (c++[x])->J c A->FunV P y (enc x) [A] (fun v B=>(v=.bool true/\∃A',J (c++[x]) A'/\B=[A'])∨(v=.bool false/\∃B',SP (c++[x]) B'/\B=[B'])))->
  ∀A,J [] A->FunV P g [y] (Pre++[A]) (fun v B=>v=.tuple #[]/\((∃full A',Spec full/\J full A'/\B=Post++[A'])∨(∃c B',OkC Spec c/\SP c B'/\B=Post++[B'])))
section
variable {P:Program} {n:Nat} {Γ:Env} {H:SH} {Q:Exit->Env->SH->Prop}
theorem bind_agree {ps:List Nat}:∀{vs:List Value} {Γ:Env} {tmps:Array Value},(∀t∈ps,t < n)->ps.length=vs.length->jn n Γ {tmps:=tmps,defers:=[]}->
 jn n (bindE ps vs Γ) {tmps:=(ps.zip vs).foldl (fun tmps (t,a)=>tmps.setIfInBounds t a) tmps,defers:=[]}:=by
 induction ps with
 |nil=>intro vs Γ tmps _ _ h;cases vs <;> exact h
 |cons p ps ih=>
  intro vs Γ tmps hp hl h;cases vs with
  |nil=>simp at hl
  |cons v vs=>
   simp only[bindE,List.zip_cons_cons,List.foldl_cons];refine ih (fun t ht=>hp t (by simp[ht])) (by simpa using hl) ?_;exact h.put (d:=p) (hp p Zs) v
def wT(fn:FuncId)(tmps:Array Value)(qs:Array Tmp)(A B:Code)(db:Nat)(st:LoopState)(pe:Option Code):Loop:={state:=st,pending:=pe,fn,tmps,params:=qs,assign:=A,body:=B,defers:=db}
theorem run_getLoop {w:World}{l:Nat}{r:Loop}(h:w.heap[l]? =some (.loop r)):(Instr.getLoop l).run P w=.ok r w:=by
 simp[Instr.getLoop,Go.getObj,Sem.run,h]
theorem round_spec {kp:Nat->List Nat}{od:Nat->List (List Nat)}{fn:FuncId}{tmps:Array Value}{qs:Array Tmp}{A B:Code}{db l:Nat}{asg body:IC}{vs:List Value}{I:List kC}{Qb:Exit->SH->Prop}
 (hqs:∀t∈qs.toList,t < n) (hlen:qs.toList.length=vs.length) (ha:jn n Γ {tmps:=tmps,defers:=[]}) (h1:wU P n kp od A=some asg) (h2:wU P n kp od B=some body)
 (h:VC P n asg (bindE qs.toList vs Γ) [I] (fun e Γ' H'=>e=.normal/\VC P n body Γ' H' (fun e _ H''=>match e with|.normal=>Qb .normal H''|.ret=>Qb .ret H''|.exit id=>Qb (.exit id) H''|_=>False))):
 FunV P (.func (.yield l) #[] #[]) vs [I++[.obj l (.loop (wT fn tmps qs A B db .ready none))]] (fun v Bk=>(v=.bool true/\∃H'',Qb .normal H''/\Bk=[H''.flatten++[.obj l (.loop (wT fn tmps qs A B db .ready none))]])∨
  (v=.bool false/\∃H'',((Qb .ret H''/\Bk=[H''.flatten++[.obj l (.loop (wT fn tmps qs A B db .done (some .ret)))]])∨(∃id,Qb (.exit id) H''/\Bk=[H''.flatten++[.obj l (.loop (wT fn tmps qs A B db .done (some (.exit id))))]])))):=by
 intro F w hs;have hs1:Sat w ([I].flatten++(.obj l (.loop (wT fn tmps qs A B db .ready none))::F)):=by simpa using hs
 have hobj:=(hs1.obj (b:=l) (Q3 _ (Q6 ..))).1;refine⟨fn,(qs.zip vs.toArray).foldl (fun tmps (t,a)=>tmps.setIfInBounds t a) tmps,A,B,?_,?_⟩
 ·simp only[Instr.yield,Sem.run_bind,run_getLoop hobj,Result.andThen_ok];have:(#[]++vs.toArray:Array Value).size=qs.size:=by simpa using hlen.symm
  simp[wT,hlen.symm]
 ·have hz:(qs.zip vs.toArray).foldl (fun tmps (t,a)=>tmps.setIfInBounds t a) tmps=(qs.toList.zip vs).foldl (fun tmps (t,a)=>tmps.setIfInBounds t a) tmps:=by
   rw[<- Array.foldl_toList];simp
  rw[hz];refine roundIn_of_wpIn trivial ?_;refine h (some l) kp od A h1 _ w _ _ (fun l' e=>by cases e;exact⟨_,Q6 ..⟩) (bind_agree hqs hlen ha) hs1 ?_
  rintro e a1 w1 Γ1 H1 X ⟨rfl,hb⟩ g1 _ g3 g4
  have g3':Sat w1 (.obj l (.loop (wT fn tmps qs A B db .ready none))::(H1.flatten++(F++marks X))):=by
   refine g3.perm ?_;simp only[vf];exact QK
  have hobj1:=(g3'.obj (Q6 ..)).1;obtain⟨s1,s2⟩:=Sat.setObj (u:=.loop (wT fn tmps qs A B db .busy none)) g3' rfl;refine⟨{w1 with heap:=w1.heap.setIfInBounds l (.loop (wT fn tmps qs A B db .busy none))},?_,?_⟩
  ·have hg:=run_getLoop (P:=P) hobj1;simp only[Instr.beginRound,Sem.run_bind,hg,Result.andThen_ok];simp[wT,Go.setObj,Sem.run,hobj1]
  have s3:Sat {w1 with heap:=w1.heap.setIfInBounds l (.loop (wT fn tmps qs A B db .busy none))} (H1.flatten++(.obj l (.loop (wT fn tmps qs A B db .busy none))::(F++marks X))):=s1.perm QK.symm;refine hb (some l) kp od B h2 a1 _ _ _ (fun l' e=>by cases e;exact⟨_,Q6 ..⟩) g1 s3 ?_;intro e a2 w2 Γ2 H2 Y q k1 _ k3 k4;have k3':Sat w2 (.obj l (.loop (wT fn tmps qs A B db .busy none))::(H2.flatten++F)):=by
   have p:(H2.flatten++(.obj l (.loop (wT fn tmps qs A B db .busy none))::(F++marks X)++marks Y)).Perm ((.obj l (.loop (wT fn tmps qs A B db .busy none))::(H2.flatten++F))++(marks X++marks Y)):=by
    simp only[vf,vZ];exact QK
   exact(k3.perm p).left
  have hobj2:=(k3'.obj (Q6 ..)).1;have keep:=g4.trans (s2.trans k4);have fin:∀(j:Option Code) (st:LoopState),∀(hst:st=if j.isNone then .ready else .done),(Instr.endRound l j).run P w2=.ok (.bool j.isNone) {w2 with heap:=w2.heap.setIfInBounds l (.loop (wT fn tmps qs A B db st j))}/\
   Sat {w2 with heap:=w2.heap.setIfInBounds l (.loop (wT fn tmps qs A B db st j))} ([H2.flatten++[kC.obj l (.loop (wT fn tmps qs A B db st j))]].flatten++F)/\kg w {w2 with heap:=w2.heap.setIfInBounds l (.loop (wT fn tmps qs A B db st j))}:=by
   intro j st hst;obtain⟨t1,t2⟩:=Sat.setObj (u:=.loop (wT fn tmps qs A B db st j)) k3' rfl;refine⟨?_,?_,keep.trans t2⟩
   ·subst hst;simp only[Instr.endRound,Sem.run_bind,run_getLoop hobj2,Result.andThen_ok,wT,Go.setObj,Sem.run,hobj2,Sem.run_pure]
   ·refine t1.perm ?_;simp only[vz,V0,vd,vZ,List.singleton_append];exact QK.symm
  cases e with
  |normal=>
   obtain⟨f1,f2,f3⟩:=fin none .ready rfl;exact⟨_,_,f1,_,_,rfl,.inl ⟨rfl,_,q,rfl⟩,f2,f3⟩
  |ret=>
   obtain⟨f1,f2,f3⟩:=fin (some .ret) .done rfl;exact⟨_,_,f1,_,_,rfl,.inr ⟨rfl,_,.inl ⟨q,rfl⟩⟩,f2,f3⟩
  |exit id=>
   obtain⟨f1,f2,f3⟩:=fin (some (.exit id)) .done rfl;exact⟨_,_,f1,_,_,rfl,.inr ⟨rfl,_,.inr ⟨id,q,rfl⟩⟩,f2,f3⟩
  |goto _=>exact q.elim
  |panic _=>exact q.elim
  |outgrown=>exact q.elim
theorem enter_spec {fnid:FuncId}{tmps:Array Value}{qs:Array Tmp}{A B:Code}{ρ:Option Nat}{w:World}{L F:List kC}(hr:Rnd ρ F)(hsat:Sat w (L++F)):
 ∃(l db:Nat) (X:List Nat) (w1:World),(Instr.enterLoop fnid tmps qs A B ρ).run P w=.ok (l,X.map coll) w1/\
  Sat w1 (.obj l (.loop (wT fnid tmps qs A B db .ready none))::(L++(F++marks X)))/\kg w w1:=by
 cases ρ with
 |none=>
  obtain⟨s1,s2⟩:=hsat.newObj (.deferred (some [])) rfl;obtain⟨s3,s4⟩:=s1.newObj (.loop (wT fnid tmps qs A B w.heap.size .ready none)) rfl;refine⟨(w.heap.push (.deferred (some []))).size,w.heap.size,[w.heap.size],_,?_,s3.perm ?_,s2.trans s4⟩
  ·simp[Instr.enterLoop,Go.newObj,Sem.run,wT,coll];rfl
  ·refine List.Perm.cons _ ?_;simp only[marks,Vy,Q0];rw[<- vZ];exact(List.perm_append_singleton _ _).symm
 |some l0=>
  obtain⟨r,hr0⟩:=hr l0 rfl;have ho:=(hsat.obj (Q3 _ hr0)).1;obtain⟨s3,s4⟩:=hsat.newObj (.loop (wT fnid tmps qs A B r.defers .ready none)) rfl;refine⟨w.heap.size,r.defers,[],_,?_,?_,s4⟩
  ·simp[Instr.enterLoop,run_getLoop ho,Go.newObj,Sem.run,wT]
  ·simpa[marks]using s3
theorem end_spec {fnid:FuncId}{tmps:Array Value}{qs:Array Tmp}{A B:Code}{db l:Nat}{st:LoopState}{pe:Option Code}{w:World}{L F:List kC}(hst:st≠.busy)
 (hs:Sat w (L++[.obj l (.loop (wT fnid tmps qs A B db st pe))]++F)):∃w4,(Instr.endLoop l).run P w=.ok pe w4/\Sat w4 (L++F)/\kg w w4:=by
 have hs5:Sat w (.obj l (.loop (wT fnid tmps qs A B db st pe))::(L++F)):=by
  refine hs.perm ?_;rw[vZ];exact QK
 have ho:=(hs5.obj (Q6 ..)).1;obtain⟨t1,t2⟩:=Sat.setObj (u:=.loop (wT fnid tmps qs A B db .exhausted pe)) hs5 rfl;refine⟨_,?_,t1.sub (QN ..),t2⟩;have hgl:=run_getLoop (P:=P) ho;have hb:((wT fnid tmps qs A B db st pe).state==LoopState.busy)=false:=by cases st <;> first|rfl|exact absurd rfl hst
 simp only[Instr.endLoop,Sem.run_bind,hgl,Result.andThen_ok,hb];simp[wT,Go.setObj,Sem.run,ho]
theorem VC.rangef {α:Type}{enc:α->List Value}{g:Operand}{f:Nat}{first cap:Array Value}{ps:List Nat}{asg body:IC}{Pre Post R:SH}{Spec:List α->Prop}(I:List α->List kC->Prop)(A0:List kC)(hg:ev Γ g=some (.func (.func f) first cap))
 (hit:Iter P (.func (.func f) first cap) enc Pre Post Spec) (hs:Spl H Pre R) (h0:Imp R [A0]) (h1:I [] A0) (hlen:∀x,(enc x).length=ps.length)
 (round:∀c x A,OkC Spec (c++[x])->I c A->VC P n asg (bindE ps (enc x) Γ) [A] (fun e Γ' H'=>e=.normal/\VC P n body Γ' H' (fun e _ H''=>match e with|.normal=>∃A',I (c++[x]) A'/\Imp H'' [A']|.ret=>Q .ret Γ (Post++H'')|.exit id=>Q (.exit id) Γ (Post++H'')|_=>False)))
 (done:∀full A,Spec full->I full A->Q .normal Γ (Post++[A])):VC P n (.rangef g ps asg body) Γ H Q:=by
 intro ρ kp od code hl a w F QQ hr ha hsat hh;obtain⟨qs,A,B,rfl,rfl,hlt,h1',h2⟩:=jW hl;refine wpIn_rangeFunc (fun fnid _=>?_);obtain⟨l,db,X,w1,he,hs1,hk1⟩:=enter_spec (P:=P) (fnid:=fnid) (tmps:=a.tmps) (qs:=qs) (A:=A) (B:=B) hr hsat;have hyield:=hit (.func (.yield l) #[] #[]) (fun c A'=>∃A1,I c A1/\A'=A1++[.obj l (.loop (wT fnid a.tmps qs A B db .ready none))])
  (fun c B'=>∃H'',(Q .ret Γ (Post++H'')/\B'=H''.flatten++[.obj l (.loop (wT fnid a.tmps qs A B db .done (some .ret)))])∨(∃id,Q (.exit id) Γ (Post++H'')/\B'=H''.flatten++[.obj l (.loop (wT fnid a.tmps qs A B db .done (some (.exit id))))]))
  (fun c x A' hc hA=>by
    obtain⟨A1,hI,rfl⟩:=hA;have hx:=round_spec (P:=P) (n:=n) (Γ:=Γ) (fn:=fnid) (tmps:=a.tmps) (db:=db) (l:=l) (vs:=enc x) (I:=A1) (Qb:=fun e H''=>match e with|.normal=>∃A',I (c++[x]) A'/\Imp H'' [A']|.ret=>Q .ret Γ (Post++H'')|.exit id=>Q (.exit id) Γ (Post++H'')|_=>False)
     hlt (hlen x).symm ⟨ha.size,ha.slots⟩ h1' h2 ((round c x A1 hc hI).mono (fun e Γ' H' ⟨q1,q2⟩=>⟨q1,q2.mono (fun e _ H'' q=>by cases e <;> exact q)⟩))
    refine hx.conv (R:=[]) (by simp[Spl]) ?_
    rintro v Bk (⟨rfl,H'',⟨A2,hI2,q⟩,rfl⟩|⟨rfl,H'',q⟩)
    ·refine⟨_,.inl ⟨rfl,_,⟨A2,hI2,rfl⟩,rfl⟩,?_⟩;obtain⟨R',hR'⟩:=q;refine⟨R',?_⟩;simp only[Spl,vz,V0,vd]at hR'|-;rw[vZ];refine(vV _ hR').trans ?_;rw[vZ];exact zDB
    ·rcases q with⟨q,rfl⟩|⟨id,q,rfl⟩
     ·exact⟨_,.inr ⟨rfl,_,⟨H'',.inl ⟨q,rfl⟩⟩,rfl⟩,by rw[vd];exact Imp.refl _⟩
     ·exact⟨_,.inr ⟨rfl,_,⟨H'',.inr ⟨id,q,rfl⟩⟩,rfl⟩,by rw[vd];exact Imp.refl _⟩)
  _ ⟨A0,h1,rfl⟩
 have hs2:Sat w1 ((Pre++[A0++[kC.obj l (.loop (wT fnid a.tmps qs A B db .ready none))]]).flatten++(F++marks X)):=by
  have p1:(kC.obj l (.loop (wT fnid a.tmps qs A B db .ready none))::(H.flatten++(F++marks X))).Perm (R.flatten++(Pre.flatten++(kC.obj l (.loop (wT fnid a.tmps qs A B db .ready none))::(F++marks X)))):=by
   refine QK.symm.trans ?_;refine(vV _ hs).trans ?_;rw[vZ];exact z4 _ _ _
  have h3:=(hs1.perm p1).imp h0;refine h3.perm ?_;simp only[vy,vz,V0,vd,vZ,List.singleton_append];exact z4 _ _ _
 have hcall:=hyield (F++marks X) w1 hs2;obtain⟨hcallable,hcalls⟩:=hcall;refine⟨l,X.map coll,w1,{target:=.fn (.func f) cap,args:=first++[Value.func (.yield l) #[] #[]].toArray},w1,f,first++[Value.func (.yield l) #[] #[]].toArray++cap,w1,he,?_,fun _ _=>trivial,?_,?_,?_⟩
 ·have hev:a.eval g=.func (.func f) first cap:=ha.ev hg
  simp only[resolve,hev,Deferred.ofValue];simp[Act.eval]
 ·simp only[invoke];rw[wz hcallable]
 ·intro h;simp at h
 refine callsIn_v (hcalls.mono ?_)
 ·rintro e w3 ⟨v,Pst,rfl,⟨rfl,hp⟩,hs3,hk3⟩
  have ha':jn n Γ {a with defers:=X.map coll++a.defers}:=⟨ha.size,ha.slots⟩;rcases hp with⟨full,_,hf,⟨A1,hI,rfl⟩,rfl⟩|⟨c,B',_,⟨H'',hj⟩,rfl⟩
  ·obtain⟨w4,e1,e2,e3'⟩:=end_spec (P:=P) (L:=Post.flatten++A1) (st:=.ready) (pe:=none) Zs (by simpa[vZ]using hs3);have e3:=hk1.trans (hk3.trans e3');exact⟨none,w4,e1,hh _ _ _ _ _ X (done full A1 hf hI) ha' rfl (by simpa using e2) e3⟩
  ·rcases hj with⟨q,rfl⟩|⟨id,q,rfl⟩
   ·obtain⟨w4,e1,e2,e3'⟩:=end_spec (P:=P) (L:=Post.flatten++H''.flatten) (st:=.done) (pe:=some .ret) Zs (by simpa[vZ]using hs3);have e3:=hk1.trans (hk3.trans e3');exact⟨_,w4,e1,wpIn_ret (hh _ _ _ _ _ X q ha' rfl (by simpa using e2) e3)⟩
   ·obtain⟨w4,e1,e2,e3'⟩:=end_spec (P:=P) (L:=Post.flatten++H''.flatten) (st:=.done) (pe:=some (.exit id)) Zs (by simpa[vZ]using hs3);have e3:=hk1.trans (hk3.trans e3');exact⟨_,w4,e1,wpIn_exit (hh _ _ _ _ _ X q ha' rfl (by simpa using e2) e3)⟩
end
end Go.V
namespace Go.V
open Go
def VCz(P:Program)(n:Nat)(c:IC)(Γ:Env)(H:SH)(Q:Exit->Env->SH->Prop):Prop:=
 ∀ρ kp od code,wU P n kp od code=some c->∀a w F (QQ:Exit->Act->World->Prop),jn n Γ a->Sat w (H.flatten++F)->
  (∀e a' w' Γ' H',Q e Γ' H'->jn n Γ' a'->a'.defers=a.defers->Sat w' (H'.flatten++F)->kg w w'->QQ e a' w')->code.wpIn (VFc ρ) 0 P QQ a w
section
variable {P:Program} {n:Nat} {Γ:Env} {H:SH} {Q Q':Exit->Env->SH->Prop}
theorem VCz.skip(h:Q .normal Γ H):VCz P n .skip Γ H Q:=by
 intro ρ kp od code hl a w F QQ ha hs hh;obtain rfl:=jW hl;exact wpIn_skip (hh _ _ _ _ _ h ha rfl hs (.refl w))
theorem VCz.ret(h:Q .ret Γ H):VCz P n .ret Γ H Q:=by
 intro ρ kp od code hl a w F QQ ha hs hh;obtain rfl:=jW hl;exact wpIn_ret (hh _ _ _ _ _ h ha rfl hs (.refl w))
theorem VCz.cond {c:Operand}{x y:IC}{t:Bool}(hc:ev Γ c=some (.bool t))(ht:t=true->VCz P n x Γ H Q)(hf:t=false->VCz P n y Γ H Q):VCz P n (.cond c x y) Γ H Q:=by
 intro ρ kp od code hl a w F QQ ha hs hh;obtain⟨p,q,rfl,h1,h2⟩:=jW hl;exact wpIn_cond_split (ha.ev hc) (fun e=>ht e ρ kp od _ h1 a w F QQ ha hs hh) (fun e=>hf e ρ kp od _ h2 a w F QQ ha hs hh)
theorem VCz.seq {x y:IC}(h:VCz P n x Γ H (thenQ (fun Γ' H'=>VCz P n y Γ' H' Q) Q)):VCz P n (.seq x y) Γ H Q:=by
 intro ρ kp od code hl a w F QQ ha hs hh;obtain⟨p,q,rfl,h1,h2⟩:=jW hl;refine wpIn_seq (h ρ kp od _ h1 a w F _ ha hs (fun e a' w' Γ' H' q g1 g2 g3 g4=>?_));cases e <;> first
  |exact q ρ kp od _ h2 a' w' F QQ g1 g3 (fun e a2 w2 Γ2 H2 q2 k1 k2 k3 k4=>hh e a2 w2 Γ2 H2 q2 k1 (by rw[k2,g2]) k3 (g4.trans k4))
  |exact hh _ _ _ _ _ q g1 g2 g3 g4
theorem VCz.reg {rs:List RO}{keep:List Nat}(h:VO P n rs Γ H (fun ch Γ' H'=>Q (.panic ch) Γ' H') fun Γ' H'=>Q .normal (restr keep Γ') H'):VCz P n (.reg rs keep) Γ H Q:=by
 intro ρ kp od code hl a w F QQ ha hs hh;obtain⟨id,ops,rfl,h1,rfl⟩:=jW hl;refine wpIn_region ?_;refine wpR_sound (P:=P) (ρ:=ρ) (n:=n) (ops:=ops) (X:=fun i=>(rs.zip ops.toList).getD i default) (QQ:=QQ) (fun i hi=>?_) (List.range ops.size) a w (fun i hi=>by simpa using hi) ?_
 ·exact zCX
 ·have hlen:=(js h1).1;have hmap:(List.range ops.size).map (fun i=>(rs.zip ops.toList).getD i default)=rs.zip ops.toList:=by
   exact zB3
  rw[hmap];refine h (rs.zip ops.toList) ⟨?_,?_⟩ a w F _ _ ha hs (fun a' w' Γ' H' q g1 g2 g3 g4=>hh .normal a' w' _ H' q (g1.sub (sub_restr _ _)) g2 g3 g4) (fun ch a' w' Γ' H' q g1 g2 g3 g4=>hh (.panic ch) a' w' _ H' q g1 g2 g3 g4)
  ·rw[List.map_fst_zip];simp[hlen]
  ·exact zB8
end
def FunD(P:Program)(f:Nat)(args:List Value)(Pre:SH)(Q:Value->SH->Prop):Prop:=
 ji P f=true/\∀F w u,Sat w (Pre.flatten++F)->CallsDIn (VFc none) 0 P f args.toArray u w fun e u' w'=>u'=u/\∃v Post,e=.returned v/\Q v Post/\Sat w' (Post.flatten++F)/\kg w w'
structure DR where
 d:Nat
 g:Nat
 caps:List Operand
def lowDef(P:Program)(n:Nat):Code->Option DR
 |.region _ ops false=>match ops.toList with
  |[o1,o2]=>match lowRO P n ops o1,o2.op with
   |some ⟨some d,none,.clos (.func g) [] caps⟩,.defer c=>match c.callee with
    |.value (.tmp d')=>if d'=d/\c.args.size=0/\o2.guard.isNone=true/\o2.dst.isNone=true then some ⟨d,g,caps⟩else none
    |_=>none
   |_,_=>none
  |_=>none
 |_=>none
structure DIR where
 n:Nat
 res:List RV
 pre:List IC
 dr:DR
 post:IC
def lowD(P:Program)(n:Nat)(kp:Nat->List Nat)(od:Nat->List (List Nat)):Code->Option (List IC×DR×IC)
 |.seq a b=>match lowDef P n a with
  |some x=>(wU P n kp od b).map fun y=>([],x,y)
  |none=>match wU P n kp od a,lowD P n kp od b with
   |some x,some (l,d,y)=>some (x::l,d,y)
   |_,_=>none
 |_=>none
def lowFD(P:Program)(kp:Nat->List Nat)(od:Nat->List (List Nat))(f:Nat):Option DIR:=
 match P.funcs[f]? with
 |none=>none
 |some fn=>match fn.body with
  |none=>none
  | some c => if fn.name != "runtime.NumGoroutine" then
     match lowD P fn.ntmps kp od c,wY P fn.results.toList with
     |some (l,d,y),some r=>some ⟨fn.ntmps,r,l,d,y⟩
     |_,_=>none
    else none
def endD(P:Program)(g:Nat)(caps:List Value)(res:List RV)(Q:Value->SH->Prop):Exit->Env->SH->Prop:=fun e Γ H=>(e=.normal∨e=.ret)/\∃Pre R Q2,FunD P g caps Pre Q2/\Spl H Pre R/\
 ∀v Post,Q2 v Post->endQ res Q .ret Γ (Post++R)
def VD(P:Program)(n:Nat)(res:List RV)(dr:DR)(post:IC)(Q:Value->SH->Prop):List IC->Env->SH->Prop
 |[],Γ,H=>∃vs,evs Γ dr.caps=some vs/\VC P n post ((dr.d,.func (.func dr.g) #[] vs.toArray)::Γ) H (endD P dr.g vs res Q)
 |x::l,Γ,H=>VC P n x Γ H (thenQ (fun Γ' H'=>VD P n res dr post Q l Γ' H') (endQ res Q))
theorem lowDef_inv {P:Program}{n:Nat}{c:Code}{x:DR}(h:lowDef P n c=some x):∃id ops o1 o2 cl,c=.region id ops false/\ops.toList=[o1,o2]/\lowRO P n ops o1=some ⟨some x.d,none,.clos (.func x.g) [] x.caps⟩/\
 o2.op=.defer cl/\cl.callee=.value (.tmp x.d)/\cl.args=#[]/\o2.guard=none/\o2.dst=none:=by
 unfold lowDef at h;split at h
 case h_2=>cases h
 rename_i id ops;split at h
 case h_2=>cases h
 rename_i o1 o2 hops;split at h
 case h_2=>cases h
 rename_i d g caps c h1 h2;split at h
 case h_2=>cases h
 rename_i d' hc;split at h
 case isFalse=>cases h
 rename_i hcond;obtain⟨rfl,h3,h4,h5⟩:=hcond;cases h;exact⟨id,ops,o1,o2,c,rfl,hops,h1,h2,hc,by simpa using h3,by simpa using h4,by simpa using h5⟩
section
variable {P:Program} {n:Nat} {fn:Func} {tmps:Array Value} {FF:List kC} {w0:World}
theorem leaves_marks {R:Ending->World->Prop}{ds:List Deferred}{L:List kC}:∀(X:List Nat) (w':World),Sat w' (L++(FF++marks X))->kg w0 w'->
 (∀w'',Sat w'' (L++FF)->kg w0 w''->LeavesInM (VFc none) 0 P fn tmps R ds .returning w'')->LeavesInM (VFc none) 0 P fn tmps R (X.map coll++ds) .returning w':=by
 intro X
 induction X with
 |nil=>intro w' hs hk h;exact h w' (by simpa[V.marks]using hs) hk
 |cons r X ih=>
  intro w' hs hk h;have hp:(L++(FF++V.marks (r::X))).Perm (.obj r (.deferred (some []))::(L++(FF++V.marks X))):=by
   exact zCB
  have g5:=hs.perm hp;obtain⟨k1,k2⟩:=g5.obj (Q6 ..);obtain⟨s1,s2⟩:=Sat.setObj (u:=.deferred none) g5 rfl;refine⟨Zs,.inl ⟨r,_,rfl,?_,ih _ (s1.sub (QN ..)) (hk.trans s2) h⟩⟩;exact zDV
theorem leaves_end {r:List RV}{Q:Value->SH->Prop}{a':Act}{w':World}{Γ':Env}{H':SH}{X:List Nat}{e:Exit}(hr:wY P fn.results.toList=some r)(q:endQ r Q e Γ' H')(g1:jn n Γ' a')(g3:Sat w' (H'.flatten++(FF++marks X)))(g4:kg w0 w'):
 LeavesInM (VFc none) 0 P fn a'.tmps (fun e w'=>∃v Post,e=.returned v/\Q v Post/\Sat w' (Post.flatten++FF)/\kg w0 w') (X.map coll) .returning w':=by
 obtain⟨he,vs,Post,h1,h2,h3⟩:=q;have:=leaves_marks (P:=P) (fn:=fn) (tmps:=a'.tmps) (R:=fun e w'=>∃v Post,e=.returned v/\Q v Post/\Sat w' (Post.flatten++FF)/\kg w0 w') (ds:=[]) X w' g3 g4 (fun w'' s k=>⟨_,run_results s hr g1 h1,_,Post,rfl,h3,s.imp h2,k⟩);simpa using this
end
end Go.V
namespace Go.V
open Go
def jY(P:Program)(f:Nat)(args:List Value)(Pre:SH)(Q:Value->SH->Prop)(Z:List PanicEntry->SH->Prop):Prop:=
 ji P f=true/\∀F w,Sat w (Pre.flatten++F)->
  Calls P f args.toArray w fun e w'=>∃Post,((∃v,e=.returned v/\Q v Post)∨(∃ch,e=.panicked ch/\Z ch Post))/\Sat w' (Post.flatten++F)/\kg w w'
section
variable {P:Program} {f:Nat} {args:List Value} {Pre:SH} {Q Q':Value->SH->Prop} {Z Z':List PanicEntry->SH->Prop}
theorem jY.mono(h:jY P f args Pre Q Z)(hq:∀v Post,Q v Post->Q' v Post)(hz:∀ch Post,Z ch Post->Z' ch Post):jY P f args Pre Q' Z':=
 ⟨h.1,fun F w hs=>(h.2 F w hs).mono fun _ _ ⟨Post,a,b,c⟩=>⟨Post,a.imp (fun⟨v,e,q⟩=>⟨v,e,hq _ _ q⟩) (fun⟨ch,e,q⟩=>⟨ch,e,hz _ _ q⟩),b,c⟩⟩
theorem jY.of_fun(h:Fun P f args Pre Q):jY P f args Pre Q Z:=
 ⟨h.1,fun F w hs=>(h.2 F w hs).mono fun _ _ ⟨v,Post,a,b,c,d⟩=>⟨Post,.inl ⟨v,a,b⟩,c,d⟩⟩
theorem jY.fun(h:jY P f args Pre Q (fun _ _=>False)):Fun P f args Pre Q:=
 ⟨h.1,fun F w hs=>(h.2 F w hs).mono fun _ _ ⟨Post,a,b,c⟩=>by
   rcases a with⟨v,e,q⟩|⟨ch,e,q⟩
   ·exact⟨v,Post,e,q,b,c⟩
   ·exact q.elim⟩
theorem jY.conv {H R:SH}(h:jY P f args Pre Q Z)(hs:Spl H Pre R)(hq:∀v Post,Q v Post->∃Post',Q' v Post'/\Imp (Post++R) Post')(hz:∀ch Post,Z ch Post->∃Post',Z' ch Post'/\Imp (Post++R) Post'):jY P f args H Q' Z':=by
 refine⟨h.1,fun F w hw=>?_⟩;have hw':Sat w (Pre.flatten++(R.flatten++F)):=by
  rw[<- vZ];exact hw.perm (vV F hs)
 refine(h.2 (R.flatten++F) w hw').mono ?_
 rintro e w' ⟨Post,h1,h3,h4⟩
 have h3':Sat w' ((Post++R).flatten++F):=by rw[vy,vZ];exact h3
 rcases h1 with⟨v,e1,q⟩|⟨ch,e1,q⟩
 ·obtain⟨Post',h5,h6⟩:=hq v Post q;exact⟨Post',.inl ⟨v,e1,h5⟩,Sat.imp h6 h3',h4⟩
 ·obtain⟨Post',h5,h6⟩:=hz ch Post q;exact⟨Post',.inr ⟨ch,e1,h5⟩,Sat.imp h6 h3',h4⟩
end
section
variable {P:Program} {n:Nat} {rs:List RO} {Γ:Env} {H:SH} {Z:List PanicEntry->Env->SH->Prop} {K:Env->SH->Prop} {d:Option Nat}
theorem kJ {f:Nat}{xs:List Operand}{args:List Value}{Pre R:SH}{Q:Value->SH->Prop}{Z':List PanicEntry->SH->Prop}(hf:jY P f args Pre Q Z')(he:evs Γ xs=some args)(hs:Spl H Pre R)
 (h:∀v Post,Q v Post->VO P n rs (putE d v Γ) (Post++R) Z K) (hz':∀ch Post,Z' ch Post->Z ch Γ (Post++R)):VO P n (⟨d,none,.call f xs⟩::rs) Γ H Z K:=by
 intro l hl a w F ZZ Q' ha hsat hq hz;obtain⟨o,l',rfl,hl',ops,ho⟩:=wp hl;obtain⟨g1,g2,g3,g4⟩:=jE ho;show jq P ZZ (_,o) (wpR P ZZ Q' l') a w;unfold jq;simp only[j8,show kY (V.R.call f xs)=false from rfl,show jA (V.R.call f xs)=false from rfl,if_true,vI,if_false];refine⟨fun e=>(by cases e),?_⟩;obtain⟨c,h1,h2,h3,h4⟩:=low_call g1;have hargs:(c.args.map a.eval)=args.toArray:=by
  apply vC.1;rw[vD,h3,ha.evs he]
 have hrun:(execOp a.eval o).run P w=.ok (.enter f args.toArray) w:=by
  simp[execOp,h1,resolve,h2,Act.eval,Deferred.ofValue,invoke,hargs,wz h4]
 refine wp_call hrun ?_;have hsat':Sat w (Pre.flatten++(R.flatten++F)):=by
  exact zCU
 refine(hf.2 (R.flatten++F) w hsat').mono ?_;exact zAR
theorem st_pnc {x:Operand}{t:TypeId}{v:Value}(hx:ev Γ x=some (.iface t v))(h:Z [{v:=.iface t v,recovered:=false}] Γ H):VO P n (⟨d,none,.pnc x⟩::rs) Γ H Z K:=by
 intro l hl a w F ZZ Q' ha hsat hq hz;obtain⟨o,l',rfl,hl',ops,ho⟩:=wp hl;obtain⟨g1,g2,g3,g4⟩:=jE ho;show jq P ZZ (_,o) (wpR P ZZ Q' l') a w;unfold jq;simp only[j8,show kY (V.R.pnc x)=false from rfl,show jA (V.R.pnc x)=false from rfl,if_true,vI,if_false];refine⟨fun e=>(by cases e),?_⟩;have hop:o.op=.panic x:=by
  obtain⟨dst,op,ty,pos,after,guard⟩:=o;simp only at g1|-;cases op
  case panic y=>simp only[kz,Qo,V.R.pnc.injEq]at g1;rw[g1]
  all_goals (exfalso;try simp only[kz]at g1)
  all_goals (repeat' split at g1)
  all_goals first
   |(cases g1;done)
   |(simp only[Qk]at g1;obtain⟨_,_,g1⟩:=g1;cases g1;done)
 have hrun:(execOp a.eval o).run P w=.halt (.panic (.iface t v)) w:=by
  simp[execOp,hop,ha.ev hx,Instr.panic,goPanic,Sem.run]
 simp only[wpV,hrun,jb];exact hz _ a w Γ H h ha rfl hsat (.refl w)
end
def endP(res:List RV)(Q:Value->SH->Prop)(Z:List PanicEntry->SH->Prop):Exit->Env->SH->Prop
 |.panic ch,_,H=>∃Post,Imp H Post/\Z ch Post
 |e,Γ,H=>endQ res Q e Γ H
theorem jI {res:List RV}{Q:Value->SH->Prop}{Z:List PanicEntry->SH->Prop}{e:Exit}{Γ:Env}{H:SH}(h:endQ res Q e Γ H):endP res Q Z e Γ H:=by
 have he:=h.1;rcases he with rfl|rfl <;> exact h
section
variable {P:Program} {fn:Func} {tmps:Array Value} {FF:List kC} {w0:World}
theorem leaves_marksU {R:Ending->World->Prop}{ds:List Deferred}{L:List kC}{u:FrameMode}(hu:u≠.run):∀(X:List Nat) (w':World),Sat w' (L++(FF++marks X))->kg w0 w'->
 (∀w'',Sat w'' (L++FF)->kg w0 w''->LeavesInM (VFc none) 0 P fn tmps R ds u w'')->LeavesInM (VFc none) 0 P fn tmps R (X.map coll++ds) u w':=by
 intro X
 induction X with
 |nil=>intro w' hs hk h;exact h w' (by simpa[V.marks]using hs) hk
 |cons r X ih=>
  intro w' hs hk h;have hp:(L++(FF++V.marks (r::X))).Perm (.obj r (.deferred (some []))::(L++(FF++V.marks X))):=by
   exact zCB
  have g5:=hs.perm hp;obtain⟨k1,k2⟩:=g5.obj (Q6 ..);obtain⟨s1,s2⟩:=Sat.setObj (u:=.deferred none) g5 rfl;refine⟨hu,.inl ⟨r,_,rfl,?_,ih _ (s1.sub (QN ..)) (hk.trans s2) h⟩⟩;exact zDV
end
theorem jY.intro {P:Program}{kp:Nat->List Nat}{od:Nat->List (List Nat)}{f:Nat}{F:FIR}{args:List Value}{Pre:SH}{Q:Value->SH->Prop}{Z:List PanicEntry->SH->Prop}(hl:ki P kp od f=some F)(hn:args.length<=F.n)
 (h:VC P F.n F.body (argsEnv 0 args) Pre (endP F.res Q Z)):jY P f args Pre Q Z:=by
 unfold ki at hl;split at hl
 ·cases hl
 rename_i fn hfn;split at hl
 ·cases hl
 rename_i c hc;split at hl
 case isFalse=>cases hl
 rename_i hname;split at hl
 case h_2=>cases hl
 rename_i b r hb hr;cases hl;refine⟨by simp only[ji,hfn,hname,hc];rfl,fun FF w hs=>?_⟩;refine(callsIn_wide (n:=0)).1 (callsIn_of_wp_marks hfn hc trivial (h none kp od c hb _ w FF _ (fun l e=>by cases e) ⟨?_,fun t v e=>?_⟩ hs (fun e a' w' Γ' H' X q g1 g2 g3 g4=>?_)))
 ·simp at hn|-;omega
 ·exact zAQ
 ·have hret:∀e0,endQ r Q e0 Γ' H'->LeavesInM (VFc none) 0 P fn a'.tmps (fun e w'=>∃Post,((∃v,e=.returned v/\Q v Post)∨(∃ch,e=.panicked ch/\Z ch Post))/\Sat w' (Post.flatten++FF)/\kg w w') a'.defers .returning w':=by
   rintro e0 ⟨_,vs,Post,h1,h2,h3⟩
   have:=leaves_marksU (P:=P) (fn:=fn) (tmps:=a'.tmps) (w0:=w) (FF:=FF) (L:=H'.flatten) (u:=.returning) (R:=fun e w'=>∃Post,((∃v,e=.returned v/\Q v Post)∨(∃ch,e=.panicked ch/\Z ch Post))/\Sat w' (Post.flatten++FF)/\kg w w') (ds:=[]) Zs X w' g3 g4
    (fun w'' s k=>⟨_,run_results s hr g1 h1,Post,.inl ⟨_,rfl,h3⟩,s.imp h2,k⟩)
   rw[g2];exact this
  cases e with
  |normal=>exact hret _ q
  |ret=>exact hret _ q
  |panic ch=>
   obtain⟨Post,h2,h3⟩:=q;have:=leaves_marksU (P:=P) (fn:=fn) (tmps:=a'.tmps) (w0:=w) (FF:=FF) (L:=H'.flatten) (u:=.panicking ch) (R:=fun e w'=>∃Post,((∃v,e=.returned v/\Q v Post)∨(∃ch,e=.panicked ch/\Z ch Post))/\Sat w' (Post.flatten++FF)/\kg w w') (ds:=[]) Zs X w' g3 g4
    (fun w'' s k=>(⟨Post,.inr ⟨ch,rfl,h3⟩,s.imp h2,k⟩:∃Post,_))
   show LeavesInM _ _ _ _ _ _ a'.defers _ _;rw[g2];exact this
  |exit id=>exact absurd q.1 Zs
  |goto l=>exact absurd q.1 Zs
  |outgrown=>exact absurd q.1 Zs
def FunVP(P:Program)(fv:Value)(args:List Value)(Pre:SH)(Q:Value->SH->Prop)(Z:List PanicEntry->SH->Prop):Prop:=
 ∀F w,Sat w (Pre.flatten++F)->Invk P fv args w fun e w'=>∃Post,((∃v,e=.returned v/\Q v Post)∨(∃ch,e=.panicked ch/\Z ch Post))/\Sat w' (Post.flatten++F)/\kg w w'
theorem FunVP.of_fun {P:Program}{f:Nat}{first cap:Array Value}{args:List Value}{Pre:SH}{Q:Value->SH->Prop}{Z:List PanicEntry->SH->Prop}(h:jY P f (first.toList++args++cap.toList) Pre Q Z):FunVP P (.func (.func f) first cap) args Pre Q Z:=by
 exact zCH
theorem st_callVZ {P:Program}{n:Nat}{rs:List RO}{Γ:Env}{H:SH}{Z:List PanicEntry->Env->SH->Prop}{K:Env->SH->Prop}{d:Option Nat}{x:Operand}{fv:Value}{xs:List Operand}{args:List Value}{Pre R:SH}{Q:Value->SH->Prop}{Z':List PanicEntry->SH->Prop}
 (hx:ev Γ x=some fv) (hf:FunVP P fv args Pre Q Z') (he:evs Γ xs=some args) (hs:Spl H Pre R)
 (h:∀v Post,Q v Post->VO P n rs (putE d v Γ) (Post++R) Z K) (hz':∀ch Post,Z' ch Post->Z ch Γ (Post++R)):VO P n (⟨d,none,.callv x xs⟩::rs) Γ H Z K:=by
 intro l hl a w F ZZ Q' ha hsat hq hz;obtain⟨o,l',rfl,hl',ops,ho⟩:=wp hl;obtain⟨g1,g2,g3,g4⟩:=jE ho;show jq P ZZ (_,o) (wpR P ZZ Q' l') a w;unfold jq;have hp:kY (V.R.callv x xs)=false:=rfl;have hr:jA (V.R.callv x xs)=false:=rfl;simp only[j8,hp,hr,if_true,vI,if_false];refine⟨fun e=>(by cases e),?_⟩;obtain⟨c,h1,h2,h3⟩:=low_callv g1;have hm:xs.map a.eval=args:=ha.evs he;have hargs:(c.args.map a.eval)=args.toArray:=by
  exact zE5
 have hsat':Sat w (Pre.flatten++(R.flatten++F)):=by
  exact zCU
 have hi:=hf (R.flatten++F) w hsat';have fin:∀(e:Ending) (w':World),(∃Post,((∃v,e=.returned v/\Q v Post)∨(∃ch,e=.panicked ch/\Z' ch Post))/\Sat w' (Post.flatten++(R.flatten++F))/\kg w w')->
  (∃v,e=.returned v/\wpR P ZZ Q' l' (a.put o.dst v) w')∨(∃ch,e=.panicked ch/\ZZ (.panic ch) a w'):=by
  exact zAR
 have hev:a.eval x=fv:=ha.ev hx;unfold Invk at hi;split at hi
 ·rename_i f first cap
  have hrun:(execOp a.eval o).run P w=.ok (.enter f (first++args.toArray++cap)) w:=by
   simp[execOp,h1,resolve,h2,hev,Deferred.ofValue,invoke,hargs];rw[wz hi.1]
  simp only[wpV,hrun,jb];refine hi.2.mono (fun e w' he=>?_);rcases fin e w' he with⟨v,rfl,hv⟩|⟨ch,rfl,hv⟩ <;> exact hv
 ·rename_i l0 first cap
  obtain⟨f,tmps,asg,body,hy,hrd⟩:=hi;have hrun:(execOp a.eval o).run P w=.ok (.round l0 f tmps asg body) w:=by
   simp[execOp,h1,resolve,h2,hev,Deferred.ofValue,invoke,hargs];exact hy
  simp only[wpV,hrun,jb];refine hrd.mono (fun e w' he=>?_);rcases fin e w' he with⟨v,rfl,hv⟩|⟨ch,rfl,hv⟩ <;> exact hv
 ·exact hi.elim
end Go.V
namespace Go.V
open Go
def upd {α:Type}(f:Int->α)(i:Int)(v:α):Int->α:=fun k=>if k=i then v else f k
abbrev swp {α:Type}(f:Int->α)(i j:Int):Int->α:=upd (upd f i (f j)) j (f i)
inductive Sw {α:Type}(a b:Int)(f:Int->α):(Int->α)->Prop where
 |refl:Sw a b f f
 |step {g:Int->α} {i j:Int}:Sw a b f g->a<=i/\i < b->a<=j/\j < b->Sw a b f (swp g i j)
structure LtOk {α:Type}(lt:α->α->Bool):Prop where
 asymm:∀x y,lt x y=true->lt y x=false
 le_trans:∀x y z,lt y x=false->lt z y=false->lt z x=false
 eq:∀x y,lt x y=false->lt y x=false->x=y
section
variable {P:Program} {n:Nat} {rs:List RO} {Γ:Env} {H R:SH} {Z:List PanicEntry->Env->SH->Prop} {K:Env->SH->Prop} {d:Option Nat} {α:Type} {e:α->Value} {N b o:Nat} {f:Int->α}
end
section
variable {α:Type} {lt:α->α->Bool}
end
section
variable {α:Type} {lt:α->α->Bool}
end
section
variable {α:Type} {lt:α->α->Bool}
structure PI (lt:α->α->Bool)(a z i j:Int)(p:α)(g:Int->α):Prop where
 piv:g a=p
 less:∀k,a < k->k < i->lt (g k) p=true
 more:∀k,j < k->k < z->lt (g k) p=false
 lo:a+1<=i
 mid:i<=j+1
 hi:j < z
end
section
variable {α:Type} {lt:α->α->Bool}
end
section
variable {α:Type}
end
theorem jC.other {size n:Nat}{sv:Value}{us vs sp:List Value}(h:jC size sv n us sp)(hv:vs.length=us.length):jC size sv n vs sp:=by
 cases h with
 |mk a1 a2 a3=>exact .mk Zo Zo a3
 |nil=>
  have:vs=[]:=vj (by simpa using hv);subst this;exact .nil
end Go.V
namespace Go.V
open Go
structure Ch where
 kind:Int
 n:Int
 text:ByteArray
structure De where
 kind:Int
 handle:Int
 text:ByteArray
 to:ByteArray
 n:Int
 err:Int
structure Wr where
 seq:Int
 at_:Int
 text:ByteArray
 empty:Bool
structure FO where
 now:List UInt8
 base:List UInt8
 writes:List Wr
 nv:Value
 bv:Value
 wv:Value
 ns:List Value
 bs:List Value
 ws:List Value
structure HO where
 blk:Nat
 closed:Bool
 stale:Bool
 file:Option Nat
 mode:Int
 at_:Int
def chEnc(c:Ch):List Value:=[.int .u8 c.kind,vi c.n,.string c.text]
def deEnc(d:De):List Value:=[.int .u8 d.kind,vi d.handle,.string d.text,.string d.to,vi d.n,vi d.err]
def wrEnc(x:Wr):List Value:=[vi x.seq,vi x.at_,.string x.text,.bool x.empty]
def u8v(c:UInt8):Value:=.int .u8 c.toNat
def pf(f:Option Nat):Value:=.pointer (f.map fun b=>⟨b,0,none⟩)
def hoEnc(h:HO):List Value:=[.bool h.closed,.bool h.stale,pf h.file,vi h.mode,vi h.at_]
def hoA(h:HO):List kC:=kA h.blk 0 (hoEnc h)
def foA(p:Nat×FO):List kC:=kA p.1 0 [p.2.nv,p.2.bv,p.2.wv]++(slA p.2.nv (p.2.now.map u8v) p.2.ns++(slA p.2.bv (p.2.base.map u8v) p.2.bs++slA p.2.wv (p.2.writes.flatMap wrEnc) p.2.ws))
structure WR where
 cv:Value
 choices:List Ch
 csp:List Value
 fm:Nat
 fes:Array MapEntry
 fc:Nat
 names:List (ByteArray×Nat)
 objs:List (Nat×FO)
 hv:Value
 hs:List HO
 hsp:List Value
 tv:Value
 trace:List De
 tsp:List Value
 clock:Int
 seq:Int
 dead:Bool
abbrev hdr (w:WR):List Value:=[w.cv,.map (some w.fm),w.hv,w.tv,vi w.clock,vi w.seq,.bool w.dead]
abbrev WMem (t:Nat)(w:WR):SH:=
 [kA t 0 [w.cv,.map (some w.fm),w.hv,w.tv,vi w.clock,vi w.seq,.bool w.dead],slA w.cv (w.choices.flatMap chEnc) w.csp,[.obj w.fm (.map w.fes w.fc)],w.objs.flatMap foA,slA w.hv (w.hs.map fun h=>kE h.blk) w.hsp,w.hs.flatMap hoA,slA w.tv (w.trace.flatMap deEnc) w.tsp]
structure FOk (f:FO)(M:Nat):Prop where
 now:jC 1 f.nv f.now.length (f.now.map u8v) f.ns
 base:jC 1 f.bv f.base.length (f.base.map u8v) f.bs
 wr:jC 4 f.wv f.writes.length (f.writes.flatMap wrEnc) f.ws
 len:f.now.length<=4194304
 len2:f.base.length<=4194304
 many:f.writes.length<=M
 at_:∀x∈f.writes,0<=x.at_/\x.at_+x.text.size<=4194304
structure WOk (w:WR)(M:Nat):Prop where
 ch:jC 3 w.cv w.choices.length (w.choices.flatMap chEnc) w.csp
 fm:zG zX (fun b:Nat=>kE b) w.fes w.fc w.names
 keys:(w.names.map (·.1)).Nodup
 blks:(w.objs.map (·.1)).Nodup
 named:∀p∈w.names,p.2∈w.objs.map (·.1)
 fo:∀p∈w.objs,FOk p.2 M
 hv:jC 1 w.hv w.hs.length (w.hs.map fun h=>kE h.blk) w.hsp
 hfile:∀h∈w.hs,∀b,h.file=some b->b∈w.objs.map (·.1)
 hat:∀h∈w.hs,0<=h.at_/\h.at_<=4194304
 hmany:w.hs.length<=M
 tr:jC 6 w.tv w.trace.length (w.trace.flatMap deEnc) w.tsp
 trmany:w.trace.length<=M
 seq:0<=w.seq/\w.seq<=M
 clock:0<=w.clock/\w.clock<=1000000000000000000
 files:w.names.length<=1073741823
 chmany:w.choices.length<=65536
def AllVO(K:List RO->Prop):List (List RO)->Prop
 |[]=>True
 |rs::r=>K rs/\AllVO K r
theorem AllVO.mem {K:List RO->Prop}:∀{rss:List (List RO)},AllVO K rss->∀rs∈rss,K rs:=by
 intro rss
 induction rss with
 |nil=>intro _ rs h;cases h
 |cons a r ih=>
  intro h rs hm;rcases Q4.1 hm with rfl|hm
  ·exact h.1
  ·exact ih h.2 rs hm
theorem VC.draws {P:Program}{n:Nat}{Γ:Env}{H:SH}{Q:Exit->Env->SH->Prop}{rss:List (List RO)}{keep:List Nat}(h:AllVO (fun rs=>VO P n rs Γ H (fun _ _ _=>False) fun Γ' H'=>Q .normal (restr keep Γ') H') rss):VC P n (.draw rss keep) Γ H Q:=VC.draw h.mem
theorem VC.seq_draws {P:Program}{n:Nat}{Γ:Env}{H:SH}{Q:Exit->Env->SH->Prop}{rss:List (List RO)}{keep:List Nat}{y:IC}{α:Type}(Γf:α->Env)(Hf:α->SH)(I:α->Prop)
 (h:AllVO (fun rs=>VO P n rs Γ H (fun _ _ _=>False) fun Γ' H'=>∃s,I s/\Sub (restr keep Γ') (Γf s)/\Imp H' (Hf s)) rss) (h2:∀s,I s->VC P n y (Γf s) (Hf s) Q):VC P n (.seq (.draw rss keep) y) Γ H Q:=by
 refine VC.seq (VC.draws ?_);have key:∀{l:List (List RO)},AllVO (fun rs=>VO P n rs Γ H (fun _ _ _=>False) fun Γ' H'=>∃s,I s/\Sub (restr keep Γ') (Γf s)/\Imp H' (Hf s)) l->
  AllVO (fun rs=>VO P n rs Γ H (fun _ _ _=>False) fun Γ' H'=>VC P n y (restr keep Γ') H' Q) l:=by
  intro l
  induction l with
  |nil=>intro _;trivial
  |cons a r ih=>
   intro hh;exact⟨hh.1.mono (fun Γ' H' ⟨s,i1,i2,i3⟩=>VC.sub i2 (VC.imp i3 (h2 s i1))),ih hh.2⟩
 exact key h
section
variable {P:Program} {n:Nat} {rs:List RO} {Γ:Env} {H:SH} {Z:List PanicEntry->Env->SH->Prop} {K:Env->SH->Prop} {d:Option Nat}
theorem st_gcase {r:R}{s:Nat}{b c:Bool}(hs:look Γ s=some (.bool c))(ht:c=true->VO P n (⟨d,some (s,b),r⟩::rs) ((s,.bool true)::Γ) H Z K)(hf:c=false->VO P n (⟨d,some (s,b),r⟩::rs) ((s,.bool false)::Γ) H Z K):
 VO P n (⟨d,some (s,b),r⟩::rs) Γ H Z K:=st_case hs ht hf
theorem st_pcase {s:Nat}{x y:Operand}{c:Bool}(hs:look Γ s=some (.bool c))(ht:c=true->VO P n (⟨d,none,.pick (.tmp s) x y⟩::rs) ((s,.bool true)::Γ) H Z K)(hf:c=false->VO P n (⟨d,none,.pick (.tmp s) x y⟩::rs) ((s,.bool false)::Γ) H Z K):
 VO P n (⟨d,none,.pick (.tmp s) x y⟩::rs) Γ H Z K:=st_case hs ht hf
end
end Go.V
namespace Go.V
open Go
def sBytes(s:ByteArray):List Value:=s.data.toList.map fun c=>.int .u8 c.toNat
section
variable {P:Program} {n:Nat} {rs:List RO} {Γ:Env} {H:SH} {Z:List PanicEntry->Env->SH->Prop} {K:Env->SH->Prop} {d:Option Nat}
end
end Go.V
namespace Go.V
open Go
def setObj(objs:List (Nat×FO))(b:Nat)(fo:FO):List (Nat×FO):=objs.map fun p=>if p.1=b then(b,fo)else p
end Go.V
