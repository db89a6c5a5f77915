/-
  The rules as they are used: one for each kind of operation; side conditions are met by themselves where they can be.
-/
import Derived.Test.YtijnokbblmbpkaaGreatDoorM4
set_option linter.all false
namespace Go.V
open Go
inductive Tk:SH->List kC->SH->Prop where
 |here {A:List kC} {L:SH}:Tk (A::L) A L
 |there {A B:List kC} {L R:SH}:Tk L A R->Tk (B::L) A (B::R)
theorem zc(A B X:List kC):(A++(B++X)).Perm (B++(A++X)):=by
 exact zAT
theorem Tk.perm {L R:SH}{A:List kC}(h:Tk L A R):L.flatten.Perm (A++R.flatten):=by
 induction h with
 |here=>simp
 |there _ ih=>
  simp only[Vd];refine(vX _ ih).trans ?_;exact zAT
theorem eo.nil {H:SH}:eo H [] H:=by simp[eo]
theorem eo.cons {H R R' bm:SH}{A:List kC}(h:Tk H A R)(k:eo R bm R'):eo H (A::bm) R':=by
 simp only[eo,Vd,vj];exact h.perm.trans (vX _ k)
theorem ao.nil {H:SH}:ao H []:=⟨H,by simp[eo]⟩
theorem ao.cons {H R Δ:SH}{A:List kC}(h:Tk H A R)(k:ao R Δ):ao H (A::Δ):=by
 obtain⟨X,hX⟩:=k;refine⟨X,?_⟩;simp only[eo,Vd,vj];exact h.perm.trans (vX _ hX)
theorem Sub.nil {Γ:Env}:Sub Γ []:=fun t v h=>by simp[look]at h
theorem Sub.cons {Γ Δ:Env}{t:Nat}{v:Value}(h:look Γ t=some v)(k:Sub Γ Δ):Sub Γ ((t,v)::Δ):=fun s u e=>by
 simp only[look]at e;split at e
 ·rename_i es;subst es;cases e;exact h
 ·exact k s u e
theorem Sub.refl {Γ:Env}:Sub Γ Γ:=fun _ _ h=>h
inductive Has:SH->Nat->Nat->Value->Prop where
 |cells {b o k:Nat} {vs:List Value} {v:Value} {L:SH}:o<=k->vs[k - o]? =some v->Has (kA b o vs::L) b k v
 |there {A:List kC} {L:SH} {b k:Nat} {v:Value}:Has L b k v->Has (A::L) b k v
 |among {A:List kC} {L:SH} {b k:Nat} {v:Value}:kC.cell b k v∈A->Has (A::L) b k v
theorem Has.mem {H:SH}{b k:Nat}{v:Value}(h:Has H b k v):kC.cell b k v∈H.flatten:=by
 induction h with
 |cells h1 h2=>
  simp only[Vd,QF];left;exact kJ.2 ⟨_,_,h2,by congr 1;omega⟩
 |there _ ih=>simp only[Vd,QF];exact .inr ih
 |among h=>simp only[Vd,QF];exact .inl h
inductive Ik:SH->Nat->Nat->List Value->Prop where
 |cells {b o k n:Nat} {vs us:List Value} {L:SH}:o<=k->(vs.drop (k - o)).take us.length=us->us.length=n->Ik (kA b o vs::L) b k us
 |there {A:List kC} {L:SH} {b k:Nat} {us:List Value}:Ik L b k us->Ik (A::L) b k us
theorem Ik.mem {H:SH}{b k:Nat}{us:List Value}(h:Ik H b k us):∀x∈kA b k us,x∈H.flatten:=by
 induction h with
 |cells h1 h2 _=>
  intro x hx;obtain⟨i,v,hi,rfl⟩:=kJ.1 hx;simp only[Vd,QF];left;rw[<- h2]at hi;simp only[List.getElem?_take,Vo]at hi;split at hi
  ·exact kJ.2 ⟨_,v,hi,by congr 1;omega⟩
  ·cases hi
 |there _ ih=>intro x hx;simp only[Vd,QF];exact .inr (ih x hx)
def AU(Γ:Env)(x:Operand):Value:=(ev Γ x).getD undef
def known(Γ:Env)(x:Operand):Bool:=(ev Γ x).isSome
theorem OQ {Γ:Env}{x:Operand}{ρ:Operand->Value}(h:known Γ x=true)(aO:∀x u,ev Γ x=some u->ρ x=u):ρ x=AU Γ x:=by
 obtain⟨u,hu⟩:=Qz.1 h;simp[AU,hu,aO _ _ hu]
def ptr(b o:Nat):Value:=.pointer (some ⟨b,o,none⟩)
section
variable {P:Program} {n:Nat} {rs:List RO} {Γ Δ:Env} {H:SH} {Z:List PanicEntry->Env->SH->Prop} {K:Env->SH->Prop} {d:Option Nat} {g:Option (Nat×Bool)}
theorem nY {r:R}{v:Value}(hp:kd r=true)(hk:(lB r).all (known Γ)=true)(hv:kW (AU Γ) r=some v)(h:VO P n rs (ap d v Γ) H Z K):VO P n (⟨d,none,r⟩::rs) Γ H Z K:=
 VO.pure hp (fun ρ aO=>by
  rw[<- hv];exact gu hp (fun x hx=>OQ (ve.1 hk x hx) aO)) h
theorem nz {x:Operand}{v:Value}(hx:ev Γ x=some v)(h:VO P n rs (ap d v Γ) H Z K):VO P n (⟨d,none,.mv x⟩::rs) Γ H Z K:=
 VO.pure rfl (fun ρ aO=>by simp[kW,aO _ _ hx]) h
theorem ny {off:Nat}{x:Operand}{b o o':Nat}(hx:ev Γ x=some (.pointer (some ⟨b,o,none⟩)))(ho:o+off=o')(h:VO P n rs (ap d (.pointer (some ⟨b,o',none⟩)) Γ) H Z K):VO P n (⟨d,none,.fld off x⟩::rs) Γ H Z K:=
 VO.pure rfl (fun ρ aO=>by simp[kW,aO _ _ hx,ho]) h
theorem EK {x:Operand}{a:Addr}(hx:ev Γ x=some (.pointer (some a)))(h:VO P n rs (ap d (.pointer (some a)) Γ) H Z K):VO P n (⟨d,none,.tD x⟩::rs) Γ H Z K:=
 VO.pure rfl (fun ρ aO=>by simp[kW,aO _ _ hx]) h
theorem wrap64 {z:Int}(h:-9223372036854775808<=z/\z<=9223372036854775807):IntKind.i64.wrap z=z:=by
 exact zE4
theorem EF {x y:Operand}{a b:Int}(hx:ev Γ x=some (.int .i64 a))(hy:ev Γ y=some (.int .i64 b))(hr:-9223372036854775808<=a+b/\a+b<=9223372036854775807)(h:VO P n rs (ap d (.int .i64 (a+b)) Γ) H Z K):
 VO P n (⟨d,none,.bin .add x y⟩::rs) Γ H Z K:=
 VO.pure rfl (fun ρ aO=>by simp[kW,aO _ _ hx,aO _ _ hy,zt,mX,wrap64 hr]) h
theorem EO {x y:Operand}{a b:Int}(hx:ev Γ x=some (.int .i64 a))(hy:ev Γ y=some (.int .i64 b))(hr:-9223372036854775808<=a - b/\a - b<=9223372036854775807)(h:VO P n rs (ap d (.int .i64 (a - b)) Γ) H Z K):
 VO P n (⟨d,none,.bin .sub x y⟩::rs) Γ H Z K:=
 VO.pure rfl (fun ρ aO=>by simp[kW,aO _ _ hx,aO _ _ hy,zt,mX,wrap64 hr]) h
theorem EJ {x y:Operand}{a b:Int}(hx:ev Γ x=some (.int .i64 a))(hy:ev Γ y=some (.int .i64 b))(hr:-9223372036854775808<=a*b/\a*b<=9223372036854775807)(h:VO P n rs (ap d (.int .i64 (a*b)) Γ) H Z K):
 VO P n (⟨d,none,.bin .mul x y⟩::rs) Γ H Z K:=
 VO.pure rfl (fun ρ aO=>by simp[kW,aO _ _ hx,aO _ _ hy,zt,mX,wrap64 hr]) h
theorem EL {x y:Operand}{k:IntKind}{a b:Int}(hx:ev Γ x=some (.int k a))(hy:ev Γ y=some (.int k b))(hr:b≠0)(h:VO P n rs (ap d (.int k (a.tmod b)) Γ) H Z K):
 VO P n (⟨d,none,.bin .rem x y⟩::rs) Γ H Z K:=
 VO.pure rfl (fun ρ aO=>by simp[kW,aO _ _ hx,aO _ _ hy,zt,mX,hr]) h
theorem Ya {k k':IntKind}{x:Operand}{a b:Int}(hx:ev Γ x=some (.int k' a))(hr:k.wrap a=b)(h:VO P n rs (ap d (.int k b) Γ) H Z K):VO P n (⟨d,none,.conv k x⟩::rs) Γ H Z K:=
 VO.pure rfl (fun ρ aO=>by simp[kW,aO _ _ hx,hr]) h
theorem ru {size:Nat}{x i:Operand}{b o o' len cap:Nat}{k:IntKind}{m:Int}(hx:ev Γ x=some (.slice (some ⟨b,o,none⟩) len cap))(hi:ev Γ i=some (.int k m))(hb:0<=m/\m < len)
 (ho:o+m.toNat*size=o') (h:VO P n rs (ap d (.pointer (some ⟨b,o',none⟩)) Γ) H Z K):VO P n (⟨d,none,.Jb size x i⟩::rs) Γ H Z K:=
 VO.pure rfl (fun ρ aO=>by simp[kW,aO _ _ hx,aO _ _ hi,hb,ho]) h
theorem uS {len size:Nat}{x i:Operand}{b o o':Nat}{k:IntKind}{m:Int}(hx:ev Γ x=some (.pointer (some ⟨b,o,none⟩)))(hi:ev Γ i=some (.int k m))(hb:0<=m/\m < len)
 (ho:o+m.toNat*size=o') (h:VO P n rs (ap d (.pointer (some ⟨b,o',none⟩)) Γ) H Z K):VO P n (⟨d,none,.Mi len size x i⟩::rs) Γ H Z K:=
 VO.pure rfl (fun ρ aO=>by simp[kW,aO _ _ hx,aO _ _ hi,hb,ho]) h
theorem wF {x i:Operand}{s:ByteArray}{k:IntKind}{m:Int}{j:Nat}{c:UInt8}(hx:ev Γ x=some (.string s))(hi:ev Γ i=some (.int k m))(hm:m=(j:Int))(hc:s[j]? =some c)
 (h:VO P n rs (ap d (.int .u8 c.toNat) Γ) H Z K):VO P n (⟨d,none,.uA x i⟩::rs) Γ H Z K:=
 VO.pure rfl (fun ρ aO=>by subst hm;simp[kW,aO _ _ hx,aO _ _ hi,hc]) h
theorem iI {c a b:Operand}{v:Value}(hc:ev Γ c=some (.bool true))(ha:ev Γ a=some v)(h:VO P n rs (ap d v Γ) H Z K):VO P n (⟨d,none,.pick c a b⟩::rs) Γ H Z K:=
 VO.pure rfl (fun ρ aO=>by simp[kW,aO _ _ hc,aO _ _ ha]) h
theorem iH {c a b:Operand}{v:Value}(hc:ev Γ c=some (.bool false))(hb:ev Γ b=some v)(h:VO P n rs (ap d v Γ) H Z K):VO P n (⟨d,none,.pick c a b⟩::rs) Γ H Z K:=
 VO.pure rfl (fun ρ aO=>by simp[kW,aO _ _ hc,aO _ _ hb]) h
theorem K1 {s:Nat}{c:Bool}(hs:look Γ s=some (.bool c))(ht:c=true->VO P n rs ((s,.bool true)::Γ) H Z K)(hf:c=false->VO P n rs ((s,.bool false)::Γ) H Z K):VO P n rs Γ H Z K:=by
 cases c with
 |true=>exact VO.sub (Sub.cons hs Sub.refl) (ht rfl)
 |false=>exact VO.sub (Sub.cons hs Sub.refl) (hf rfl)
theorem rq {r:R}{s:Nat}{b:Bool}(hs:look Γ s=some (.bool b))(h:VO P n (⟨d,none,r⟩::rs) Γ H Z K):VO P n (⟨d,some (s,b),r⟩::rs) Γ H Z K:=by
 intro l hl a w F ZZ Q ha iw hq hz;obtain⟨o,l',rfl,rJ,ops,ho⟩:=zS hl;obtain⟨g1,g2,g3,g4⟩:=jI ho;have hw:jE (some (s,b)) a=true:=by simp[jE,ha.slots _ _ hs]
 have:=h ((⟨d,none,r⟩,{o with guard:=none})::l') ⟨by simp[rJ.1],fun x hx=>by
  rcases QH.1 hx with rfl|hx
  ·refine⟨ops,?_⟩;have hd:o.dst.all (fun x=>decide (x < n))=true:=by
    rw[<- g2];cases IW:d with
    |none=>rfl
    |some t=>have:=g3 t IW;simpa using this
   simp only at g2 g1;simp[dP,g1,hd,g2]
  ·exact rJ.2 x hx⟩ a w F ZZ Q ha iw hq hz
 have mV:wA P ZZ (⟨d,none,r⟩,{o with guard:=none}) (cr P ZZ Q l') a w:=this;show wA P ZZ (⟨d,some (s,b),r⟩,o) (cr P ZZ Q l') a w;unfold wA at mV|-;rw[if_pos (show jE _ a=true from hw)];rw[if_pos (show jE none a=true from rfl)]at mV;exact mV
theorem Dh {r:R}{s:Nat}{b c:Bool}(hs:look Γ s=some (.bool c))(hc:(c==b)=false)(h:VO P n rs (ap d undef Γ) H Z K):VO P n (⟨d,some (s,b),r⟩::rs) Γ H Z K:=by
 intro l hl a w F ZZ Q ha iw hq hz;obtain⟨o,l',rfl,rJ,ops,ho⟩:=zS hl;obtain⟨g1,g2,g3,g4⟩:=jI ho;have hw:jE (some (s,b)) a=false:=by simpa[jE,ha.slots _ _ hs]using hc
 exact zBK
theorem z8 {x:Operand}{b o:Nat}{v:Value}(hx:ev Γ x=some (.pointer (some ⟨b,o,none⟩)))(hm:Has H b o v)(h:VO P n rs (ap d v Γ) H Z K):VO P n (⟨d,none,.qE x⟩::rs) Γ H Z K:=
 VO.read rfl rfl (fun ρ aO=>⟨_,rfl,fun F w hs=>by
  have:=(hs.cell (Zw F hm.mem)).1;simp[aO _ _ hx,Instr.sureAddr,this]⟩) h
theorem S3 {m:Nat}{x:Operand}{b o:Nat}{us:List Value}(hx:ev Γ x=some (.pointer (some ⟨b,o,none⟩)))(hm:Ik H b o us)(hn:us.length=m)(h:VO P n rs (ap d (.agg us.toArray) Γ) H Z K):VO P n (⟨d,none,.iB m x⟩::rs) Γ H Z K:=
 VO.read rfl rfl (fun ρ aO=>⟨_,rfl,fun F w hs=>by
  simp[aO _ _ hx,Instr.sureAddr,run_loadCells hn hm.mem hs]⟩) h
inductive Lh:SH->Nat->Nat->List Value->SH->Prop where
 |cells {b o k:Nat} {vs us ws:List Value} {L:SH}:o<=k->k - o+us.length<=vs.length->vs.take (k - o)++us++vs.drop (k - o+us.length)=ws->Lh (kA b o vs::L) b k us (kA b o ws::L)
 |there {A:List kC} {L L':SH} {b k:Nat} {us:List Value}:Lh L b k us L'->Lh (A::L) b k us (A::L')
theorem Lh.split {H H':SH}{b k:Nat}{us:List Value}(h:Lh H b k us H'):∃(old:List Value) (R:List kC),old.length=us.length/\H.flatten.Perm (kA b k old++R)/\H'.flatten.Perm (kA b k us++R):=by
 induction h with
 |@cells b o k vs us ws L h1 h2 h3=>
  subst h3;have ma:vs=vs.take (k - o)++((vs.drop (k - o)).take us.length++vs.drop (k - o+us.length)):=by
   rw[<- List.drop_drop,Qf,Qf]
  have hl:(vs.take (k - o)).length=k - o:=by simp;omega
  have fQ:((vs.drop (k - o)).take us.length).length=us.length:=by simp;omega
  have hk:o+(k - o)=k:=by omega
  refine⟨(vs.drop (k - o)).take us.length,kA b o (vs.take (k - o))++(kA b (k+us.length) (vs.drop (k - o+us.length))++L.flatten),fQ,?_,?_⟩
  ·have e:kA b o vs=kA b o (vs.take (k - o))++(kA b k ((vs.drop (k - o)).take us.length)++kA b (k+us.length) (vs.drop (k - o+us.length))):=by
    conv=>lhs;rw[ma]
    rw[j8,hl,hk,j8,fQ]
   simp only[Vd,e,vj];exact zc _ _ _
  ·simp only[Vd,j8,hl,hk,vj];exact zc _ _ _
 |@there A L L' b k us _ ih=>
  obtain⟨old,R,h1,h2,h3⟩:=ih;refine⟨old,A++R,h1,?_,?_⟩
  ·simp only[Vd];refine(vX A h2).trans ?_;exact zAT
  ·simp only[Vd];refine(vX A h3).trans ?_;exact zAT
theorem Hy {m:Nat}{x y:Operand}{b o:Nat}{v:Value}{H':SH}(hx:ev Γ x=some (.pointer (some ⟨b,o,none⟩)))(hy:ev Γ y=some v)(hn:v.cells.size=m)(ed:v.cells.toList.all js=true)
 (hu:Lh H b o v.cells.toList H') (h:VO P n rs (ap d undef Γ) H' Z K):VO P n (⟨d,none,.store m x y⟩::rs) Γ H Z K:=by
 refine VO.act rfl rfl (fun ρ aO=>⟨_,rfl,?_⟩);obtain⟨old,R,h1,h2,h3⟩:=hu.split;refine aK.perm h2 ?_;have hρy:ρ y=v:=aO _ _ hy;have:=Mu (P:=P) (ρ:=ρ) (n:=m) (x:=x) (v:=y) (us:=old) (R:=R) (b:=b) (o:=o) (K:=fun nx L=>∃v H',(nx=.value v∨(nx=.skip/\v=undef))/\L.Perm H'.flatten/\VO P n rs (ap d v Γ) H' Z K)
  (aO _ _ hx) (by rw[hρy];exact hn) (by rw[h1];simpa using hn) (by rw[hρy];exact ve.1 ed) ⟨undef,H',.inr ⟨rfl,rfl⟩,by rw[hρy];exact h3.symm,h⟩
 exact this
theorem eV {m:Nat}{x y:Operand}{b o:Nat}{v:Value}{us:List Value}{H':SH}(hx:ev Γ x=some (.pointer (some ⟨b,o,none⟩)))(hy:ev Γ y=some v)(hv:v.cells.toList=us)(hn:us.length=m)(ed:us.all js=true)
 (hu:Lh H b o us H') (h:VO P n rs (ap d undef Γ) H' Z K):VO P n (⟨d,none,.store m x y⟩::rs) Γ H Z K:=by
 subst hv;exact Hy hx hy (by simpa using hn) ed hu h
theorem rk {z:List Value}{ps:List (Nat×Nat×Operand)}{out:List Value}(hk:(ps.map (·.2.2)).all (known Γ)=true)(ho:jX z (jW (AU Γ) ps)=some out)
 (h:VO P n rs (ap d (.agg out.toArray) Γ) H Z K):VO P n (⟨d,none,.build z ps⟩::rs) Γ H Z K:=by
 refine VO.pure rfl (fun ρ aO=>?_) h;have:jW ρ ps=jW (AU Γ) ps:=by
  exact zD8
 simp[kW,this,ho]
theorem kX {t:TypeId}{x:Operand}{v:Value}(hx:ev Γ x=some v)(h:∀b,VO P n rs (ap d (.pointer (some ⟨b,0,none⟩)) Γ) (kA b 0 v.cells.toList::H) Z K):VO P n (⟨d,none,.box t x⟩::rs) Γ H Z K:=by
 refine VO.act rfl rfl (fun ρ aO=>⟨_,rfl,?_⟩);refine Ef (fun b=>⟨_,_,.inl rfl,?_,h b⟩);rw[aO _ _ hx];simp
theorem kO {t:TypeId}{z:List Value}(h:∀b,VO P n rs (ap d (.pointer (some ⟨b,0,none⟩)) Γ) (kA b 0 z::H) Z K):VO P n (⟨d,none,.alloc t z⟩::rs) Γ H Z K:=by
 refine VO.act rfl rfl (fun ρ aO=>⟨_,rfl,?_⟩);exact zEJ
theorem iG(h:∀b,VO P n rs (ap d (.map (some b)) Γ) ([.obj b (.map #[] 0)]::H) Z K):VO P n (⟨d,none,.oF⟩::rs) Γ H Z K:=by
 refine VO.act rfl rfl (fun ρ aO=>⟨_,rfl,?_⟩);refine Jt rfl (fun b=>⟨_,_,.inl rfl,?_,h b⟩);simp
theorem st_mkslice {t:TypeId}{size bytes:Nat}{z:List Value}{l c:Operand}{kl kc:IntKind}{li ci:Int}(hl:ev Γ l=some (.int kl li))(hc:ev Γ c=some (.int kc ci))(hb:0<=li/\li<=ci/\ci<=9223372036854775807/\bytes*ci<=2 ^ 48)
 (hz:z.length=size) (h:∀b,VO P n rs (ap d (.slice (some ⟨b,0,none⟩) li.toNat ci.toNat) Γ) (kA b 0 (kw ci.toNat z)::H) Z K):VO P n (⟨d,none,.Ei t size bytes z l c⟩::rs) Γ H Z K:=by
 refine VO.act rfl rfl (fun ρ aO=>⟨_,rfl,?_⟩);rw[aO _ _ hl,aO _ _ hc];simp only[hb,hz,and_self,if_true];exact zEJ
theorem jB {t:TypeId}{len:Nat}{z:List Value}{ps:List (Nat×Nat×Operand)}{out:List Value}(hk:(ps.map (·.2.2)).all (known Γ)=true)(ho:jX (kw len z) (jW (AU Γ) ps)=some out)
 (h:∀b,VO P n rs (ap d (.slice (some ⟨b,0,none⟩) len len) Γ) (kA b 0 out::H) Z K):VO P n (⟨d,none,.gM t len z ps⟩::rs) Γ H Z K:=by
 refine VO.act rfl rfl (fun ρ aO=>⟨_,rfl,?_⟩);have:jW ρ ps=jW (AU Γ) ps:=by
  exact zD8
 rw[this,ho];exact zEJ
theorem kH {f:Nat}{xs:List Operand}{args:List Value}{bm R:SH}{Q:Value->SH->Prop}(hf:aw P f args bm Q)(he:nI Γ xs=some args)(hs:eo H bm R)
 (h:∀v Post,Q v Post->VO P n rs (ap d v Γ) (Post++R) Z K):VO P n (⟨d,none,.call f xs⟩::rs) Γ H Z K:=VO.call hf he hs h
variable {Q:Exit->Env->SH->Prop} {aV:List Nat}
theorem VC.Cg(h:VO P n rs Γ H (fun _ _ _=>False) fun ay H'=>Q .normal (aR aV ay) H'):VC P n (.draw [rs] aV) Γ H Q:=VC.draw (by simpa using h)
theorem VC.uO {y:IC}(h:VO P n rs Γ H (fun ch ay H'=>Q (.panic ch) ay H') fun ay H'=>VC P n y (aR aV ay) H' Q):VC P n (.seq (.lU rs aV) y) Γ H Q:=VC.seq (VC.lU h)
theorem VC.nX {y:IC}(h:VO P n rs Γ H (fun _ _ _=>False) fun ay H'=>VC P n y (aR aV ay) H' Q):VC P n (.seq (.draw [rs] aV) y) Γ H Q:=VC.seq (VC.Cg h)
theorem VC.Ev {x y z:IC}(h:VC P n (.seq x y) Γ H (bC (fun ay H'=>VC P n z ay H' Q) Q)):VC P n (.seq (.seq x y) z) Γ H Q:=VC.seq h
theorem VC.nW {id:Nat}{x z:IC}(h:VC P n x Γ H (bx id (bC (fun ay H'=>VC P n z ay H' Q) Q))):VC P n (.seq (.block id x) z) Γ H Q:=VC.seq (VC.block h)
theorem VC.rh {y:IC}(h:VC P n y Γ H Q):VC P n (.seq .skip y) Γ H Q:=VC.seq (VC.skip h)
theorem VC.rZ {c:Operand}{x y:IC}(hc:ev Γ c=some (.bool true))(h:VC P n x Γ H Q):VC P n (.cond c x y) Γ H Q:=VC.cond hc (fun _=>h) (fun e=>by cases e)
theorem VC.rY {c:Operand}{x y:IC}(hc:ev Γ c=some (.bool false))(h:VC P n y Γ H Q):VC P n (.cond c x y) Γ H Q:=VC.cond hc (fun e=>by cases e) (fun _=>h)
theorem VC.re {c:Operand}{x y z:IC}{t:Bool}(hc:ev Γ c=some (.bool t))(ht:t=true->VC P n x Γ H (bC (fun ay H'=>VC P n z ay H' Q) Q))(hf:t=false->VC P n y Γ H (bC (fun ay H'=>VC P n z ay H' Q) Q)):
 VC P n (.seq (.cond c x y) z) Γ H Q:=VC.seq (VC.cond hc ht hf)
end
theorem Ur:(∀cs:List Value,jX cs []=some cs)/\
 (∀(cs:List Value) (o s:Nat) (v:Value) (r:List (Nat×Nat×Value)),jX cs ((o,s,v)::r)=if v.cells.size=s/\o+s<=cs.length then jX (cs.take o++v.cells.toList++cs.drop (o+s)) r else none)/\
 (∀ρ:Operand->Value,jW ρ []=[])/\(∀(ρ:Operand->Value) (o s:Nat) (x:Operand) (r:List (Nat×Nat×Operand)),jW ρ ((o,s,x)::r)=(o,s,ρ x)::jW ρ r)/\
 (∀(Γ:Env) (x:Operand),AU Γ x=(ev Γ x).getD undef)/\(∀(Γ:Env) (t:Nat),ev Γ (.tmp t)=look Γ t)/\(∀(Γ:Env) (v:Value),ev Γ (.const v)=some v)/\
 (∀(Γ:Env) (g:Nat),ev Γ (.global g)=some (.pointer (some ⟨g,0,none⟩)))/\(∀(Γ:Env) (f:Nat),ev Γ (.func f)=some (.func (.func f) #[] #[]))/\
 (∀(s t:Nat) (v:Value) (r:Env),look ((s,v)::r) t=if s=t then some v else look r t)/\(∀(d:Nat) (v:Value) (Γ:Env),ap (some d) v Γ=(d,v)::Γ)/\(∀(v:Value) (Γ:Env),ap none v Γ=Γ)/\
 (∀v d:Value,(some v).getD d=v)/\(∀l:List Value,l.toArray.size=l.length)/\(∀l:List Value,l.toArray.toList=l)/\(∀(a:Value) (l:List Value),(a::l).length=l.length+1)/\(([]:List Value).length=0)/\
 (∀(a:Value) (l:List Value) (n:Nat),(a::l).take (n+1)=a::l.take n)/\(∀l:List Value,l.take 0=[])/\(∀(a:Value) (l:List Value) (n:Nat),(a::l).drop (n+1)=l.drop n)/\(∀l:List Value,l.drop 0=l)/\
 (∀(a:Value) (l m:List Value),a::l++m=a::(l++m))/\(∀l:List Value,[]++l=l)/\(∀l:List Value,l++[]=l):=
 ⟨fun _=>rfl,fun _ _ _ _ _=>rfl,fun _=>rfl,fun _ _ _ _ _=>rfl,fun _ _=>rfl,fun _ _=>rfl,fun _ _=>rfl,fun _ _=>rfl,fun _ _=>rfl,fun _ _ _ _=>rfl,fun _ _ _=>rfl,fun _ _=>rfl,fun _ _=>rfl,fun _=>List.size_toArray,fun _=>rfl,
   fun _ _=>rfl,rfl,fun _ _ _=>rfl,fun _=>rfl,fun _ _ _=>rfl,fun _=>rfl,fun _ _ _=>rfl,fun _=>rfl,fun _=>vm _⟩
def kz {κ β:Type}[DecidableEq κ](k:κ):List (κ×β)->Option β
 |[]=>none
 |(a,v)::r=>if a=k then some v else kz k r
def jk {κ β:Type}[DecidableEq κ](k:κ)(v:β):List (κ×β)->List (κ×β)
 |[]=>[(k,v)]
 |(a,u)::r=>if a=k then(a,v)::r else(a,u)::jk k v r
def GO {κ β:Type}[DecidableEq κ](k:κ):List (κ×β)->List (κ×β)
 |[]=>[]
 |(a,u)::r=>if a=k then r else(a,u)::GO k r
structure Le (κ:Type)[DecidableEq κ] where
 sk:SK
 enc:κ->Value
 same:∀a b,KZ sk (enc a) (enc b)=some (decide (a=b))
def yK:Le ByteArray:=⟨.str,.string,fun _ _=>rfl⟩
def ng(ok:Bool)(zero:Value):Option Value->Value
 |some v=>if ok then .tuple #[v,.bool true]else v
 |none=>if ok then .tuple #[zero,.bool false]else zero
section
variable {κ β:Type} [DecidableEq κ] {E:Le κ} {V:β->Value}
def lO(E:Le κ)(V:β->Value)(es:List MapEntry)(m:List (κ×β)):Prop:=es.map (fun e=>(e.key,e.val))=m.map fun p=>(E.enc p.1,V p.2)
structure zu (E:Le κ)(V:β->Value)(es:Array MapEntry)(c:Nat)(m:List (κ×β)):Prop where
 of:lO E V es.toList m
 born:es.toList.Pairwise fun a b=>a.born < b.born
 clock:∀e∈es.toList,e.born < c
theorem zu.nil:zu E V #[] 0 []:=⟨rfl,.nil,Zs⟩
theorem Dx {k:κ}:∀{es:List MapEntry} {m:List (κ×β)} {i:Nat},lO E V es m->
 ∃r,mC E.sk (E.enc k) es i=some r/\r.map (·.2)=(kz k m).map V/\∀j v,r=some (j,v)->i<=j/\j - i < es.length/\∃e,es[j - i]? =some e/\e.key=E.enc k/\
  (∀e' u,e'.val=V u->(lO E V (es.set (j - i) e') (jk k u m)↔e'.key=E.enc k))/\lO E V (es.eraseIdx (j - i)) (GO k m):=by
 intro es
 induction es with
 |nil=>
  intro m i h;cases m with
  |nil=>exact⟨none,rfl,rfl,fun _ _ h=>by cases h⟩
  |cons p m=>simp[lO]at h
 |cons e es ih=>
  intro m i h;cases m with
  |nil=>simp[lO]at h
  |cons p m=>
   obtain⟨a,u⟩:=p;simp only[lO,QC,vq,X5]at h;obtain⟨⟨h1,h2⟩,h3⟩:=h;simp only[mC,h1,E.same,h2];by_cases ek:k=a
   ·subst ek;refine⟨some (i,V u),Zs,by simp[kz],fun j v hj=>?_⟩;cases hj;refine⟨Qn _,Zs,e,Zs,h1,fun e' u' he'=>?_,?_⟩
    ·simp only[Qt,List.set_cons_zero,jk,if_true,lO,QC,vq,X5,he',and_true];exact⟨fun h=>h.1,fun h=>⟨h,h3⟩⟩
    ·simpa[GO,lO]using h3
   ·obtain⟨r,f1,f2,f3⟩:=ih (m:=m) (i:=i+1) h3;have ea:¬a=k:=fun e=>ek e.symm
    refine⟨r,by simp[ek,f1],by simp[kz,ea,f2],fun j v hj=>?_⟩;obtain⟨g1,g2,x,g3,g4,g5,g6⟩:=f3 j v hj;have ND:j - i=(j - (i+1))+1:=by omega
    refine⟨Zo,by simp;omega,x,by rw[ND];simpa using g3,g4,fun e' u' he'=>?_,?_⟩
    ·rw[ND];simp only[List.set_cons_succ,jk,ea,if_false,lO,QC,vq,h1,h2,true_and];exact g5 e' u' he'
    ·rw[ND];simp only[List.eraseIdx_cons_succ,GO,ea,if_false,lO,QC,vq,h1,h2,true_and];exact g6
theorem fD {k:κ}{v:β}:∀{m:List (κ×β)},kz k m=none->jk k v m=m++[(k,v)]:=by
 intro m
 induction m with
 |nil=>intro _;rfl
 |cons p m ih=>
  obtain⟨a,u⟩:=p;intro h;simp only[kz]at h;split at h
  ·cases h
  ·rename_i hn;simp[jk,hn,ih h]
theorem zu.modify {es:Array MapEntry}{c:Nat}{m:List (κ×β)}(h:zu E V es c m){k:κ}{j:Nat}{u key:Value}{v:β}(hf:mC E.sk (E.enc k) es.toList 0=some (some (j,u)))(hk:key=E.enc k):
 zu E V (es.modify j fun e=>{e with key,val:=V v}) c (jk k v m):=by
 subst hk;obtain⟨r,f1,f2,f3⟩:=Dx (k:=k) (i:=0) h.of;rw[hf]at f1;cases f1;obtain⟨_,g2,e,g3,g4,g5,_⟩:=f3 j u rfl;simp only[Nat.sub_zero]at g2 g3 g5;have hl:(es.modify j fun e=>{e with key:=E.enc k,val:=V v}).toList=es.toList.set j {e with key:=E.enc k,val:=V v}:=by
  apply V0;intro i;rw[vB,v9,Vw];by_cases hi:j=i
  ·subst hi;have:es[j]? =some e:=by simpa using g3
   have g2':j < es.size:=by simpa using g2
   exact zEG
  ·simp[hi]
 have Gg:(es.toList.set j {e with key:=E.enc k,val:=V v}).map (·.born)=es.toList.map (·.born):=by
  apply V0;intro i;simp only[Vu,Vw];by_cases hi:j=i
  ·subst hi;have g2':j < es.size:=by simpa using g2
   have:es[j]? =some e:=by simpa using g3
   exact zEG
  ·simp[hi]
 refine⟨?_,?_,?_⟩
 ·rw[hl];exact(g5 {e with key:=E.enc k,val:=V v} v rfl).2 rfl
 ·rw[hl];have hp:=h.born;have e1:∀l:List MapEntry,l.Pairwise (fun a b=>a.born < b.born)↔(l.map MapEntry.born).Pairwise (·< ·):=fun l=>List.pairwise_map.symm
  rw[e1]at hp|-;have p7:(es.toList.set j {e with key:=E.enc k,val:=V v}).map MapEntry.born=es.toList.map MapEntry.born:=Gg;rw[p7];exact hp
 ·rw[hl];intro x hx;have:x.born∈(es.toList.set j {e with key:=E.enc k,val:=V v}).map (·.born):=QM.2 ⟨x,hx,rfl⟩;rw[Gg]at this;obtain⟨y,hy,hyb⟩:=QM.1 this;rw[<- hyb];exact h.clock y hy
theorem zu.push {es:Array MapEntry}{c:Nat}{m:List (κ×β)}(h:zu E V es c m){k:κ}{v:β}(hn:kz k m=none):
 zu E V (es.push {key:=E.enc k,val:=V v,born:=c}) (c+1) (jk k v m):=by
 refine⟨?_,?_,?_⟩
 ·rw[fD hn];have:=h.of;simp only[lO]at this|-;simp[this]
 ·exact zDU
 ·exact zD9
variable {P:Program} {n:Nat} {rs:List RO} {Γ:Env} {H:SH} {Z:List PanicEntry->Env->SH->Prop} {K:Env->SH->Prop} {d:Option Nat}
inductive u5:SH->Nat->Obj->Prop where
 |here {b:Nat} {o:Obj} {L:SH}:u5 ([.obj b o]::L) b o
 |there {A:List kC} {L:SH} {b:Nat} {o:Obj}:u5 L b o->u5 (A::L) b o
 |among {A:List kC} {L:SH} {b:Nat} {o:Obj}:kC.obj b o∈A->u5 (A::L) b o
theorem u5.mem {b:Nat}{o:Obj}(h:u5 H b o):kC.obj b o∈H.flatten:=by
 induction h with
 |here=>simp
 |there _ ih=>simp only[Vd,QF];exact .inr ih
 |among h=>simp only[Vd,QF];exact .inl h
theorem ia {b:Nat}{o:Obj}{L F:List kC}{w:World}(hm:kC.obj b o∈L)(hs:Sat w (L++F)):(getObj b).run P w=.ok o w:=by
 obtain⟨h1,h2⟩:=hs.obj (Zw F hm);cases o <;> simp_all [Go.getObj,Sem.run,wz]
theorem zB {sk:SK}{zero:Value}{ok:Bool}{m x:Operand}{b c:Nat}{es:Array MapEntry}{k:κ}{l:List (κ×β)}(hm:ev Γ m=some (.map (some b)))(hx:ev Γ x=some (E.enc k))(he:sk=E.sk)
 (ho:u5 H b (.map es c)) (hl:zu E V es c l) (h:VO P n rs (ap d (ng ok zero ((kz k l).map V)) Γ) H Z K):VO P n (⟨d,none,.lookup sk zero ok m x⟩::rs) Γ H Z K:=by
 subst he;refine VO.read rfl rfl (fun ρ aO=>⟨_,rfl,fun F w hs=>?_⟩) h;obtain⟨r,f1,f2,_⟩:=Dx (k:=k) (i:=0) hl.of;have hg:=ia (P:=P) ho.mem hs;rw[aO _ _ hm,aO _ _ hx];simp only[wS,Sem.run_bind,hg,Result.andThen_ok,Sem.run_pure,f1];rw[<- f2];cases r with
 |none=>rfl
 |some p=>rfl
theorem zA {sk:SK}{m x y:Operand}{b c:Nat}{es:Array MapEntry}{k:κ}{v:β}{l:List (κ×β)}{R:SH}(hm:ev Γ m=some (.map (some b)))(hx:ev Γ x=some (E.enc k))(hy:ev Γ y=some (V v))(he:sk=E.sk)
 (ht:Tk H [.obj b (.map es c)] R) (hl:zu E V es c l) (h:∀cB c',zu E V cB c' (jk k v l)->VO P n rs (ap d undef Γ) ([.obj b (.map cB c')]::R) Z K):VO P n (⟨d,none,.yk sk m x y⟩::rs) Γ H Z K:=by
 subst he;refine VO.act rfl rfl (fun ρ aO=>⟨_,rfl,?_⟩);rw[aO _ _ hm,aO _ _ hx,aO _ _ hy];refine aK.perm ht.perm ?_;refine HF (m:=b) (c:=c) (es:=es) Zs ?_;obtain⟨r,f1,f2,f3⟩:=Dx (k:=k) (i:=0) hl.of;simp only[f1];cases r with
 |none=>
  refine aK.bind (aK.setObj rfl (aK.pure ⟨undef,_,.inr ⟨rfl,rfl⟩,?_,h _ _ (hl.push (by simpa using f2.symm))⟩));simp
 |some p=>
  obtain⟨j,u⟩:=p;obtain⟨_,g2,e,g3,g4,_⟩:=f3 j u rfl;simp only[Nat.sub_zero]at g3;have hkey:((es[j]?).map (·.key)).getD (E.enc k)=E.enc k:=by
   have:es[j]? =some e:=by simpa using g3
   simp[this,g4]
  refine aK.bind (K4 _ _ (fun kk ir=>?_));have hkk':kk=E.enc k:=by rcases ir with h|h;rw[h,hkey];exact h
  refine aK.bind (aK.setObj rfl (aK.pure ⟨undef,_,.inr ⟨rfl,rfl⟩,?_,h _ _ (hl.modify f1 hkk')⟩));simp
end
inductive jA (size:Nat):Value->Nat->List Value->List Value->Prop where
 |mk {b o n c:Nat} {xs sp:List Value}:xs.length=n*size->xs.length+sp.length=c*size->n<=c->jA size (.slice (some ⟨b,o,none⟩) n c) n xs sp
 |nil:jA size Nz 0 [] []
def aj:Value->List Value->List Value->List kC
 |.slice (some ⟨b,o,none⟩) _ _,xs,sp=>kA b o (xs++sp)
 |_,_,_=>[]
theorem jA.len {size n:Nat}{v:Value}{xs sp:List Value}(h:jA size v n xs sp):xs.length=n*size:=by
 cases h with
 |mk h1 _ _=>exact h1
 |nil=>simp
theorem jA.some {size n:Nat}{v:Value}{xs sp:List Value}(h:jA size v n xs sp)(hn:0 < n):∃b o c,v=.slice (some ⟨b,o,none⟩) n c/\n<=c/\xs.length+sp.length=c*size:=by
 cases h with
 |mk h1 h2 h3=>exact⟨_,_,_,rfl,h3,h2⟩
 |nil=>omega
theorem jA.form {size n:Nat}{v:Value}{xs sp:List Value}(h:jA size v n xs sp):∃a c,v=.slice a n c:=by
 cases h with
 |mk h1 h2 h3=>exact⟨_,_,rfl⟩
 |nil=>exact⟨_,_,rfl⟩
theorem LV(bg:Nat):∀(r c:Nat),c<=2*bg+192->Builtin.growBy bg r c<=2*bg+192:=by
 intro r
 induction r with
 |zero=>intro c h;exact h
 |succ r ih=>
  intro c h;simp only[Builtin.growBy];split
  ·exact h
  ·exact ih _ Zo
theorem Jz {bg c:Nat}(h:c < bg):Builtin.nextslicecap bg c<=2*bg+192:=by
 unfold Builtin.nextslicecap;split
 ·omega
 ·split
  ·omega
  ·exact LV bg 4 c Zo
theorem Src.mono {H H':List kC}{size n:Nat}{vs:List Value}{v:Value}(hs:∀x∈H,x∈H')(h:Src H size n vs v):Src H' size n vs v:=by
 unfold Src at*;split at h
 ·exact⟨h.1,fun x hx=>hs x (h.2 x hx)⟩
 ·exact h
 ·exact h
 ·exact h.elim
theorem AG(n:Nat)(z:List Value):(kw n z).length=n*z.length:=by simp[kw]
section
variable {P:Program} {n:Nat} {rs:List RO} {Γ:Env} {H:SH} {Z:List PanicEntry->Env->SH->Prop} {K:Env->SH->Prop} {d:Option Nat}
theorem jH {t:TypeId}{size bytes:Nat}{zero:List Value}{s x:Operand}{sv xv:Value}{k m:Nat}{xs sp ys:List Value}{R:SH}(hs:ev Γ s=some sv)(hx:ev Γ x=some xv)(bD:jA size sv k xs sp)
 (ht:Tk H (aj sv xs sp) R) (hm:ej xv=some m) (hsrc:Src R.flatten size m ys xv) (hlen:ys.length=m*size) (ed:ys.all js=true) (hz:zero.length=size) (hb:bytes≠0) (bX:(2*(k+m)+192)*bytes<=2 ^ 48)
 (h:∀eW bE,jA size eW (k+m) (xs++ys) bE->VO P n rs (ap d eW Γ) (aj eW (xs++ys) bE::R) Z K):VO P n (⟨d,none,.append t size bytes zero s x⟩::rs) Γ H Z K:=by
 refine VO.Z9 rfl rfl (fun ρ aO=>⟨_,rfl,?_⟩);rw[aO _ _ hs,aO _ _ hx];refine aK.perm ht.perm ?_;have Pr:Src (aj sv xs sp++R.flatten) size m ys xv:=hsrc.mono (fun x hx=>QG _ hx);have grow:∀(a:Option Addr) (c:Nat),sv=.slice a k c->¬(k+m<=c)->Src (aj sv xs sp++R.flatten) size k xs sv->
  aK P (if Builtin.nextslicecap (k + m) c * bytes > 2 ^ 48 ∨ bytes = 0 then stuck "size" else do
   let cap <- choose (.appendCap (k+m) c t)
   let old <- Builtin.firstCells size k sv
   let new <- Builtin.firstCells size m xv
   let b <- newObj (.cells (old++new++(kw (cap - (k+m)) zero).toArray) t)
   pure (Next.value (.slice (Option.some ⟨b,0,none⟩) (k+m) cap)):Sem Next) (aj sv xs sp++R.flatten) fun nx L=>∃v H' X,(nx=.value v∨(nx=.skip/\v=undef))/\L.Perm (List.flatten H'++X)/\VO P n rs (ap d v Γ) H' Z K:=by
  intro a c gT hle hso;have hnc:Builtin.nextslicecap (k+m) c*bytes<=2 ^ 48:=Qp (Qs _ (Jz Zo)) bX;rw[if_neg Zo];have fin:∀cap,k+m<=cap->aK P (do
   let old <- Builtin.firstCells size k sv
   let new <- Builtin.firstCells size m xv
   let b <- newObj (.cells (old++new++(kw (cap - (k+m)) zero).toArray) t)
   pure (Next.value (.slice (Option.some ⟨b,0,none⟩) (k+m) cap)):Sem Next) (aj sv xs sp++R.flatten) fun nx L=>∃v H' X,(nx=.value v∨(nx=.skip/\v=undef))/\L.Perm (List.flatten H'++X)/\VO P n rs (ap d v Γ) H' Z K:=by
   intro cap Gh;refine aK.bind (aK.firstCells hso (aK.bind (aK.firstCells Pr (Ef (fun b=>?_)))));have hI:jA size (.slice (Option.some ⟨b,0,none⟩) (k+m) cap) (k+m) (xs++ys) (kw (cap - (k+m)) zero):=by
    refine .mk ?_ ?_ Gh
    ·rw[Vy,bD.len,hlen,Nat.add_mul]
    ·rw[Vy,bD.len,hlen,AG,hz,<- Nat.add_mul,<- Nat.add_mul]
     congr 1;omega
   refine⟨_,_,aj sv xs sp,.inl rfl,?_,h _ _ hI⟩;have:(xs.toArray++ys.toArray++(kw (cap - (k+m)) zero).toArray).toList=xs++ys++kw (cap - (k+m)) zero:=by simp
   rw[this];simp only[Vd,vj];refine List.Perm.trans ?_ (vX _ QW);simp only[aj,vj];exact vZ _
  refine aK.bind (aK.choose (fun hf=>by simp[Question.forced]at hf) (fun t'=>fin _ ?_));simp only[Question.cut];omega
 cases bD with
 |@mk b o _ c _ _ h1 h2 h3=>
  simp only[hm];by_cases hle:k+m<=c
  ·rw[if_pos hle];refine aK.bind (aK.firstCells Pr ?_);have fQ:ys.length<=sp.length:=by
    have e1:(k+m)*size<=c*size:=Qs _ hle;rw[Nat.add_mul]at e1;omega
   have sD:kA b o (xs++sp)=kA b o xs++(kA b (o+k*size) (sp.take ys.length)++kA b (o+k*size+ys.length) (sp.drop ys.length)):=by
    rw[j8,h1]
    congr 1
    conv=>lhs;rw[<- Qf ys.length sp]
    rw[j8]
    congr 2
    simp;omega
   have hI:jA size (.slice (Option.some ⟨b,o,none⟩) (k+m) c) (k+m) (xs++ys) (sp.drop ys.length):=by
    refine .mk ?_ ?_ hle
    ·rw[Vy,h1,hlen,Nat.add_mul]
    ·rw[Vy,Q0];omega
   have hadd:((⟨b,o,none⟩:Addr).add (k*size))=⟨b,o+k*size,none⟩:=fW b o _;simp only[hadd];have dI:(aj (.slice (Option.some ⟨b,o,none⟩) k c) xs sp++R.flatten).Perm (kA b (o+k*size) (sp.take ys.length)++(kA b o xs++(kA b (o+k*size+ys.length) (sp.drop ys.length)++R.flatten))):=by
    simp only[aj,sD,vj];exact zc _ _ _
   refine aK.perm dI (aK.bind (aK.storeCells pJ (ve.1 ed) (aK.pure ?_)));refine⟨_,_,[],.inl rfl,?_,h _ _ hI⟩;simp only[aj,Vd,vm,j8,h1,vj];exact zc _ _ _
  ·rw[if_neg hle];refine grow _ c rfl hle ⟨h1,fun x hx=>?_⟩;simp only[aj,j8,QF];exact .inl (.inl hx)
 |nil=>
  simp only[hm];by_cases hle:0+m<=0
  ·rw[if_pos hle];have hm0:m=0:=by omega
   subst hm0;obtain rfl:ys=[]:=by simpa using hlen
   refine aK.bind (aK.firstCells Pr (aK.pure ?_));exact⟨_,_,[],.inl rfl,by simp[aj],h _ _ .nil⟩
  ·rw[if_neg hle];exact grow _ 0 rfl hle rfl
end
theorem ao.left {A B:SH}:ao (A++B) A:=⟨B,by simp[eo]⟩
theorem ao.perm {A B:SH}(h:A.flatten.Perm B.flatten):ao A B:=⟨[],by simpa[eo]using h⟩
theorem VO.imp {P:Program}{n:Nat}{rs:List RO}{Γ:Env}{H H':SH}{Z:List PanicEntry->Env->SH->Prop}{K:Env->SH->Prop}(i:ao H H')(h:VO P n rs Γ H' Z K):VO P n rs Γ H Z K:=
 fun l hl a w F ZZ Q ha hs hq hz=>h l hl a w F ZZ Q ha (hs.imp i) hq hz
theorem kG {bI:List RV}{Q:Value->SH->Prop}{e:Exit}{Γ:Env}{H Post:SH}{vs:List Value}(he:e=.normal∨e=.ret)(hr:Ns Γ H bI vs)(hq:Q (bH vs) Post)(hi:ao H Post):sf bI Q e Γ H:=⟨he,vs,Post,hr,hi,hq⟩
inductive E9:SH->Nat->Nat->Nat->List Value->Prop where
 |cells {b o k n:Nat} {vs us:List Value} {L:SH}:o<=k->k - o+n<=vs.length->(vs.drop (k - o)).take n=us->us.length=n->E9 (kA b o vs::L) b k n us
 |there {A:List kC} {L:SH} {b k n:Nat} {us:List Value}:E9 L b k n us->E9 (A::L) b k n us
theorem E9.row {H:SH}{b k n:Nat}{us:List Value}(h:E9 H b k n us):Ik H b k us/\us.length=n:=by
 induction h with
 |cells h1 _ h2 h3=>exact⟨.cells h1 (by rw[h3,h2]) h3,h3⟩
 |there _ ih=>exact⟨.there ih.1,ih.2⟩
theorem yH {P:Program}{n:Nat}{rs:List RO}{Γ:Env}{H:SH}{Z:List PanicEntry->Env->SH->Prop}{K:Env->SH->Prop}{d:Option Nat}{m:Nat}{x:Operand}{b o:Nat}{us:List Value}(hx:ev Γ x=some (.pointer (some ⟨b,o,none⟩)))(hm:E9 H b o m us)(h:VO P n rs (ap d (.agg us.toArray) Γ) H Z K):VO P n (⟨d,none,.iB m x⟩::rs) Γ H Z K:=
 S3 hx hm.row.1 hm.row.2 h
inductive Ii (Γ:Env)(d:Nat):Option Operand->Nat->Prop where
 |T3:Ii Γ d none d
 |num {x:Operand} {k:IntKind} {m:Nat}:ev Γ x=some (.int k m)->Ii Γ d (some x) m
theorem Ii.val {Γ:Env}{d y m:Nat}{o:Option Operand}{ρ:Operand->Value}(h:Ii Γ d o m)(hm:m<=y)(aO:∀x u,ev Γ x=some u->ρ x=u):wP y (some d) (o.map ρ)=some m:=by
 cases h with
 |T3=>rfl
 |num hx=>simp[wP,aO _ _ hx,bound,hm]
section
variable {P:Program} {n:Nat} {rs:List RO} {Γ:Env} {H:SH} {Z:List PanicEntry->Env->SH->Prop} {K:Env->SH->Prop} {d:Option Nat}
theorem dC {l h:Nat}{x:Operand}{lo hi:Option Operand}{s:ByteArray}(hx:ev Γ x=some (.string s))(DK:Ii Γ 0 lo l)(hhi:Ii Γ s.size hi h)(hr:l<=h/\h<=s.size)
 (hh:VO P n rs (ap d (.string (s.extract l h)) Γ) H Z K):VO P n (⟨d,none,.JS x lo hi⟩::rs) Γ H Z K:=
 VO.pure rfl (fun ρ aO=>by
  have h1:=DK.val (y:=h) hr.1 aO;have h2:=hhi.val (y:=s.size) hr.2 aO;have h3:wP s.size (some s.size) none=some s.size:=rfl;simp[kW,aO _ _ hx,zj,h1,h2,h3]) hh
end
theorem sX {P:Program}{n:Nat}{rs:List RO}{Γ:Env}{H:SH}{Z:List PanicEntry->Env->SH->Prop}{K:Env->SH->Prop}{d:Option Nat}{i:Nat}{x:Operand}{vs:Array Value}{v:Value}(hx:ev Γ x=some (.tuple vs))(hv:vs[i]? =some v)(h:VO P n rs (ap d v Γ) H Z K):VO P n (⟨d,none,.ext x i⟩::rs) Γ H Z K:=
 VO.pure rfl (fun ρ aO=>by simp[kW,aO _ _ hx,hv]) h
section
variable {P:Program} {n:Nat} {rs:List RO} {Γ:Env} {H R:SH} {Z:List PanicEntry->Env->SH->Prop} {K:Env->SH->Prop} {A B C:List kC} {c:IC} {Q:Exit->Env->SH->Prop}
end
section
variable {κ β:Type} [DecidableEq κ]
theorem yn {k:κ}{v:β}:∀{m:List (κ×β)},kz k m=some v->(k,v)∈m:=by
 intro m
 induction m with
 |nil=>intro h;simp[kz]at h
 |cons p m ih=>
  obtain⟨a,u⟩:=p;intro h;simp only[kz]at h;split at h
  ·rename_i e;cases h;subst e;simp
  ·simp[ih h]
theorem Mv {k:κ}:∀{m:List (κ×β)},kz k m=none↔k∉m.map (·.1):=by
 intro m
 induction m with
 |nil=>simp[kz]
 |cons p m ih=>
  obtain⟨a,u⟩:=p;simp only[kz,QC,QH];split
  ·rename_i e;simp[e]
  ·rename_i e;rw[ih];simp only[not_or];exact⟨fun h=>⟨fun x=>e x.symm,h⟩,fun h=>h.2⟩
theorem wK {k j:κ}{v:β}:∀{m:List (κ×β)},kz j (jk k v m)=if k=j then some v else kz j m:=by
 intro m
 induction m with
 |nil=>simp[jk,kz]
 |cons p m ih=>
  obtain⟨a,u⟩:=p;simp only[jk];split
  ·rename_i e;subst e;simp only[kz];split <;> rfl
  ·rename_i e;simp only[kz,ih];by_cases h1:a=j
   ·subst h1;simp[show ¬k=a from fun x=>e x.symm]
   ·simp[h1]
theorem Mz {k:κ}{v:β}:∀{m:List (κ×β)},(jk k v m).map (·.1)=if k∈m.map (·.1)then m.map (·.1)else m.map (·.1)++[k]:=by
 intro m
 induction m with
 |nil=>simp[jk]
 |cons p m ih=>
  obtain⟨a,u⟩:=p;simp only[jk];split
  ·rename_i e;simp[e]
  ·rename_i e;have e':¬k=a:=fun x=>e x.symm
   simp only[QC,ih,QH,e',false_or];split <;> simp
theorem pg {k:κ}{v:β}{m:List (κ×β)}(h:(m.map (·.1)).Nodup):((jk k v m).map (·.1)).Nodup:=by
 rw[Mz];split
 ·exact h
 ·rename_i hk;rw[QT];refine⟨h,Zs,?_⟩;intro a ha b hb;simp at hb
  rintro rfl
  exact hk (hb ▸ ha)
theorem Rm {k:κ}:∀{m:List (κ×β)},(GO k m).Sublist m:=by
 intro m
 induction m with
 |nil=>exact .slnil
 |cons p m ih=>
  obtain⟨a,u⟩:=p;simp only[GO];split
  ·exact Qd _ _
  ·exact ih.cons_cons _
theorem MA {k:κ}{x:β}:∀{m:List (κ×β)},(jk k x m).Perm ((k,x)::GO k m):=by
 intro m
 induction m with
 |nil=>exact .refl _
 |cons p m ih=>
  obtain⟨a,u⟩:=p;simp only[jk,GO];split
  ·rename_i e;subst e;simp
  ·exact(ih.cons _).trans (List.Perm.swap _ _ _)
theorem CR {k:κ}{x y:β}:∀{m:List (κ×β)},jk k y (jk k x m)=jk k y m:=by
 intro m
 induction m with
 |nil=>simp[jk]
 |cons p m ih=>
  obtain⟨a,u⟩:=p;simp only[jk];split
  ·rename_i e;simp[jk,e]
  ·rename_i e;simp[jk,e,ih]
theorem GY {k:κ}{v:β}{q:κ×β}:∀{m:List (κ×β)},q∈jk k v m->q=(k,v)∨q∈m:=by
 intro m hq;have:=MA.mem_iff.1 hq;rcases QH.1 this with h|h
 ·exact .inl h
 ·exact .inr (Rm.subset h)
end
theorem Lh.set1 {b o i k:Nat}{vs:List Value}{u:Value}{L:SH}(hk:o+i=k)(h:i < vs.length):Lh (kA b o vs::L) b k [u] (kA b o (vs.set i u)::L):=by
 subst hk;refine .cells Zo pJ ?_;rw[Nat.add_sub_cancel_left,List.set_eq_take_append_cons_drop,if_pos h];simp
section
variable {κ β:Type} [DecidableEq κ] {E:Le κ} {V:β->Value}
end
theorem VC.lE {P:Program}{n:Nat}{Γ:Env}{H:SH}{Q:Exit->Env->SH->Prop}{c:Operand}{x y z:IC}(hc:ev Γ c=some (.bool true))(h:VC P n x Γ H (bC (fun ay H'=>VC P n z ay H' Q) Q)):VC P n (.seq (.cond c x y) z) Γ H Q:=VC.seq (VC.rZ hc h)
theorem VC.lD {P:Program}{n:Nat}{Γ:Env}{H:SH}{Q:Exit->Env->SH->Prop}{c:Operand}{x y z:IC}(hc:ev Γ c=some (.bool false))(h:VC P n y Γ H (bC (fun ay H'=>VC P n z ay H' Q) Q)):VC P n (.seq (.cond c x y) z) Γ H Q:=VC.seq (VC.rY hc h)
abbrev vi (n:Int):Value:=.int .i64 n
abbrev kF (b:Nat):Value:=.pointer (some ⟨b,0,none⟩)
theorem ao.cut {H M Δ:SH}(h:ao H M)(k:ao M Δ):ao H Δ:=by
 obtain⟨X,hX⟩:=h;obtain⟨Y,hY⟩:=k;refine⟨Y++X,?_⟩;simp only[eo,Vc]at*;refine hX.trans ?_;rw[<- vj];exact hY.append_right _
theorem kS {P:Program}{n:Nat}{rs:List RO}{Γ:Env}{H:SH}{Z:List PanicEntry->Env->SH->Prop}{K:Env->SH->Prop}{d:Option Nat}{m:Nat}{x:Operand}{b o:Nat}{us:List Value}(hx:ev Γ x=some (.pointer (some ⟨b,o,none⟩)))(hm:∀a∈kA b o us,a∈H.flatten)(hn:us.length=m)(h:VO P n rs (ap d (.agg us.toArray) Γ) H Z K):VO P n (⟨d,none,.iB m x⟩::rs) Γ H Z K:=
 VO.read rfl rfl (fun ρ aO=>⟨_,rfl,fun F w hs=>by
  simp[aO _ _ hx,Instr.sureAddr,run_loadCells hn hm hs]⟩) h
theorem uR {P:Program}{n:Nat}{rs:List RO}{Γ:Env}{H:SH}{Z:List PanicEntry->Env->SH->Prop}{K:Env->SH->Prop}{d:Option Nat}{i:Nat}{x:Operand}{l:List Value}{v:Value}(hx:ev Γ x=some (.tuple l.toArray))(hi:l[i]? =some v)(h:VO P n rs (ap d v Γ) H Z K):VO P n (⟨d,none,.ext x i⟩::rs) Γ H Z K:=
 VO.pure rfl (fun ρ aO=>by simp[kW,aO _ _ hx,hi]) h
theorem Hx {P:Program}{n:Nat}{rs:List RO}{Γ:Env}{H:SH}{Z:List PanicEntry->Env->SH->Prop}{K:Env->SH->Prop}{d:Option Nat}{r:R}{s:Nat}{b:Bool}(hs:look Γ s=some undef)(h:VO P n rs (ap d undef Γ) H Z K):VO P n (⟨d,some (s,b),r⟩::rs) Γ H Z K:=by
 intro l hl a w F ZZ Q ha iw hq hz;obtain⟨o,l',rfl,rJ,ops,ho⟩:=zS hl;obtain⟨g1,g2,g3,g4⟩:=jI ho;have hw:jE (some (s,b)) a=false:=by simp[jE,ha.slots _ _ hs,undef]
 exact zBK
structure N2 (R:Prop):Prop where
 out:R
def Fb(P:Program)(fv:Value)(args:List Value)(w:World)(R:Ending->World->Prop):Prop:=
 match fv with
 |.func (.func f) first cap=>wE P f=true/\Calls P f (first++args.toArray++cap) w R
 |.func (.yield l) first _=>∃f tmps Iq body,(Instr.yield l (first++args.toArray)).run P w=.ok (.round l f tmps Iq body) w/\RoundIn Fence.wide 0 P l f tmps Iq body w R
 |_=>False
def dE(P:Program)(fv:Value)(args:List Value)(bm:SH)(Q:Value->SH->Prop):Prop:=
 ∀F w,Sat w (bm.flatten++F)->Fb P fv args w fun e w'=>∃v Post,e=.returned v/\Q v Post/\Sat w' (Post.flatten++F)/\kg w w'
theorem Fb.mono {P:Program}{fv:Value}{args:List Value}{w:World}{R R':Ending->World->Prop}(h:Fb P fv args w R)(hr:∀e w',R e w'->R' e w'):Fb P fv args w R':=by
 unfold Fb at*;split at h
 ·exact⟨h.1,Calls.mono h.2 hr⟩
 ·obtain⟨f,tmps,Iq,body,h1,h2⟩:=h;exact⟨f,tmps,Iq,body,h1,RoundIn.mono h2 hr⟩
 ·exact h.elim
theorem dE.conv {P:Program}{fv:Value}{args:List Value}{H bm R:SH}{Q Q':Value->SH->Prop}(h:dE P fv args bm Q)(hs:eo H bm R)(hq:∀v Post,Q v Post->∃aU,Q' v aU/\ao (Post++R) aU):dE P fv args H Q':=by
 intro F w hw;have sF:Sat w (bm.flatten++(R.flatten++F)):=by
  rw[<- vj];exact hw.perm (vY F hs)
 refine(h (R.flatten++F) w sF).mono ?_
 rintro e w' ⟨v,Post,h1,h2,h3,h4⟩
 obtain⟨aU,h5,h6⟩:=hq v Post h2;refine⟨v,aU,h1,h5,Sat.imp h6 ?_,h4⟩;rw[Vc,vj];exact h3
theorem dE.ck {P:Program}{f:Nat}{first cap:Array Value}{args:List Value}{bm:SH}{Q:Value->SH->Prop}(h:aw P f (first.toList++args++cap.toList) bm Q):dE P (.func (.func f) first cap) args bm Q:=by
 exact zD1
theorem dX {P:Program}{n:Nat}{rs:List RO}{Γ:Env}{H:SH}{Z:List PanicEntry->Env->SH->Prop}{K:Env->SH->Prop}{d:Option Nat}{x:Operand}{fv:Value}{xs:List Operand}{args:List Value}{bm R:SH}{Q:Value->SH->Prop}
 (hx:ev Γ x=some fv) (hf:dE P fv args bm Q) (he:nI Γ xs=some args) (hs:eo H bm R)
 (h:∀v Post,Q v Post->VO P n rs (ap d v Γ) (Post++R) Z K):VO P n (⟨d,none,.pT x xs⟩::rs) Γ H Z K:=by
 intro l hl a w F ZZ Q' ha iw hq hz;obtain⟨o,l',rfl,rJ,ops,ho⟩:=zS hl;obtain⟨g1,g2,g3,g4⟩:=jI ho;show wA P ZZ (_,o) (cr P ZZ Q' l') a w;unfold wA;have hp:kd (V.R.pT x xs)=false:=rfl;have hr:jG (V.R.pT x xs)=false:=rfl;simp only[jE,hp,hr,if_true,vL,if_false];refine⟨fun e=>(by cases e),?_⟩;obtain⟨c,h1,h2,h3⟩:=CO g1;have hm:xs.map a.eval=args:=ha.nI he;have cp:(c.args.map a.eval)=args.toArray:=by
  exact zEX
 have xX:Sat w (bm.flatten++(R.flatten++F)):=by
  exact zDG
 have hi:=hf (R.flatten++F) w xX;have fin:∀(e:Ending) (w':World),(∃v Post,e=.returned v/\Q v Post/\Sat w' (Post.flatten++(R.flatten++F))/\kg w w')->∃v,e=.returned v/\cr P ZZ Q' l' (a.put o.dst v) w':=by
  rintro e w' ⟨v,Post,rfl,hQ,sB,hk⟩
  refine⟨v,rfl,?_⟩;exact zBO
 have O7:a.eval x=fv:=ha.ev hx;unfold Fb at hi;split at hi
 ·rename_i f first cap
  have bB:(execOp a.eval o).run P w=.ok (.enter f (first++args.toArray++cap)) w:=by
   simp[execOp,h1,resolve,h2,O7,Deferred.ofValue,invoke,cp];rw[zb hi.1]
  simp only[AL,bB,jo];refine hi.2.mono (fun e w' he=>?_);obtain⟨v,rfl,hv⟩:=fin e w' he;exact hv
 ·rename_i l0 first cap
  obtain⟨f,tmps,Iq,body,hy,uz⟩:=hi;have bB:(execOp a.eval o).run P w=.ok (.round l0 f tmps Iq body) w:=by
   simp[execOp,h1,resolve,h2,O7,Deferred.ofValue,invoke,cp];exact hy
  simp only[AL,bB,jo];refine uz.mono (fun e w' he=>?_);obtain⟨v,rfl,hv⟩:=fin e w' he;exact hv
 ·exact hi.elim
def xm:List Nat->List Value->Env->Env
 |p::ps,v::vs,Γ=>xm ps vs ((p,v)::Γ)
 |_,_,Γ=>Γ
def OkC {α:Type}(Spec:List α->Prop)(c:List α):Prop:=∃t,Spec (c++t)
def Iter(P:Program)(g:Value){α:Type}(enc:α->List Value)(bm Post:SH)(Spec:List α->Prop):Prop:=
 ∀(y:Value) (J SP:List α->List kC->Prop),
  (∀c x A,OkC Spec (c++[x])->J c A->dE P y (enc x) [A] (fun v B=>(v=.bool true/\∃A',J (c++[x]) A'/\B=[A'])∨(v=.bool false/\∃B',SP (c++[x]) B'/\B=[B'])))->
  ∀A,J [] A->dE P g [y] (bm++[A]) (fun v B=>v=.tuple #[]/\((∃full A',Spec full/\J full A'/\B=Post++[A'])∨(∃c B',OkC Spec c/\SP c B'/\B=Post++[B'])))
section
variable {P:Program} {n:Nat} {Γ:Env} {H:SH} {Q:Exit->Env->SH->Prop}
theorem It {ps:List Nat}:∀{vs:List Value} {Γ:Env} {tmps:Array Value},(∀t∈ps,t < n)->ps.length=vs.length->w8 n Γ {tmps:=tmps,defers:=[]}->
 w8 n (xm ps vs Γ) {tmps:=(ps.zip vs).foldl (fun tmps (t,a)=>tmps.setIfInBounds t a) tmps,defers:=[]}:=by
 induction ps with
 |nil=>intro vs Γ tmps _ _ h;cases vs <;> exact h
 |cons p ps ih=>
  intro vs Γ tmps hp hl h;cases vs with
  |nil=>simp at hl
  |cons v vs=>
   simp only[xm,List.zip_cons_cons,Vg];refine ih (fun t ht=>hp t (by simp[ht])) (by simpa using hl) ?_;exact h.put (d:=p) (hp p Zs) v
def zF(fn:FuncId)(tmps:Array Value)(qs:Array Tmp)(A B:Code)(db:Nat)(st:LoopState)(pe:Option Code):Loop:={state:=st,pending:=pe,fn,tmps,params:=qs,assign:=A,body:=B,defers:=db}
theorem dW {w:World}{l:Nat}{r:Loop}(h:w.heap[l]? =some (.loop r)):(Instr.getLoop l).run P w=.ok r w:=by
 simp[Instr.getLoop,Go.getObj,Sem.run,h]
theorem JH {kp:Nat->List Nat}{od:Nat->List (List Nat)}{fn:FuncId}{tmps:Array Value}{qs:Array Tmp}{A B:Code}{db l:Nat}{Iq body:IC}{vs:List Value}{I:List kC}{Qb:Exit->SH->Prop}
 (Wq:∀t∈qs.toList,t < n) (hlen:qs.toList.length=vs.length) (ha:w8 n Γ {tmps:=tmps,defers:=[]}) (h1:zG P n kp od A=some Iq) (h2:zG P n kp od B=some body)
 (h:VC P n Iq (xm qs.toList vs Γ) [I] (fun e ay H'=>e=.normal/\VC P n body ay H' (fun e _ l9=>match e with|.normal=>Qb .normal l9|.ret=>Qb .ret l9|.exit id=>Qb (.exit id) l9|_=>False))):
 dE P (.func (.yield l) #[] #[]) vs [I++[.obj l (.loop (zF fn tmps qs A B db .ready none))]] (fun v Bk=>(v=.bool true/\∃l9,Qb .normal l9/\Bk=[l9.flatten++[.obj l (.loop (zF fn tmps qs A B db .ready none))]])∨
  (v=.bool false/\∃l9,((Qb .ret l9/\Bk=[l9.flatten++[.obj l (.loop (zF fn tmps qs A B db .done (some .ret)))]])∨(∃id,Qb (.exit id) l9/\Bk=[l9.flatten++[.obj l (.loop (zF fn tmps qs A B db .done (some (.exit id))))]])))):=by
 intro F w hs;have sC:Sat w ([I].flatten++(.obj l (.loop (zF fn tmps qs A B db .ready none))::F)):=by simpa using hs
 have hobj:=(sC.obj (b:=l) (QG _ (QJ ..))).1;refine⟨fn,(qs.zip vs.toArray).foldl (fun tmps (t,a)=>tmps.setIfInBounds t a) tmps,A,B,?_,?_⟩
 ·simp only[Instr.yield,Sem.run_bind,dW hobj,Result.andThen_ok];have:(#[]++vs.toArray:Array Value).size=qs.size:=by simpa using hlen.symm
  simp[zF,hlen.symm]
 ·have hz:(qs.zip vs.toArray).foldl (fun tmps (t,a)=>tmps.setIfInBounds t a) tmps=(qs.toList.zip vs).foldl (fun tmps (t,a)=>tmps.setIfInBounds t a) tmps:=by
   rw[<- Array.foldl_toList];simp
  rw[hz];refine roundIn_of_wpIn trivial ?_;refine h (some l) kp od A h1 _ w _ _ (fun l' e=>by cases e;exact⟨_,QJ ..⟩) (It Wq hlen ha) sC ?_
  rintro e a1 w1 ZO H1 X ⟨rfl,hb⟩ g1 _ g3 g4
  have g3':Sat w1 (.obj l (.loop (zF fn tmps qs A B db .ready none))::(H1.flatten++(F++marks X))):=by
   refine g3.perm ?_;simp only[vr];exact QZ
  have Y1:=(g3'.obj (QJ ..)).1;obtain⟨s1,s2⟩:=Sat.setObj (u:=.loop (zF fn tmps qs A B db .busy none)) g3' rfl;refine⟨{w1 with heap:=w1.heap.setIfInBounds l (.loop (zF fn tmps qs A B db .busy none))},?_,?_⟩
  ·have hg:=dW (P:=P) Y1;simp only[Instr.beginRound,Sem.run_bind,hg,Result.andThen_ok];simp[zF,Go.setObj,Sem.run,Y1]
  have s3:Sat {w1 with heap:=w1.heap.setIfInBounds l (.loop (zF fn tmps qs A B db .busy none))} (H1.flatten++(.obj l (.loop (zF fn tmps qs A B db .busy none))::(F++marks X))):=s1.perm QZ.symm;refine hb (some l) kp od B h2 a1 _ _ _ (fun l' e=>by cases e;exact⟨_,QJ ..⟩) g1 s3 ?_;intro e a2 w2 cu H2 Y q k1 _ k3 k4;have k3':Sat w2 (.obj l (.loop (zF fn tmps qs A B db .busy none))::(H2.flatten++F)):=by
   have p:(H2.flatten++(.obj l (.loop (zF fn tmps qs A B db .busy none))::(F++marks X)++marks Y)).Perm ((.obj l (.loop (zF fn tmps qs A B db .busy none))::(H2.flatten++F))++(marks X++marks Y)):=by
    simp only[vr,vj];exact QZ
   exact(k3.perm p).left
  have Y2:=(k3'.obj (QJ ..)).1;have aV:=g4.trans (s2.trans k4);have fin:∀(j:Option Code) (st:LoopState),∀(l7:st=if j.isNone then .ready else .done),(Instr.endRound l j).run P w2=.ok (.bool j.isNone) {w2 with heap:=w2.heap.setIfInBounds l (.loop (zF fn tmps qs A B db st j))}/\
   Sat {w2 with heap:=w2.heap.setIfInBounds l (.loop (zF fn tmps qs A B db st j))} ([H2.flatten++[kC.obj l (.loop (zF fn tmps qs A B db st j))]].flatten++F)/\kg w {w2 with heap:=w2.heap.setIfInBounds l (.loop (zF fn tmps qs A B db st j))}:=by
   intro j st l7;obtain⟨t1,t2⟩:=Sat.setObj (u:=.loop (zF fn tmps qs A B db st j)) k3' rfl;refine⟨?_,?_,aV.trans t2⟩
   ·subst l7;simp only[Instr.endRound,Sem.run_bind,dW Y2,Result.andThen_ok,zF,Go.setObj,Sem.run,Y2,Sem.run_pure]
   ·refine t1.perm ?_;simp only[Vd,Ve,vm,vj,List.singleton_append];exact QZ.symm
  cases e with
  |normal=>
   obtain⟨f1,f2,f3⟩:=fin none .ready rfl;exact⟨_,_,f1,_,_,rfl,.inl ⟨rfl,_,q,rfl⟩,f2,f3⟩
  |ret=>
   obtain⟨f1,f2,f3⟩:=fin (some .ret) .done rfl;exact⟨_,_,f1,_,_,rfl,.inr ⟨rfl,_,.inl ⟨q,rfl⟩⟩,f2,f3⟩
  |exit id=>
   obtain⟨f1,f2,f3⟩:=fin (some (.exit id)) .done rfl;exact⟨_,_,f1,_,_,rfl,.inr ⟨rfl,_,.inr ⟨id,q,rfl⟩⟩,f2,f3⟩
  |goto _=>exact q.elim
  |panic _=>exact q.elim
  |outgrown=>exact q.elim
theorem IE {iX:FuncId}{tmps:Array Value}{qs:Array Tmp}{A B:Code}{ρ:Option Nat}{w:World}{L F:List kC}(hr:Rnd ρ F)(iw:Sat w (L++F)):
 ∃(l db:Nat) (X:List Nat) (w1:World),(Instr.enterLoop iX tmps qs A B ρ).run P w=.ok (l,X.map oS) w1/\
  Sat w1 (.obj l (.loop (zF iX tmps qs A B db .ready none))::(L++(F++marks X)))/\kg w w1:=by
 cases ρ with
 |none=>
  obtain⟨s1,s2⟩:=iw.newObj (.deferred (some [])) rfl;obtain⟨s3,s4⟩:=s1.newObj (.loop (zF iX tmps qs A B w.heap.size .ready none)) rfl;refine⟨(w.heap.push (.deferred (some []))).size,w.heap.size,[w.heap.size],_,?_,s3.perm ?_,s2.trans s4⟩
  ·simp[Instr.enterLoop,Go.newObj,Sem.run,zF,oS];rfl
  ·refine List.Perm.cons _ ?_;simp only[marks,QC,QE];rw[<- vj];exact(List.perm_append_singleton _ _).symm
 |some l0=>
  obtain⟨r,Gq⟩:=hr l0 rfl;have ho:=(iw.obj (QG _ Gq)).1;obtain⟨s3,s4⟩:=iw.newObj (.loop (zF iX tmps qs A B r.defers .ready none)) rfl;refine⟨w.heap.size,r.defers,[],_,?_,?_,s4⟩
  ·simp[Instr.enterLoop,dW ho,Go.newObj,Sem.run,zF]
  ·simpa[marks]using s3
theorem xD {iX:FuncId}{tmps:Array Value}{qs:Array Tmp}{A B:Code}{db l:Nat}{st:LoopState}{pe:Option Code}{w:World}{L F:List kC}(l7:st≠.busy)
 (hs:Sat w (L++[.obj l (.loop (zF iX tmps qs A B db st pe))]++F)):∃w4,(Instr.endLoop l).run P w=.ok pe w4/\Sat w4 (L++F)/\kg w w4:=by
 have hs5:Sat w (.obj l (.loop (zF iX tmps qs A B db st pe))::(L++F)):=by
  refine hs.perm ?_;rw[vj];exact QZ
 have ho:=(hs5.obj (QJ ..)).1;obtain⟨t1,t2⟩:=Sat.setObj (u:=.loop (zF iX tmps qs A B db .exhausted pe)) hs5 rfl;refine⟨_,?_,t1.sub (Qd ..),t2⟩;have hgl:=dW (P:=P) ho;have hb:((zF iX tmps qs A B db st pe).state==LoopState.busy)=false:=by cases st <;> first|rfl|exact absurd rfl l7
 simp only[Instr.endLoop,Sem.run_bind,hgl,Result.andThen_ok,hb];simp[zF,Go.setObj,Sem.run,ho]
theorem VC.hK {α:Type}{enc:α->List Value}{g:Operand}{f:Nat}{first cap:Array Value}{ps:List Nat}{Iq body:IC}{bm Post R:SH}{Spec:List α->Prop}(I:List α->List kC->Prop)(A0:List kC)(hg:ev Γ g=some (.func (.func f) first cap))
 (hit:Iter P (.func (.func f) first cap) enc bm Post Spec) (hs:eo H bm R) (h0:ao R [A0]) (h1:I [] A0) (hlen:∀x,(enc x).length=ps.length)
 (round:∀c x A,OkC Spec (c++[x])->I c A->VC P n Iq (xm ps (enc x) Γ) [A] (fun e ay H'=>e=.normal/\VC P n body ay H' (fun e _ l9=>match e with|.normal=>∃A',I (c++[x]) A'/\ao l9 [A']|.ret=>Q .ret Γ (Post++l9)|.exit id=>Q (.exit id) Γ (Post++l9)|_=>False)))
 (done:∀full A,Spec full->I full A->Q .normal Γ (Post++[A])):VC P n (.hK g ps Iq body) Γ H Q:=by
 intro ρ kp od code hl a w F QQ hr ha iw hh;obtain⟨qs,A,B,rfl,rfl,aS,h1',h2⟩:=jd hl;refine wpIn_rangeFunc (fun iX _=>?_);obtain⟨l,db,X,w1,he,sC,um⟩:=IE (P:=P) (iX:=iX) (tmps:=a.tmps) (qs:=qs) (A:=A) (B:=B) hr iw;have hyield:=hit (.func (.yield l) #[] #[]) (fun c A'=>∃A1,I c A1/\A'=A1++[.obj l (.loop (zF iX a.tmps qs A B db .ready none))])
  (fun c B'=>∃l9,(Q .ret Γ (Post++l9)/\B'=l9.flatten++[.obj l (.loop (zF iX a.tmps qs A B db .done (some .ret)))])∨(∃id,Q (.exit id) Γ (Post++l9)/\B'=l9.flatten++[.obj l (.loop (zF iX a.tmps qs A B db .done (some (.exit id))))]))
  (fun c x A' hc hA=>by
    obtain⟨A1,hI,rfl⟩:=hA;have hx:=JH (P:=P) (n:=n) (Γ:=Γ) (fn:=iX) (tmps:=a.tmps) (db:=db) (l:=l) (vs:=enc x) (I:=A1) (Qb:=fun e l9=>match e with|.normal=>∃A',I (c++[x]) A'/\ao l9 [A']|.ret=>Q .ret Γ (Post++l9)|.exit id=>Q (.exit id) Γ (Post++l9)|_=>False)
     aS (hlen x).symm ⟨ha.size,ha.slots⟩ h1' h2 ((round c x A1 hc hI).mono (fun e ay H' ⟨q1,q2⟩=>⟨q1,q2.mono (fun e _ l9 q=>by cases e <;> exact q)⟩))
    refine hx.conv (R:=[]) (by simp[eo]) ?_
    rintro v Bk (⟨rfl,l9,⟨A2,hI2,q⟩,rfl⟩|⟨rfl,l9,q⟩)
    ·refine⟨_,.inl ⟨rfl,_,⟨A2,hI2,rfl⟩,rfl⟩,?_⟩;obtain⟨R',hR'⟩:=q;refine⟨R',?_⟩;simp only[eo,Vd,Ve,vm]at hR'|-;rw[vj];refine(vY _ hR').trans ?_;rw[vj];exact zDX
    ·rcases q with⟨q,rfl⟩|⟨id,q,rfl⟩
     ·exact⟨_,.inr ⟨rfl,_,⟨l9,.inl ⟨q,rfl⟩⟩,rfl⟩,by rw[vm];exact ao.refl _⟩
     ·exact⟨_,.inr ⟨rfl,_,⟨l9,.inr ⟨id,q,rfl⟩⟩,rfl⟩,by rw[vm];exact ao.refl _⟩)
  _ ⟨A0,h1,rfl⟩
 have rK:Sat w1 ((bm++[A0++[kC.obj l (.loop (zF iX a.tmps qs A B db .ready none))]]).flatten++(F++marks X)):=by
  have p1:(kC.obj l (.loop (zF iX a.tmps qs A B db .ready none))::(H.flatten++(F++marks X))).Perm (R.flatten++(bm.flatten++(kC.obj l (.loop (zF iX a.tmps qs A B db .ready none))::(F++marks X)))):=by
   refine QZ.symm.trans ?_;refine(vY _ hs).trans ?_;rw[vj];exact zc _ _ _
  have h3:=(sC.perm p1).imp h0;refine h3.perm ?_;simp only[Vc,Vd,Ve,vm,vj,List.singleton_append];exact zc _ _ _
 have aC:=hyield (F++marks X) w1 rK;obtain⟨L1,hcalls⟩:=aC;refine⟨l,X.map oS,w1,{target:=.fn (.func f) cap,args:=first++[Value.func (.yield l) #[] #[]].toArray},w1,f,first++[Value.func (.yield l) #[] #[]].toArray++cap,w1,he,?_,fun _ _=>trivial,?_,?_,?_⟩
 ·have O7:a.eval g=.func (.func f) first cap:=ha.ev hg
  simp only[resolve,O7,Deferred.ofValue];simp[Act.eval]
 ·simp only[invoke];rw[zb L1]
 ·intro h;simp at h
 refine Cd (hcalls.mono ?_)
 ·rintro e w3 ⟨v,Pst,rfl,⟨rfl,hp⟩,Me,rI⟩
  have Cr:w8 n Γ {a with defers:=X.map oS++a.defers}:=⟨ha.size,ha.slots⟩;rcases hp with⟨full,_,hf,⟨A1,hI,rfl⟩,rfl⟩|⟨c,B',_,⟨l9,hj⟩,rfl⟩
  ·obtain⟨w4,e1,e2,e3'⟩:=xD (P:=P) (L:=Post.flatten++A1) (st:=.ready) (pe:=none) Zs (by simpa[vj]using Me);have e3:=um.trans (rI.trans e3');exact⟨none,w4,e1,hh _ _ _ _ _ X (done full A1 hf hI) Cr rfl (by simpa using e2) e3⟩
  ·rcases hj with⟨q,rfl⟩|⟨id,q,rfl⟩
   ·obtain⟨w4,e1,e2,e3'⟩:=xD (P:=P) (L:=Post.flatten++l9.flatten) (st:=.done) (pe:=some .ret) Zs (by simpa[vj]using Me);have e3:=um.trans (rI.trans e3');exact⟨_,w4,e1,wpIn_ret (hh _ _ _ _ _ X q Cr rfl (by simpa using e2) e3)⟩
   ·obtain⟨w4,e1,e2,e3'⟩:=xD (P:=P) (L:=Post.flatten++l9.flatten) (st:=.done) (pe:=some (.exit id)) Zs (by simpa[vj]using Me);have e3:=um.trans (rI.trans e3');exact⟨_,w4,e1,wpIn_exit (hh _ _ _ _ _ X q Cr rfl (by simpa using e2) e3)⟩
end
end Go.V
