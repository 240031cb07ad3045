import Derived.Test.YtadeehilamokkaaGreatDoorPk24
import Derived.Test.YtadeehilamokkaaGreatDoorChecked
set_option maxHeartbeats 2000000
set_option maxRecDepth 100000
namespace Go.Co
open Go Go.Conc
open Go.ConcN (sumTo sumTo_upd sumTo_congr le_sumTo upd upd_same upd_ne)
open Classical
variable {cf cl:Nat} {tv z z2:Value} {qv:Bool}
def wk(cf cl:Nat)(tv:Value):List Value->Pc
 |[]=>.send cl tv .stop
 |v::vs=>.send cf v (wk cf cl tv vs)
def Jh(cf cl:Nat)(z2:Value)(qv:Bool):Nat->Pc
 |0=>.close cf .stop
 |k+1=>.recv cl qv z2 λx=>match x with|some _=>Jh cf cl z2 qv k|none=>.bad
noncomputable def Zi (cf:Nat)(z:Value):Nat->List Value->Pc
 |0,_=>.recv cf true z λx=>match x with|some _=>.bad|none=>.ret
 |n+1,rem=>.recv cf true z λx=>match x with|some v=>if v∈rem then Zi cf z n (rem.erase v)else .bad|none=>.bad
noncomputable def Cj (cf:Nat)(z:Value)(rem:List Value):Pc:=Zi cf z rem.length rem
def chain(cf cl:Nat)(tv z2:Value)(qv:Bool)(K:Nat)(p:Pc):List (List Value)->Pc
 |[]=>.go (Jh cf cl z2 qv K) p
 |vs::todo=>.go (wk cf cl tv vs) (chain cf cl tv z2 qv K p todo)
inductive Ro where
 |gone
 |work (vs:List Value)
def Ro.pc (cf cl:Nat)(tv:Value):Ro->Pc
 |gone=>.stop
 |work vs=>wk cf cl tv vs
def Ro.vals:Ro->List Value
 |gone=>[]
 |work vs=>vs
def Ro.one:Ro->Nat
 |gone=>0
 |work _=>1
theorem PC(N:Net)(i j:Nat)(k k':Pc):(N.meet i j k k').pr j=k':=upd_same _ _ _
theorem Wa(N:Net)(i:Nat)(ch k:Pc):(N.start i ch k).pr N.n=ch:=upd_same _ _ _
theorem QW:Ro.gone.vals=[]:=rfl
theorem Aa(vs:List Value):(Ro.work vs).vals=vs:=rfl
theorem Xa:Ro.gone.one=0:=rfl
theorem Ky(vs:List Value):(Ro.work vs).one=1:=rfl
theorem qE(vs:List Value):∃c v k,wk cf cl tv vs=.send c v k/\(c=cf\/c=cl):=by
 cases vs with
 |nil=>exact⟨_,_,_,rfl,.inr rfl⟩
 |cons v vs=>exact⟨_,_,_,rfl,.inl rfl⟩
theorem vp(k:Nat):(∃p,Jh cf cl z2 qv k=.recv cl qv z2 p)\/Jh cf cl z2 qv k=.close cf .stop:=by
 cases k with
 |zero=>exact .inr rfl
 |succ k=>exact .inl ⟨_,rfl⟩
theorem vo(rem:List Value):∃p,Cj cf z rem=.recv cf true z p:=by
 unfold Cj;cases rem.length with
 |zero=>exact⟨_,rfl⟩
 |succ k=>exact⟨_,rfl⟩
theorem LV(K:Nat)(p:Pc)(todo:List (List Value)):∃a b,chain cf cl tv z2 qv K p todo=.go a b:=by
 cases todo with
 |nil=>exact⟨_,_,rfl⟩
 |cons vs todo=>exact⟨_,_,rfl⟩
theorem DK(r:Ro):(r=.gone/\r.pc cf cl tv=.stop)\/∃vs,r=.work vs/\r.pc cf cl tv=wk cf cl tv vs:=by
 cases r with
 |gone=>exact .inl ⟨rfl,rfl⟩
 |work vs=>exact .inr ⟨vs,rfl,rfl⟩
theorem ae0{N:Net}{E:Nat->Prop}(hn:0<N.n)(h0:N.pr 0=Cj cf z [])(hst:∀j,0<j->j<N.n->N.pr j=.stop)(hc:N.cl cf=some E)(hE:∀j,0<j->j<N.n->E j):CU (λc=>c=cf\/c=cl) N:=by
 have Tf:N.pr 0=.recv cf true z λx=>match x with|some _=>.bad|none=>.ret:=h0
 have cB:∀j,j<N.n->j=0\/N.pr j=.stop:=λj hj=>(nZ j).imp id λh=>hst j h hj;refine .step N (λj hj=>?_) (by rw[Tf];simp) (λi c v k hi hp=>?_) (λj c ok z k hj hp=>?_) (.inr (.inr (.inl ⟨0,_,_,_,_,E,hn,Tf,hc⟩)))
  (λi j c v k ok z k' hi hj hp _=>?_) (λi c k hi hp=>?_) (λi c k hi hp=>?_) (λj c ok z k E' hj hp BQ=>?_) (λi ch k hi hp=>?_)
 rcases cB j hj with rfl|h;rw[Tf];simp
 rw[h];simp
 rcases cB i hi with rfl|h;rw[Tf]at hp;cases hp
 rw[h]at hp;cases hp
 rcases cB j hj with rfl|h;rw[Tf]at hp;cases hp;exact .inl rfl
 rw[h]at hp;cases hp
 rcases cB i hi with rfl|h;rw[Tf]at hp;cases hp
 rw[h]at hp;cases hp
 rcases cB i hi with rfl|h;rw[Tf]at hp;cases hp
 rw[h]at hp;cases hp
 rcases cB i hi with rfl|h;rw[Tf]at hp;cases hp
 rw[h]at hp;cases hp
 rcases cB j hj with rfl|h;rw[Tf]at hp;cases hp;rw[hc]at BQ;cases BQ;refine .done _ (show upd N.pr 0 _ 0=_ from upd_same _ _ _) λj hj nJ=>⟨?_,.inr (hE j hj nJ)⟩;show upd N.pr 0 _ j=.stop;rw[upd_ne _ _ U];exact hst j hj nJ;rw[h]at hp;cases hp
 rcases cB i hi with rfl|h;rw[Tf]at hp;cases hp
 rw[h]at hp;cases hp
structure aia (cf cl:Nat) (tv z z2:Value) (qv:Bool) (N:Net) (s:Nat->Ro) (jc k:Nat) (rem:List Value):Prop where
 jc0:0<jc
 jcn:jc<N.n
 main:N.pr 0=Cj cf z rem
 Fj:N.pr jc=Jh cf cl z2 qv k
 gone:s jc=.gone
 other:∀j,0<j->j<N.n->j≠jc->N.pr j=(s j).pc cf cl tv
 zero:s 0=.gone
 cnt:∀v,rem.count v=sumTo N.n λj=>(s j).vals.count v
 live:k=sumTo N.n λj=>(s j).one
 opn:∀c,N.cl c=none
 Mr:∀j,0<j->j<N.n->s j=.gone->j≠jc->N.D jc j
theorem rV{f:Nat->Nat}{n:Nat}(h:∀i,i<n->f i=0):sumTo n f=0:=by
 induction n with
 |zero=>rfl
 |succ n ih=>simp[sumTo,ih λi hi=>h i U,h n U]
theorem Q3{f:Nat->Nat}{n:Nat}(h:sumTo n f≠0):∃i,i<n/\f i≠0:=by by_cases hx:∃i,i<n/\f i≠0;exact hx;exact absurd (rV λi hi=>by by_cases h0:f i=0;exact h0;exact absurd ⟨i,hi,h0⟩ hx) h
theorem ae1(hne:cf≠cl):∀(M:Nat)(N:Net)(s:Nat->Ro)(jc k:Nat)(rem:List Value),rem.length+k<M->aia cf cl tv z z2 qv N s jc k rem->CU (λc=>c=cf\/c=cl) N:=by
 intro M;induction M with
 |zero=>exactλ_ _ _ _ _ h=>absurd h (Nat.not_lt_zero _)
 |succ M ih=>
  intro N s jc k rem hM I;have hn:0<N.n:=cG I.jc0 (Nat.le_of_lt I.jcn);obtain⟨pc,Qq⟩:=vo (cf:=cf) (z:=z) rem;have cB:∀j,j<N.n->j=0\/j=jc\/(0<j/\j≠jc/\((s j=.gone/\N.pr j=.stop)\/∃vs,s j=.work vs/\N.pr j=wk cf cl tv vs)):=by intro j hj;rcases nZ j with rfl|hp;exact .inl rfl;by_cases hjc:j=jc;exact .inr (.inl hjc);refine .inr (.inr ⟨hp,hjc,?_⟩);have:=I.other j hp hj hjc;rcases DK (cf:=cf) (cl:=cl) (tv:=tv) (s j)with ⟨h1,h2⟩|⟨vs,h1,h2⟩;exact .inl ⟨h1,this.trans h2⟩;exact .inr ⟨vs,h1,this.trans h2⟩
  have aez:∀i c v p,i<N.n->N.pr i=.send c v p->0<i/\i≠jc/\((∃vs,s i=.work (v::vs)/\c=cf/\p=wk cf cl tv vs)\/(s i=.work []/\c=cl/\p=.stop)):=by
   intro i c v p hi hp;rcases cB i hi with rfl|rfl|⟨h1,h2,⟨h3,h4⟩|⟨vs,h3,h4⟩⟩;rw[I.main,Qq]at hp;cases hp
   rw[I.Fj]at hp;rcases vp (cf:=cf) (cl:=cl) (z2:=z2) (qv:=qv) k with ⟨p',h⟩|h<;>rw[h]at hp<;>cases hp;rw[h4]at hp;cases hp
   refine⟨h1,h2,?_⟩;rw[h4]at hp;cases vs with
   |nil=>cases hp;exact .inr ⟨h3,rfl,rfl⟩
   |cons v' vs=>cases hp;exact .inl ⟨vs,h3,rfl,rfl⟩
  have acs:∀j c ok z' p,j<N.n->N.pr j=.recv c ok z' p->(j=0/\c=cf)\/(j=jc/\c=cl):=by
   intro j c ok z' p hj hp;rcases cB j hj with rfl|rfl|⟨h1,h2,⟨h3,h4⟩|⟨vs,h3,h4⟩⟩;rw[I.main,Qq]at hp;cases hp;exact .inl ⟨rfl,rfl⟩
   rw[I.Fj]at hp;rcases vp (cf:=cf) (cl:=cl) (z2:=z2) (qv:=qv) k with ⟨p',h⟩|h<;>rw[h]at hp<;>cases hp;exact .inr ⟨rfl,rfl⟩;rw[h4]at hp;cases hp
   rw[h4]at hp;obtain⟨_,_,_,h,_⟩:=qE (cf:=cf) (cl:=cl) (tv:=tv) vs;rw[h]at hp;cases hp
  have aeI:∀j c p,j<N.n->N.pr j=.close c p->j=jc/\c=cf/\p=.stop/\k=0:=by
   intro j c p hj hp;rcases cB j hj with rfl|rfl|⟨h1,h2,⟨h3,h4⟩|⟨vs,h3,h4⟩⟩;rw[I.main,Qq]at hp;cases hp
   rw[I.Fj]at hp;cases k with
   |zero=>cases hp;exact⟨rfl,rfl,rfl,rfl⟩
   |succ k=>cases hp
   rw[h4]at hp;cases hp
   rw[h4]at hp;obtain⟨_,_,_,h,_⟩:=qE (cf:=cf) (cl:=cl) (tv:=tv) vs;rw[h]at hp;cases hp
  have hgo:∀j a p,j<N.n->N.pr j≠.go a p:=by
   intro j a p hj hp;rcases cB j hj with rfl|rfl|⟨h1,h2,⟨h3,h4⟩|⟨vs,h3,h4⟩⟩;rw[I.main,Qq]at hp;cases hp
   rw[I.Fj]at hp;rcases vp (cf:=cf) (cl:=cl) (z2:=z2) (qv:=qv) k with ⟨p',h⟩|h<;>rw[h]at hp<;>cases hp;rw[h4]at hp;cases hp
   rw[h4]at hp;obtain⟨_,_,_,h,_⟩:=qE (cf:=cf) (cl:=cl) (tv:=tv) vs;rw[h]at hp;cases hp
  have aiJ:=I.jc0;refine .step N (λj hj=>?_) (by rw[I.main,Qq];simp) (λi c v p hi hp=>⟨I.opn c,?_⟩) (λj c ok z' p hj hp=>?_) ?_
   (λi j c v p ok z' p' hi hj hp hq=>?_) (λi c p hi hp=>⟨I.opn c,.inl (aeI i c p hi hp).2.1⟩) (λi c p hi hp=>?_) (λj c ok z' p E' hj hp BQ=>?_) (λi ch p hi hp=>absurd hp (hgo i ch p hi))
  rcases cB j hj with rfl|rfl|⟨h1,h2,⟨h3,h4⟩|⟨vs,h3,h4⟩⟩;rw[I.main,Qq];simp
  rw[I.Fj];rcases vp (cf:=cf) (cl:=cl) (z2:=z2) (qv:=qv) k with ⟨p',h⟩|h<;>rw[h]<;>simp;rw[h4];simp
  rw[h4];obtain⟨_,_,_,h,_⟩:=qE (cf:=cf) (cl:=cl) (tv:=tv) vs;rw[h];simp
  rcases(aez i c v p hi hp).2.2 with ⟨_,_,h,_⟩|⟨_,h,_⟩;exact .inl h;exact .inr h;rcases acs j c ok z' p hj hp with ⟨_,h⟩|⟨_,h⟩;exact .inl h;exact .inr h;by_cases hk:k=0;exact .inr (.inl ⟨jc,cf,.stop,I.jcn,by rw[I.Fj,hk];rfl⟩);obtain⟨i,hi,acv⟩:=Q3 (f:=λj=>(s j).one) (n:=N.n) (by rw[<-I.live];exact hk);obtain⟨k',rfl⟩:=Nat.exists_eq_succ_of_ne_zero hk;rcases cB i hi with rfl|rfl|⟨h1,h2,⟨h3,h4⟩|⟨vs,h3,h4⟩⟩;simp[I.zero,Ro.one]at acv;simp[I.gone,Ro.one]at acv;simp[h3,Ro.one]at acv;cases vs with
  |nil=>exact .inl ⟨i,jc,cl,_,_,_,_,_,hi,I.jcn,h4,I.Fj⟩
  |cons v vs=>exact .inl ⟨i,0,cf,_,_,_,_,_,hi,hn,h4,by rw[I.main];exact Qq⟩
  obtain⟨FI,acz,hs⟩:=aez i c v p hi hp;rcases hs with ⟨vs,hs,rfl,rfl⟩|⟨hs,rfl,rfl⟩;obtain rfl:j=0:=by rcases acs j _ ok z' p' hj hq with ⟨h,_⟩|⟨_,h⟩;exact h;exact absurd h hne
  have hv:v∈rem:=by have h1:=I.cnt v;have h2:=le_sumTo (f:=λj=>(s j).vals.count v) hi;simp only[hs,Aa,List.count_cons_self]at h2;exact List.count_pos_iff.1 U
  have hlen:rem.length=(rem.erase v).length+1:=by rw[Qh hv];have:=List.length_pos_of_mem hv;omega
  have sD:p' (some v)=Cj c z (rem.erase v):=by have hm:=I.main;rw[hq]at hm;unfold Cj at hm;rw[hlen]at hm;cases hm;show(if v∈rem then Zi c z (rem.erase v).length (rem.erase v)else .bad)=_;rw[if_pos hv];rfl
  rw[sD];refine ih _ (upd s i (.work vs)) jc k (rem.erase v) U ⟨I.jc0,I.jcn,PC _ _ _ _ _,?_,?_,λj hj nJ E4=>?_,?_,λv'=>?_,?_,I.opn,λj hj nJ hg E4=>?_⟩;show upd (upd N.pr i _) 0 _ jc=_;rw[upd_ne _ _ U,upd_ne _ _ (Ne.symm acz)];exact I.Fj;rw[upd_ne _ _ (Ne.symm acz)];exact I.gone
  show upd (upd N.pr i _) 0 _ j=_;rw[upd_ne _ _ U];by_cases iM:j=i;subst iM;rw[upd_same,upd_same];rfl
  rw[upd_ne _ _ iM,upd_ne _ _ iM];exact I.other j hj nJ E4;rw[upd_ne _ _ U];exact I.zero
  have h1:=I.cnt v';have h2:=sumTo_upd s (.work vs) (λr=>r.vals.count v') hi;show(rem.erase v).count v'=sumTo N.n _;simp only[hs,Aa,List.count_cons]at h2;rw[List.count_erase];split at h2<;>rename_i h3;rw[if_pos h3];omega
  rw[if_neg h3];omega
  have h2:=sumTo_upd s (.work vs) Ro.one hi;have h1:=I.live;simp only[hs,Ky]at h2;show k=sumTo N.n _;omega;by_cases iM:j=i;subst iM;rw[upd_same]at hg;cases hg
  rw[upd_ne _ _ iM]at hg;show if jc=i\/jc=0 then _ else N.D jc j;rw[if_neg U];exact I.Mr j hj nJ hg E4;obtain rfl:j=jc:=by rcases acs j _ ok z' p' hj hq with ⟨_,h⟩|⟨h,_⟩;exact absurd h.symm hne;exact h
  obtain⟨k',rfl⟩:∃k',k=k'+1:=by
   cases k with
   |zero=>rw[I.Fj]at hq;cases hq
   |succ k=>exact⟨k,rfl⟩
  have sD:p' (some v)=Jh cf c z2 qv k':=by have:=I.Fj;rw[hq]at this;cases this;rfl
  rw[sD];refine ih _ (upd s i .gone) j k' rem U ⟨I.jc0,I.jcn,?_,PC _ _ _ _ _,?_,λx hx Jb Tz=>?_,?_,λv'=>?_,?_,I.opn,λx hx Jb hg Tz=>?_⟩;show upd (upd N.pr i _) j _ 0=_;rw[upd_ne _ _ U,upd_ne _ _ U];exact I.main;rw[upd_ne _ _ (Ne.symm acz)];exact I.gone
  show upd (upd N.pr i _) j _ x=_;rw[upd_ne _ _ Tz];by_cases hxi:x=i;subst hxi;rw[upd_same,upd_same];rfl
  rw[upd_ne _ _ hxi,upd_ne _ _ hxi];exact I.other x hx Jb Tz;rw[upd_ne _ _ U];exact I.zero
  have h1:=I.cnt v';have h2:=sumTo_upd s .gone (λr=>r.vals.count v') hi;show rem.count v'=sumTo N.n _;simp only[hs,Aa,QW,List.count_nil]at h2;omega;have h2:=sumTo_upd s .gone Ro.one hi;have h1:=I.live;simp only[hs,Ky,Xa]at h2;show k'=sumTo N.n _;omega;show if j=i\/j=j then _ else _;rw[if_pos (.inr rfl)];by_cases hxi:x=i;exact .inr (.inr (.inl ⟨hxi,rfl⟩));rw[upd_ne _ _ hxi]at hg;exact .inr (.inl (I.Mr x hx Jb hg Tz));obtain⟨rfl,rfl,rfl,rfl⟩:=aeI i c p hi hp;have dQ:∀j,j<N.n->s j=.gone:=by
   intro j hj;have h1:=le_sumTo (f:=λj=>(s j).one) hj;rw[<-I.live]at h1;cases h:s j with
   |gone=>rfl
   |work vs=>simp[h,Ro.one]at h1
  have ahr:rem=[]:=by
   cases hr:rem with
   |nil=>rfl
   |cons v vs=>have h1:=I.cnt v;rw[rV λj hj=>by simp[dQ j hj,Ro.vals],hr]at h1;simp at h1
  subst ahr;refine ae0 (z:=z) (E:=λy=>N.D i y\/(y=i/\Pc.stop=Pc.stop)) hn ?_ (λj hj nJ=>?_) (upd_same _ _ _) (λj hj nJ=>?_);show upd N.pr i _ 0=_;rw[upd_ne _ _ U];exact I.main;show upd N.pr i _ j=_;by_cases iM:j=i;subst iM;rw[upd_same]
  rw[upd_ne _ _ iM,I.other j hj nJ iM,dQ j nJ];rfl
  by_cases iM:j=i;exact .inr ⟨iM,rfl⟩;exact .inl (I.Mr j hj nJ (dQ j nJ) iM);rw[I.opn c]at BQ;cases BQ
structure aib (cf cl:Nat) (tv z z2:Value) (qv:Bool) (K:Nat) (R:List Value) (N:Net) (s:Nat->Ro) (todo:List (List Value)):Prop where
 n0:0<N.n
 main:N.pr 0=chain cf cl tv z2 qv K (Cj cf z R) todo
 other:∀j,0<j->j<N.n->N.pr j=(s j).pc cf cl tv
 zero:s 0=.gone
 cnt:∀v,R.count v=todo.flatten.count v+sumTo N.n λj=>(s j).vals.count v
 live:K=todo.length+sumTo N.n λj=>(s j).one
 opn:∀c,N.cl c=none
 Mr:∀j,0<j->j<N.n->s j=.gone->N.D 0 j
theorem rW{s:Nat->Ro}{r:Ro}{n:Nat}(φ:Ro->Nat):sumTo (n+1) (λj=>φ (upd s n r j))=sumTo n (λj=>φ (s j))+φ r:=by simp only[sumTo,upd_same];rw[sumTo_congr (g:=λj=>φ (s j)) λj hj=>by rw[upd_ne _ _ U]]
theorem ae2(hne:cf≠cl){K:Nat}{R:List Value}:∀(todo:List (List Value))(N:Net)(s:Nat->Ro),aib cf cl tv z z2 qv K R N s todo->CU (λc=>c=cf\/c=cl) N:=by
 intro todo;induction todo with
 |nil=>
  intro N s I;have kV:N.pr 0=.go (Jh cf cl z2 qv K) (Cj cf z R):=I.main;have cB:∀j,j<N.n->j=0\/(0<j/\((s j=.gone/\N.pr j=.stop)\/∃vs c v k,s j=.work vs/\N.pr j=.send c v k/\(c=cf\/c=cl))):=by intro j hj;refine(nZ j).imp id λhp=>⟨hp,?_⟩;have:=I.other j hp hj;rcases DK (cf:=cf) (cl:=cl) (tv:=tv) (s j)with ⟨h1,h2⟩|⟨vs,h1,h2⟩;exact .inl ⟨h1,this.trans h2⟩;obtain⟨c,v,k,h3,h4⟩:=qE (cf:=cf) (cl:=cl) (tv:=tv) vs;exact .inr ⟨vs,c,v,k,h1,(this.trans h2).trans h3,h4⟩
  refine .step N (λj hj=>?_) (by rw[kV];simp) (λi c v p hi hp=>⟨I.opn c,?_⟩) (λj c ok z' p hj hp=>?_) (.inr (.inr (.inr ⟨0,_,_,I.n0,kV⟩)))
   (λi j c v p ok z' p' hi hj hp hq=>?_) (λi c p hi hp=>?_) (λi c p hi hp=>?_) (λj c ok z' p E' hj hp BQ=>?_) (λi ch p hi hp=>?_)
  rcases cB j hj with rfl|⟨_,⟨_,h⟩|⟨_,_,_,_,_,h,_⟩⟩;rw[kV];simp
  rw[h];simp
  rw[h];simp
  rcases cB i hi with rfl|⟨_,⟨_,h⟩|⟨_,_,_,_,_,h,h'⟩⟩;rw[kV]at hp;cases hp
  rw[h]at hp;cases hp
  rw[h]at hp;cases hp;exact h'
  rcases cB j hj with rfl|⟨_,⟨_,h⟩|⟨_,_,_,_,_,h,_⟩⟩;rw[kV]at hp;cases hp
  rw[h]at hp;cases hp
  rw[h]at hp;cases hp
  rcases cB j hj with rfl|⟨_,⟨_,h⟩|⟨_,_,_,_,_,h,_⟩⟩;rw[kV]at hq;cases hq
  rw[h]at hq;cases hq
  rw[h]at hq;cases hq
  rcases cB i hi with rfl|⟨_,⟨_,h⟩|⟨_,_,_,_,_,h,_⟩⟩;rw[kV]at hp;cases hp
  rw[h]at hp;cases hp
  rw[h]at hp;cases hp
  rcases cB i hi with rfl|⟨_,⟨_,h⟩|⟨_,_,_,_,_,h,_⟩⟩;rw[kV]at hp;cases hp
  rw[h]at hp;cases hp
  rw[h]at hp;cases hp
  rw[I.opn c]at BQ;cases BQ
  rcases cB i hi with rfl|⟨_,⟨_,h⟩|⟨_,_,_,_,_,h,_⟩⟩;rw[kV]at hp;cases hp;have hn:=I.n0;refine ae1 (tv:=tv) (z:=z) (z2:=z2) (qv:=qv) hne (R.length+K+1) _ (upd s N.n .gone) N.n K R (uS _) ⟨hn,uS _,?_,Wa _ _ _ _,upd_same _ _ _,λj hj nJ E4=>?_,?_,λv=>?_,?_,I.opn,λj hj nJ hg E4=>?_⟩;show upd (upd N.pr 0 _) N.n _ 0=_;rw[upd_ne _ _ U,upd_same];show upd (upd N.pr 0 _) N.n _ j=_;have Mv:j<N.n:=by have:j<N.n+1:=nJ;omega
  rw[upd_ne _ _ E4,upd_ne _ _ U,upd_ne _ _ E4];exact I.other j hj Mv;rw[upd_ne _ _ U];exact I.zero
  show R.count v=sumTo (N.n+1) _;rw[rW (s:=s) (r:=.gone) λr=>r.vals.count v];have:=I.cnt v;simpa [Ro.vals]using this;show K=sumTo (N.n+1) _;rw[rW (s:=s) (r:=.gone) Ro.one];have:=I.live;simpa [Ro.one]using this;show if N.n=N.n then N.D 0 j else _;rw[if_pos rfl];have Mv:j<N.n:=by have:j<N.n+1:=nJ;omega
  rw[upd_ne _ _ E4]at hg;exact I.Mr j hj Mv hg;rw[h]at hp;cases hp
  rw[h]at hp;cases hp
 |cons vs todo ih=>
  intro N s I;have kV:N.pr 0=.go (wk cf cl tv vs) (chain cf cl tv z2 qv K (Cj cf z R) todo):=I.main;have cB:∀j,j<N.n->j=0\/(0<j/\((s j=.gone/\N.pr j=.stop)\/∃vs c v k,s j=.work vs/\N.pr j=.send c v k/\(c=cf\/c=cl))):=by intro j hj;refine(nZ j).imp id λhp=>⟨hp,?_⟩;have:=I.other j hp hj;rcases DK (cf:=cf) (cl:=cl) (tv:=tv) (s j)with ⟨h1,h2⟩|⟨vs,h1,h2⟩;exact .inl ⟨h1,this.trans h2⟩;obtain⟨c,v,k,h3,h4⟩:=qE (cf:=cf) (cl:=cl) (tv:=tv) vs;exact .inr ⟨vs,c,v,k,h1,(this.trans h2).trans h3,h4⟩
  refine .step N (λj hj=>?_) (by rw[kV];simp) (λi c v p hi hp=>⟨I.opn c,?_⟩) (λj c ok z' p hj hp=>?_) (.inr (.inr (.inr ⟨0,_,_,I.n0,kV⟩)))
   (λi j c v p ok z' p' hi hj hp hq=>?_) (λi c p hi hp=>?_) (λi c p hi hp=>?_) (λj c ok z' p E' hj hp BQ=>?_) (λi ch p hi hp=>?_)
  rcases cB j hj with rfl|⟨_,⟨_,h⟩|⟨_,_,_,_,_,h,_⟩⟩;rw[kV];simp
  rw[h];simp
  rw[h];simp
  rcases cB i hi with rfl|⟨_,⟨_,h⟩|⟨_,_,_,_,_,h,h'⟩⟩;rw[kV]at hp;cases hp
  rw[h]at hp;cases hp
  rw[h]at hp;cases hp;exact h'
  rcases cB j hj with rfl|⟨_,⟨_,h⟩|⟨_,_,_,_,_,h,_⟩⟩;rw[kV]at hp;cases hp
  rw[h]at hp;cases hp
  rw[h]at hp;cases hp
  rcases cB j hj with rfl|⟨_,⟨_,h⟩|⟨_,_,_,_,_,h,_⟩⟩;rw[kV]at hq;cases hq
  rw[h]at hq;cases hq
  rw[h]at hq;cases hq
  rcases cB i hi with rfl|⟨_,⟨_,h⟩|⟨_,_,_,_,_,h,_⟩⟩;rw[kV]at hp;cases hp
  rw[h]at hp;cases hp
  rw[h]at hp;cases hp
  rcases cB i hi with rfl|⟨_,⟨_,h⟩|⟨_,_,_,_,_,h,_⟩⟩;rw[kV]at hp;cases hp
  rw[h]at hp;cases hp
  rw[h]at hp;cases hp
  rw[I.opn c]at BQ;cases BQ
  rcases cB i hi with rfl|⟨_,⟨_,h⟩|⟨_,_,_,_,_,h,_⟩⟩;rw[kV]at hp;cases hp;have hn:=I.n0;refine ih _ (upd s N.n (.work vs)) ⟨Nat.succ_pos _,?_,λj hj nJ=>?_,?_,λv=>?_,?_,I.opn,λj hj nJ hg=>?_⟩;show upd (upd N.pr 0 _) N.n _ 0=_;rw[upd_ne _ _ U,upd_same];show upd (upd N.pr 0 _) N.n _ j=_;by_cases E4:j=N.n;rw[E4,upd_same,upd_same];rfl
  have Mv:j<N.n:=by have:j<N.n+1:=nJ;omega
  rw[upd_ne _ _ E4,upd_ne _ _ U,upd_ne _ _ E4];exact I.other j hj Mv;rw[upd_ne _ _ U];exact I.zero
  show R.count v=_+sumTo (N.n+1) _;rw[rW (s:=s) (r:=.work vs) λr=>r.vals.count v];have:=I.cnt v;simp only[List.flatten_cons,List.count_append]at this;show _=_+(_+vs.count v);omega;show K=_+sumTo (N.n+1) _;rw[rW (s:=s) (r:=.work vs) Ro.one];have:=I.live;simp only[dA]at this;show _=_+(_+1);omega;by_cases E4:j=N.n;subst E4;rw[upd_same]at hg;cases hg
  have Mv:j<N.n:=by have:j<N.n+1:=nJ;omega
  rw[upd_ne _ _ E4]at hg;show if 0=N.n then _ else N.D 0 j;rw[if_neg U];exact I.Mr j hj Mv hg;rw[h]at hp;cases hp
  rw[h]at hp;cases hp
theorem Li(hne:cf≠cl)(todo:List (List Value)){n:Nat}(hn:0<n):CU (λc=>c=cf\/c=cl) (entry n (chain cf cl tv z2 qv todo.length (Cj cf z todo.flatten) todo)):=by
 refine ae2 (tv:=tv) (z:=z) (z2:=z2) (qv:=qv) hne todo _ (λ_=>.gone) ⟨hn,rfl,λj hj nJ=>?_,rfl,λv=>?_,?_,λ_=>rfl,λj hj nJ _=>⟨hj,nJ⟩⟩;have:j≠0:=U
 simp[entry,this,Ro.pc];rw[rV λj hj=>by simp[Ro.vals]];simp
 rw[rV λj hj=>by simp[Ro.one]];simp
end Go.Co
namespace Go.Co
open Go Go.Conc Go.Proofs
variable {aa:Machine->Trace->Prop} {main:Bool} {K:Gm->Goroutine->World->Prop} {p:Pc} {γ:So} {w:World}
def Of(low up:br)(s:Int)(st:Int×Int×Int)(i:Nat):Int×Int×Int:=
 if(i:Int)+s<0\/(low.length:Int)<=i+s then st
 else if st.2.2=0 then(up.getD i 0+low.getD (i+s).toNat 0,up.getD i 0+low.getD (i+s).toNat 0,1)
 else(if up.getD i 0+low.getD (i+s).toNat 0<st.1 then up.getD i 0+low.getD (i+s).toNat 0 else st.1,if st.2.1<up.getD i 0+low.getD (i+s).toNat 0 then up.getD i 0+low.getD (i+s).toNat 0 else st.2.1,st.2.2+1)
def E1(low up:br)(s:Int)(k:Nat):Int×Int×Int:=(List.range k).foldl (Of low up s) (0,0,0)
def xN(low up:br)(s:Int):Int×Int×Int:=E1 low up s up.length
theorem yD(low up:br)(s:Int)(k:Nat):E1 low up s (k+1)=Of low up s (E1 low up s k) k:=by simp[E1,IE]
def Yf(l:br):Prop:=l.length<=1000/\∀(i:Nat)(x:Int),l[i]? =some x->0<=x/\x<=9
theorem OZ(low up:br)(s:Int)(k:Nat):0<=(E1 low up s k).2.2/\(E1 low up s k).2.2<=k:=by
 induction k with
 |zero=>simp[E1]
 |succ k ih=>
  rw[yD];unfold Of;split;omega
  grind
theorem OY(low up:br)(s:Int)(h:s<=-(up.length:Int)\/(low.length:Int)<=s):∀k,k<=up.length->E1 low up s k=(0,0,0):=by
 intro k;induction k with
 |zero=>intro _;rfl
 |succ k ih=>intro hk;rw[yD,ih U];unfold Of;rw[if_pos U]
theorem wv{n:Int}(h:-9223372036854775808<=n)(h':n<=9223372036854775807):IntKind.i64.wrap n=n:=by rw[IntKind.wrap_i64];omega
def aeR(ua lb:Value)(A B:Option Addr)(ca cb:Nat)(low up:br)(s:Int)(bA bB:Nat)(st:Int×Int×Int)(k:Nat)(u:Nat->Value):Act:=
 ⟨#[.agg #[ua,.slice A low.length ca],.agg #[.slice B up.length cb,lb],.int .i64 s,.pointer (some ⟨bA,0,none⟩),.pointer (some ⟨bB,0,none⟩),u 5,.int .i64 st.1,.int .i64 st.2.1,.int .i64 st.2.2,u 9,u 10,u 11,u 12,u 13,u 14,u 15,u 16,u 17,u 18,u 19,u 20,u 21,u 22,u 23,u 24,u 25,u 26,.slice B up.length cb,.int .i64 up.length,.int .i64 k,u 30,u 31,u 32,u 33,u 34,u 35,u 36,u 37,u 38,u 39,u 40,u 41,u 42,u 43,u 44,u 45,u 46,u 47,u 48,u 49,u 50,u 51,u 52,u 53,u 54,u 55,u 56,u 57,u 58,u 59,u 60,u 61,u 62,u 63,u 64,u 65,u 66,u 67,u 68],[]⟩
def Tri(r:Int×Int×Int):Value:=.tuple #[.int .i64 r.1,.int .i64 r.2.1,.int .i64 r.2.2]
theorem adk(C:KC Tryz.prog main K Ck Hp)(hp:p≠.ret){ua ub la lb:Value}{low up:br}(s:Int)(hl:zu γ w la low)(hu:zu γ w ub up)(SZ:Yf low)(X3:Yf up):
  xY K Tryz.prog (p,γ) 61 #[.agg #[ua,la],.agg #[ub,lb],.int .i64 s] w λγ' v w'=>γ'.1=p/\v=Tri (xN low up s)/\Kept γ w γ'.2 w':=by
 refine DY Tryz.func61 (by rfl) rfl ?_;simp only[Tryz.ntmps61,iK,dA,j8,Nat.reduceAdd,Nat.reduceSub,Array.replicate_succ,Array.replicate_zero,List.push_toArray,List.append_toArray,gm,j9];refine aW C (b7 C ?_);refine qm C hp (ob:=?Tw) rfl (by rfl) (λw=>run_eq_of λK hK=>?r1) (λw=>?e1) ?h1
 case r1=>go_simp;exact hK
 case e1=>simp[go_sem]
 intro w1 Tq;try walk_nrm
 have CO:=(hl.rely Tq).alloc w1.heap.size (.cells #[ua,la] 111);have hu1:=(hu.rely Tq).alloc w1.heap.size (.cells #[ua,la] 111);have X8:bF _ _ ⟨w1.heap.size,1,none⟩ la:=bF.fresh (γ:=γ) (w:=w1) (cs:=#[ua,la]) (t:=111) rfl rfl;have sY:=(Kept.rely Tq).trans (Kept.alloc γ w1 w1.heap.size (.cells #[ua,la] 111));refine qm C hp (ob:=?Jj) rfl (by rfl) (λw=>run_eq_of λK hK=>?r2) (λw=>?e2) ?h2
 case r2=>go_simp;exact hK
 case e2=>simp[go_sem]
 intro w2 SM;try walk_nrm
 have uB:=(CO.rely SM).alloc w2.heap.size (.cells #[ub,lb] 111);have hu2:=(hu1.rely SM).alloc w2.heap.size (.cells #[ub,lb] 111);have Oo:=(X8.rely SM).alloc w2.heap.size (.cells #[ub,lb] 111);have uC:bF _ _ ⟨w2.heap.size,0,none⟩ ub:=bF.fresh (γ:=γ.more w1.heap.size) (w:=w2) (cs:=#[ub,lb]) (t:=111) rfl rfl;have FH:=sY.trans ((Kept.rely SM).trans (Kept.alloc _ w2 w2.heap.size (.cells #[ub,lb] 111)));iterate 3 (refine av C ?_;try walk_nrm)
 refine aT C ?_;refine aW C ?_;clear hl hu CO hu1 X8 sY SM Tq;generalize(γ.more w1.heap.size).more w2.heap.size=γ2 at*;generalize w2.alloc (.cells #[ub,lb] 111)=W at*;generalize w2.heap.size=bB at*;generalize w1.heap.size=bA at*;obtain⟨A,ca,rfl,hA⟩:=uB;obtain⟨B,cb,rfl,hB⟩:=hu2;have OB:=SZ.1;have UH:=X3.1;have hwa:IntKind.i64.wrap (0-(up.length:Int))=-(up.length:Int):=by rw[wv]<;>omega
 have hwb:IntKind.i64.wrap (-(up.length:Int))=-(up.length:Int):=by rw[wv]<;>omega
 have JG:∀(a:Act)(st:Int×Int×Int),a.defers=[]->a.tmps.getD 6 undef=.int .i64 st.1->a.tmps.getD 7 undef=.int .i64 st.2.1->a.tmps.getD 8 undef=.int .i64 st.2.2->st=xN low up s->OO Tryz.prog Tryz.f61 (λ(γ':Gm)(v:Value)(w':World)=>γ'.1=p/\v=Tri (xN low up s)/\Kept γ w γ'.2 w') (p,γ2) .ret a W:=by intro a st hd h6 h7 h8 hst;refine⟨hd,Tri st,?_,rfl,by rw[hst],FH⟩;intro w';constructor;simp at h6 h7 h8;simp[results,Tryz.results61,h6,h7,h8,Tri,go_sem];simp[results,Tryz.results61,go_sem]
 by_cases He:s<=-(up.length:Int)
 .have YG:decide (s<=-(up.length:Int))=true:=by simpa using He
  refine aW C (b7 C ?_);iterate 2 (refine av C ?_;try walk_nrm)
  refine iP C hp uC ?_;try walk_nrm
  refine av C ?_;try walk_nrm
  refine dK C (v:=?v10) rfl (by rfl) (λw=>run_eq_of λK hK=>?r10) (λw=>?e10) ?vE
  case r10=>go_simp;exact hK
  case e10=>simp[go_sem,Op.unary]
  iterate 2 (try walk_nrm;refine av C ?_)
  iterate 5 (try walk_nrm;refine cU C rfl (by rfl) ?_)
  try walk_nrm
  refine av C ?_;try walk_nrm
  refine aT C ?_;co_then;refine dz C (t:=true) rfl ?_;simp only[if_true];refine aW C (b7 C ?_);iterate 3 (refine av C ?_;try walk_nrm)
  refine aT C ?_;co_then;refine Dg C ?_;co_then;exact JG _ (0,0,0) rfl rfl rfl rfl (OY low up s U _ (ai _)).symm
 have YG:decide (s<=-(up.length:Int))=false:=by simpa using He
 by_cases hs2:(low.length:Int)<=s
 .have hd2:decide ((low.length:Int)<=s)=true:=by simpa using hs2
  refine aW C (b7 C ?_);iterate 2 (refine av C ?_;try walk_nrm)
  refine iP C hp uC ?_;try walk_nrm
  refine av C ?_;try walk_nrm
  refine dK C (v:=?v21) rfl (by rfl) (λw=>run_eq_of λK hK=>?r21) (λw=>?e21) ?h21
  case r21=>go_simp;exact hK
  case e21=>simp[go_sem,Op.unary]
  iterate 4 (try walk_nrm;refine av C ?_)
  try walk_nrm
  refine iP C hp Oo ?_;iterate 3 (try walk_nrm;refine av C ?_)
  try walk_nrm
  refine aT C ?_;co_then;refine dz C (t:=true) rfl ?_;simp only[if_true];refine aW C (b7 C ?_);iterate 3 (refine av C ?_;try walk_nrm)
  refine aT C ?_;co_then;refine Dg C ?_;co_then;exact JG _ (0,0,0) rfl rfl rfl rfl (OY low up s U _ (ai _)).symm
 have hd2:decide ((low.length:Int)<=s)=false:=by simpa using hs2
 refine aW C (b7 C ?_);iterate 2 (refine av C ?_;try walk_nrm)
 refine iP C hp uC ?_;try walk_nrm
 refine av C ?_;try walk_nrm
 refine dK C (v:=?v37) rfl (by rfl) (λw=>run_eq_of λK hK=>?r37) (λw=>?e37) ?h37
 case r37=>go_simp;exact hK
 case e37=>simp[go_sem,Op.unary]
 iterate 4 (try walk_nrm;refine av C ?_)
 try walk_nrm
 refine iP C hp Oo ?_;iterate 3 (try walk_nrm;refine av C ?_)
 try walk_nrm
 refine aT C ?_;co_then;refine dz C (t:=false) rfl ?_;simp only[aJ,if_false];refine j5 C ?_;co_then;refine aW C (aW C (b7 C ?_));refine av C ?_;try walk_nrm
 refine iP C hp uC ?_;iterate 2 (try walk_nrm;refine av C ?_)
 try walk_nrm
 refine aT C ?_;co_then;refine gr C ?_;refine oS C (λn γ' a w'=>γ'=(p,γ2)/\w'=W/\∃k,k<=up.length/\n=up.length-k/\∃u,a=aeR ua lb A B ca cb low up s bA bB (E1 low up s k) k u) (n:=up.length) ⟨rfl,rfl,0,U,U,pg rfl⟩ ?_;rintro n γ' a w' ⟨hγ,SR,k,hk,hn,u,ha⟩;subst hγ SR;have hN:=OZ low up s k;have hS:=yD low up s k;have hSk:∀r,Of low up s (E1 low up s k) k=r->E1 low up s (k+1)=r:=λr h=>hS.trans h;clear hS;have aey:k=up.length->xN low up s=E1 low up s k:=λh=>by rw[h];rfl
 generalize E1 low up s k=st at*;unfold aeR at ha;subst ha;refine aW C (b7 C ?_);by_cases hlt:k<up.length
 .have hd3:decide ((k:Int)<(up.length:Int))=true:=by simpa using hlt
  obtain⟨x,hx⟩:∃x,up[k]? =some x:=⟨_,bn hlt⟩;obtain⟨bd,hBe,hsB⟩:=hB k x hx;subst hBe;have hxb:=X3.2 k x hx;have hw3:IntKind.i64.wrap ((k:Int)+s)=(k:Int)+s:=by rw[wv]<;>omega
  have hw5:IntKind.i64.wrap ((k:Int)+1)=(k:Int)+1:=by rw[wv]<;>omega
  have hgx:up.getD k 0=x:=by simp[List.getD,hx]
  refine av C ?_;try walk_nrm
  refine aT C ?_;co_then;refine aW C (dz C (t:=true) rfl ?_);simp only[if_true];refine j5 C ?_;co_then;refine aW C (gr C (aW C (b7 C ?_)));iterate 2 (refine av C ?_;try walk_nrm)
  refine iP C hp hsB ?_;iterate 2 (try walk_nrm;refine av C ?_)
  try walk_nrm
  refine aT C ?_;co_then;refine aW C (b7 C ?_);iterate 4 (refine av C ?_;try walk_nrm)
  refine aT C ?_;co_then;refine aW C (aW C (b7 C ?_));by_cases CP:(k:Int)+s<0
  .have YF:decide ((k:Int)+s<0)=true:=by simpa using CP
   iterate 3 (refine av C ?_;try walk_nrm)
   iterate 5 (refine cU C rfl (by rfl) ?_;try walk_nrm)
   refine av C ?_;try walk_nrm
   refine aT C ?_;co_then;refine dz C (t:=true) rfl ?_;simp only[if_true];refine nR C ?_;co_then;have hst:Of low up s st k=st:=by unfold Of;rw[if_pos (.inl CP)]
   refine b7 C ?_;iterate 2 (refine av C ?_;try walk_nrm)
   refine aT C (ei ?_);refine⟨up.length-(k+1),U,rfl,rfl,k+1,U,rfl,pg ?_⟩;rw[hSk _ hst];rfl
  have YF:decide ((k:Int)+s<0)=false:=by simpa using CP
  by_cases zo:(low.length:Int)<=(k:Int)+s
  .have hd5:decide ((low.length:Int)<=(k:Int)+s)=true:=by simpa using zo
   iterate 5 (refine av C ?_;try walk_nrm)
   refine iP C hp Oo ?_;iterate 3 (try walk_nrm;refine av C ?_)
   try walk_nrm
   refine aT C ?_;co_then;refine dz C (t:=true) rfl ?_;simp only[if_true];refine nR C ?_;co_then;have hst:Of low up s st k=st:=by unfold Of;rw[if_pos (.inr zo)]
   refine b7 C ?_;iterate 2 (refine av C ?_;try walk_nrm)
   refine aT C (ei ?_);refine⟨up.length-(k+1),U,rfl,rfl,k+1,U,rfl,pg ?_⟩;rw[hSk _ hst];rfl
  have hd5:decide ((low.length:Int)<=(k:Int)+s)=false:=by simpa using zo
  iterate 5 (refine av C ?_;try walk_nrm)
  refine iP C hp Oo ?_;iterate 3 (try walk_nrm;refine av C ?_)
  try walk_nrm
  refine aT C ?_;co_then;refine dz C (t:=false) rfl ?_;simp only[aJ,if_false];refine j5 C ?_;co_then;obtain⟨y,hy⟩:∃y,low[((k:Int)+s).toNat]? =some y:=⟨_,bn U⟩;obtain⟨al,hAe,hsA⟩:=hA _ y hy;subst hAe;have hyb:=SZ.2 _ y hy;have hw4:IntKind.i64.wrap (x+y)=x+y:=by rw[wv]<;>omega
  have hw6:IntKind.i64.wrap (st.2.2+1)=st.2.2+1:=by rw[wv]<;>omega
  have hgy:low.getD ((k:Int)+s).toNat 0=y:=by simp[List.getD,hy]
  have FI:0<=(k:Int)+s:=U
  have hi1:(k:Int)+s<(low.length:Int):=U
  refine aW C (b7 C ?_);iterate 2 (refine av C ?_;try walk_nrm)
  refine iP C hp Oo ?_;iterate 2 (try walk_nrm;refine av C ?_)
  try walk_nrm
  refine iP C hp hsA ?_;iterate 2 (try walk_nrm;refine av C ?_)
  try walk_nrm
  refine aT C ?_;co_then;refine aW C (aW C (b7 C ?_));have acn:st.2.2=0->Of low up s st k=(x+y,x+y,1):=by intro h0;unfold Of;rw[if_neg U,if_pos h0,hgx,hgy]
  have acm:st.2.2≠0->Of low up s st k=(if x+y<st.1 then x+y else st.1,if st.2.1<x+y then x+y else st.2.1,st.2.2+1):=by intro h0;unfold Of;rw[if_neg U,if_neg h0,hgx,hgy]
  clear aey;obtain⟨s1,s2,s3⟩:=st;simp only at*;by_cases YH:s3=0
  .subst YH;have hst:=acn rfl;clear acn acm;iterate 2 (refine av C ?_;try walk_nrm)
   refine aT C ?_;co_then;refine dz C (t:=true) rfl ?_;simp only[if_true];refine b7 C ?_;iterate 4 (refine av C ?_;try walk_nrm)
   refine aT C ?_;co_then;refine b7 C ?_;iterate 2 (refine av C ?_;try walk_nrm)
   refine dK C (v:=?aiz) rfl (by rfl) (λw=>run_eq_of λK hK=>?r102) (λw=>?e102) ?aiR
   case r102=>go_simp;exact hK
   case e102=>simp[go_sem,sM]
   iterate 2 (try walk_nrm;refine av C ?_)
   try walk_nrm
   refine dK C (v:=?v105) rfl (by rfl) (λw=>run_eq_of λK hK=>?r105) (λw=>?e105) ?aiQ
   case r105=>go_simp;exact hK
   case e105=>simp[go_sem,sN]
   iterate 5 (try walk_nrm;refine av C ?_)
   try walk_nrm
   refine aT C ?_;co_then;refine b7 C ?_;iterate 2 (refine av C ?_;try walk_nrm)
   refine aT C (ei ?_);refine⟨up.length-(k+1),U,rfl,rfl,k+1,U,rfl,pg ?_⟩;rw[hSk _ hst];rfl
  have hd6:decide (s3=0)=false:=by simpa using YH
  have aiM:(s3==0)=false:=by simpa using YH
  have hst:=acm YH;clear acn acm;iterate 2 (refine av C ?_;try walk_nrm)
  refine aT C ?_;co_then;refine dz C (t:=false) rfl ?_;simp only[aJ,if_false];refine j5 C ?_;co_then;refine b7 C ?_;iterate 2 (refine av C ?_;try walk_nrm)
  refine dK C (v:=?v117) rfl (by rfl) (λw=>run_eq_of λK hK=>?r117) (λw=>?e117) ?aiP
  case r117=>go_simp;exact hK
  case e117=>simp[go_sem,sM]
  iterate 2 (try walk_nrm;refine av C ?_)
  try walk_nrm
  refine dK C (v:=?aiy) rfl (by rfl) (λw=>run_eq_of λK hK=>?r120) (λw=>?e120) ?aiO
  case r120=>go_simp;exact hK
  case e120=>simp[go_sem,sN]
  iterate 5 (try walk_nrm;refine av C ?_)
  try walk_nrm
  refine aT C ?_;co_then;refine b7 C ?_;iterate 2 (refine av C ?_;try walk_nrm)
  refine aT C (ei ?_);refine⟨up.length-(k+1),U,rfl,rfl,k+1,U,rfl,pg ?_⟩;rw[hSk _ hst];rfl
 have AU:k=up.length:=U
 subst AU;have hd3:decide ((up.length:Int)<(up.length:Int))=false:=ab
 refine av C ?_;try walk_nrm
 refine aT C ?_;co_then;refine aW C (dz C (t:=false) rfl ?_);simp only[aJ,if_false];refine nR C ?_;co_then;refine aW C (b7 C ?_);iterate 6 (refine av C ?_;try walk_nrm)
 refine aT C ?_;co_then;refine Dg C ?_;exact JG _ st rfl rfl rfl rfl (aey rfl).symm
end Go.Co
