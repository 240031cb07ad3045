import Derived.Test.YtadeehilamokkaaGreatDoorPk25
import Derived.Test.YtadeehilamokkaaGreatDoorChecked
set_option maxHeartbeats 2000000
set_option maxRecDepth 100000
namespace Go.Co
open Go Go.Conc
open Go.ConcN (sumTo sumTo_upd sumTo_congr le_sumTo upd upd_same upd_ne)
open Classical
variable {cf cl:Nat} {tv z z2:Value} {qT:Bool}
def wk(cf cl:Nat)(tv:Value):List Value->Pc
 |[]=>.send cl tv .stop
 |v::vs=>.send cf v (wk cf cl tv vs)
def JX(cf cl:Nat)(z2:Value)(qT:Bool):Nat->Pc
 |0=>.close cf .stop
 |k+1=>.recv cl qT z2 λx=>match x with|some _=>JX cf cl z2 qT k|none=>.bad
noncomputable def aaC (cf:Nat)(z:Value):Nat->List Value->Pc
 |0,_=>.recv cf true z λx=>match x with|some _=>.bad|none=>.ret
 |n+1,rem=>.recv cf true z λx=>match x with|some v=>if v∈rem then aaC cf z n (rem.erase v)else .bad|none=>.bad
noncomputable def CP (cf:Nat)(z:Value)(rem:List Value):Pc:=aaC cf z rem.length rem
def chain(cf cl:Nat)(tv z2:Value)(qT:Bool)(K:Nat)(p:Pc):List (List Value)->Pc
 |[]=>.go (JX cf cl z2 qT K) p
 |vs::todo=>.go (wk cf cl tv vs) (chain cf cl tv z2 qT K p todo)
inductive Ro where
 |gone
 |work (vs:List Value)
def Ro.pc (cf cl:Nat)(tv:Value):Ro->Pc
 |gone=>.stop
 |work vs=>wk cf cl tv vs
def Ro.vals:Ro->List Value
 |gone=>[]
 |work vs=>vs
def Ro.one:Ro->Nat
 |gone=>0
 |work _=>1
theorem QL(N:Net)(i j:Nat)(k k':Pc):(N.meet i j k k').pr j=k':=upd_same _ _ _
theorem XG(N:Net)(i:Nat)(ch k:Pc):(N.start i ch k).pr N.n=ch:=upd_same _ _ _
theorem Si:Ro.gone.vals=[]:=rfl
theorem AL(vs:List Value):(Ro.work vs).vals=vs:=rfl
theorem Yu:Ro.gone.one=0:=rfl
theorem Lm(vs:List Value):(Ro.work vs).one=1:=rfl
theorem rm(vs:List Value):∃c v k,wk cf cl tv vs=.send c v k/\(c=cf\/c=cl):=by
 cases vs with
 |nil=>exact⟨_,_,_,rfl,.inr rfl⟩
 |cons v vs=>exact⟨_,_,_,rfl,.inl rfl⟩
theorem vT(k:Nat):(∃p,JX cf cl z2 qT k=.recv cl qT z2 p)\/JX cf cl z2 qT k=.close cf .stop:=by
 cases k with
 |zero=>exact .inr rfl
 |succ k=>exact .inl ⟨_,rfl⟩
theorem vS(rem:List Value):∃p,CP cf z rem=.recv cf true z p:=by
 unfold CP;cases rem.length with
 |zero=>exact⟨_,rfl⟩
 |succ k=>exact⟨_,rfl⟩
theorem MK(K:Nat)(p:Pc)(todo:List (List Value)):∃a b,chain cf cl tv z2 qT K p todo=.go a b:=by
 cases todo with
 |nil=>exact⟨_,_,rfl⟩
 |cons vs todo=>exact⟨_,_,rfl⟩
theorem Ej(r:Ro):(r=.gone/\r.pc cf cl tv=.stop)\/∃vs,r=.work vs/\r.pc cf cl tv=wk cf cl tv vs:=by
 cases r with
 |gone=>exact .inl ⟨rfl,rfl⟩
 |work vs=>exact .inr ⟨vs,rfl,rfl⟩
theorem agI{N:Net}{E:Nat->Prop}(hn:0<N.n)(h0:N.pr 0=CP cf z [])(hst:∀j,0<j->j<N.n->N.pr j=.stop)(hc:N.cl cf=some E)(hE:∀j,0<j->j<N.n->E j):Dp (λc=>c=cf\/c=cl) N:=by
 have Uz:N.pr 0=.recv cf true z λx=>match x with|some _=>.bad|none=>.ret:=h0
 have cG:∀j,j<N.n->j=0\/N.pr j=.stop:=λj hj=>(nk j).imp id λh=>hst j h hj;refine .step N (λj hj=>?_) (by rw[Uz];simp) (λi c v k hi hp=>?_) (λj c ok z k hj hp=>?_) (.inr (.inr (.inl ⟨0,_,_,_,_,E,hn,Uz,hc⟩)))
  (λi j c v k ok z k' hi hj hp _=>?_) (λi c k hi hp=>?_) (λi c k hi hp=>?_) (λj c ok z k E' hj hp Cp=>?_) (λi ch k hi hp=>?_)
 rcases cG j hj with rfl|h;rw[Uz];simp
 rw[h];simp
 rcases cG i hi with rfl|h;rw[Uz]at hp;cases hp
 rw[h]at hp;cases hp
 rcases cG j hj with rfl|h;rw[Uz]at hp;cases hp;exact .inl rfl
 rw[h]at hp;cases hp
 rcases cG i hi with rfl|h;rw[Uz]at hp;cases hp
 rw[h]at hp;cases hp
 rcases cG i hi with rfl|h;rw[Uz]at hp;cases hp
 rw[h]at hp;cases hp
 rcases cG i hi with rfl|h;rw[Uz]at hp;cases hp
 rw[h]at hp;cases hp
 rcases cG j hj with rfl|h;rw[Uz]at hp;cases hp;rw[hc]at Cp;cases Cp;refine .done _ (show upd N.pr 0 _ 0=_ from upd_same _ _ _) λj hj ov=>⟨?_,.inr (hE j hj ov)⟩;show upd N.pr 0 _ j=.stop;rw[upd_ne _ _ ab];exact hst j hj ov;rw[h]at hp;cases hp
 rcases cG i hi with rfl|h;rw[Uz]at hp;cases hp
 rw[h]at hp;cases hp
structure ajV (cf cl:Nat) (tv z z2:Value) (qT:Bool) (N:Net) (s:Nat->Ro) (jc k:Nat) (rem:List Value):Prop where
 jc0:0<jc
 jcn:jc<N.n
 main:N.pr 0=CP cf z rem
 FT:N.pr jc=JX cf cl z2 qT k
 gone:s jc=.gone
 other:∀j,0<j->j<N.n->j≠jc->N.pr j=(s j).pc cf cl tv
 zero:s 0=.gone
 cnt:∀v,rem.count v=sumTo N.n λj=>(s j).vals.count v
 live:k=sumTo N.n λj=>(s j).one
 opn:∀c,N.cl c=none
 Nl:∀j,0<j->j<N.n->s j=.gone->j≠jc->N.D jc j
theorem sJ{f:Nat->Nat}{n:Nat}(h:∀i,i<n->f i=0):sumTo n f=0:=by
 induction n with
 |zero=>rfl
 |succ n ih=>simp[sumTo,ih λi hi=>h i ab,h n ab]
theorem Su{f:Nat->Nat}{n:Nat}(h:sumTo n f≠0):∃i,i<n/\f i≠0:=by by_cases hx:∃i,i<n/\f i≠0;exact hx;exact absurd (sJ λi hi=>by by_cases h0:f i=0;exact h0;exact absurd ⟨i,hi,h0⟩ hx) h
theorem agJ(hne:cf≠cl):∀(M:Nat)(N:Net)(s:Nat->Ro)(jc k:Nat)(rem:List Value),rem.length+k<M->ajV cf cl tv z z2 qT N s jc k rem->Dp (λc=>c=cf\/c=cl) N:=by
 intro M;induction M with
 |zero=>exactλ_ _ _ _ _ h=>absurd h (Nat.not_lt_zero _)
 |succ M ih=>
  intro N s jc k rem hM I;have hn:0<N.n:=cK I.jc0 (Nat.le_of_lt I.jcn);obtain⟨pc,Ry⟩:=vS (cf:=cf) (z:=z) rem;have cG:∀j,j<N.n->j=0\/j=jc\/(0<j/\j≠jc/\((s j=.gone/\N.pr j=.stop)\/∃vs,s j=.work vs/\N.pr j=wk cf cl tv vs)):=by intro j hj;rcases nk j with rfl|hp;exact .inl rfl;by_cases hjc:j=jc;exact .inr (.inl hjc);refine .inr (.inr ⟨hp,hjc,?_⟩);have:=I.other j hp hj hjc;rcases Ej (cf:=cf) (cl:=cl) (tv:=tv) (s j)with ⟨h1,h2⟩|⟨vs,h1,h2⟩;exact .inl ⟨h1,this.trans h2⟩;exact .inr ⟨vs,h1,this.trans h2⟩
  have agc:∀i c v p,i<N.n->N.pr i=.send c v p->0<i/\i≠jc/\((∃vs,s i=.work (v::vs)/\c=cf/\p=wk cf cl tv vs)\/(s i=.work []/\c=cl/\p=.stop)):=by
   intro i c v p hi hp;rcases cG i hi with rfl|rfl|⟨h1,h2,⟨h3,h4⟩|⟨vs,h3,h4⟩⟩;rw[I.main,Ry]at hp;cases hp
   rw[I.FT]at hp;rcases vT (cf:=cf) (cl:=cl) (z2:=z2) (qT:=qT) k with ⟨p',h⟩|h<;>rw[h]at hp<;>cases hp;rw[h4]at hp;cases hp
   refine⟨h1,h2,?_⟩;rw[h4]at hp;cases vs with
   |nil=>cases hp;exact .inr ⟨h3,rfl,rfl⟩
   |cons v' vs=>cases hp;exact .inl ⟨vs,h3,rfl,rfl⟩
  have adX:∀j c ok z' p,j<N.n->N.pr j=.recv c ok z' p->(j=0/\c=cf)\/(j=jc/\c=cl):=by
   intro j c ok z' p hj hp;rcases cG j hj with rfl|rfl|⟨h1,h2,⟨h3,h4⟩|⟨vs,h3,h4⟩⟩;rw[I.main,Ry]at hp;cases hp;exact .inl ⟨rfl,rfl⟩
   rw[I.FT]at hp;rcases vT (cf:=cf) (cl:=cl) (z2:=z2) (qT:=qT) k with ⟨p',h⟩|h<;>rw[h]at hp<;>cases hp;exact .inr ⟨rfl,rfl⟩;rw[h4]at hp;cases hp
   rw[h4]at hp;obtain⟨_,_,_,h,_⟩:=rm (cf:=cf) (cl:=cl) (tv:=tv) vs;rw[h]at hp;cases hp
  have agm:∀j c p,j<N.n->N.pr j=.close c p->j=jc/\c=cf/\p=.stop/\k=0:=by
   intro j c p hj hp;rcases cG j hj with rfl|rfl|⟨h1,h2,⟨h3,h4⟩|⟨vs,h3,h4⟩⟩;rw[I.main,Ry]at hp;cases hp
   rw[I.FT]at hp;cases k with
   |zero=>cases hp;exact⟨rfl,rfl,rfl,rfl⟩
   |succ k=>cases hp
   rw[h4]at hp;cases hp
   rw[h4]at hp;obtain⟨_,_,_,h,_⟩:=rm (cf:=cf) (cl:=cl) (tv:=tv) vs;rw[h]at hp;cases hp
  have hgo:∀j a p,j<N.n->N.pr j≠.go a p:=by
   intro j a p hj hp;rcases cG j hj with rfl|rfl|⟨h1,h2,⟨h3,h4⟩|⟨vs,h3,h4⟩⟩;rw[I.main,Ry]at hp;cases hp
   rw[I.FT]at hp;rcases vT (cf:=cf) (cl:=cl) (z2:=z2) (qT:=qT) k with ⟨p',h⟩|h<;>rw[h]at hp<;>cases hp;rw[h4]at hp;cases hp
   rw[h4]at hp;obtain⟨_,_,_,h,_⟩:=rm (cf:=cf) (cl:=cl) (tv:=tv) vs;rw[h]at hp;cases hp
  have akt:=I.jc0;refine .step N (λj hj=>?_) (by rw[I.main,Ry];simp) (λi c v p hi hp=>⟨I.opn c,?_⟩) (λj c ok z' p hj hp=>?_) ?_
   (λi j c v p ok z' p' hi hj hp hq=>?_) (λi c p hi hp=>⟨I.opn c,.inl (agm i c p hi hp).2.1⟩) (λi c p hi hp=>?_) (λj c ok z' p E' hj hp Cp=>?_) (λi ch p hi hp=>absurd hp (hgo i ch p hi))
  rcases cG j hj with rfl|rfl|⟨h1,h2,⟨h3,h4⟩|⟨vs,h3,h4⟩⟩;rw[I.main,Ry];simp
  rw[I.FT];rcases vT (cf:=cf) (cl:=cl) (z2:=z2) (qT:=qT) k with ⟨p',h⟩|h<;>rw[h]<;>simp;rw[h4];simp
  rw[h4];obtain⟨_,_,_,h,_⟩:=rm (cf:=cf) (cl:=cl) (tv:=tv) vs;rw[h];simp
  rcases(agc i c v p hi hp).2.2 with ⟨_,_,h,_⟩|⟨_,h,_⟩;exact .inl h;exact .inr h;rcases adX j c ok z' p hj hp with ⟨_,h⟩|⟨_,h⟩;exact .inl h;exact .inr h;by_cases hk:k=0;exact .inr (.inl ⟨jc,cf,.stop,I.jcn,by rw[I.FT,hk];rfl⟩);obtain⟨i,hi,adZ⟩:=Su (f:=λj=>(s j).one) (n:=N.n) (by rw[<-I.live];exact hk);obtain⟨k',rfl⟩:=Nat.exists_eq_succ_of_ne_zero hk;rcases cG i hi with rfl|rfl|⟨h1,h2,⟨h3,h4⟩|⟨vs,h3,h4⟩⟩;simp[I.zero,Ro.one]at adZ;simp[I.gone,Ro.one]at adZ;simp[h3,Ro.one]at adZ;cases vs with
  |nil=>exact .inl ⟨i,jc,cl,_,_,_,_,_,hi,I.jcn,h4,I.FT⟩
  |cons v vs=>exact .inl ⟨i,0,cf,_,_,_,_,_,hi,hn,h4,by rw[I.main];exact Ry⟩
  obtain⟨Gb,ad3,hs⟩:=agc i c v p hi hp;rcases hs with ⟨vs,hs,rfl,rfl⟩|⟨hs,rfl,rfl⟩;obtain rfl:j=0:=by rcases adX j _ ok z' p' hj hq with ⟨h,_⟩|⟨_,h⟩;exact h;exact absurd h hne
  have hv:v∈rem:=by have h1:=I.cnt v;have h2:=le_sumTo (f:=λj=>(s j).vals.count v) hi;simp only[hs,AL,List.count_cons_self]at h2;exact List.count_pos_iff.1 ab
  have hlen:rem.length=(rem.erase v).length+1:=by rw[Rp hv];have:=List.length_pos_of_mem hv;omega
  have sY:p' (some v)=CP c z (rem.erase v):=by have hm:=I.main;rw[hq]at hm;unfold CP at hm;rw[hlen]at hm;cases hm;show(if v∈rem then aaC c z (rem.erase v).length (rem.erase v)else .bad)=_;rw[if_pos hv];rfl
  rw[sY];refine ih _ (upd s i (.work vs)) jc k (rem.erase v) ab ⟨I.jc0,I.jcn,QL _ _ _ _ _,?_,?_,λj hj ov FE=>?_,?_,λv'=>?_,?_,I.opn,λj hj ov hg FE=>?_⟩;show upd (upd N.pr i _) 0 _ jc=_;rw[upd_ne _ _ ab,upd_ne _ _ (Ne.symm ad3)];exact I.FT;rw[upd_ne _ _ (Ne.symm ad3)];exact I.gone
  show upd (upd N.pr i _) 0 _ j=_;rw[upd_ne _ _ ab];by_cases iW:j=i;subst iW;rw[upd_same,upd_same];rfl
  rw[upd_ne _ _ iW,upd_ne _ _ iW];exact I.other j hj ov FE;rw[upd_ne _ _ ab];exact I.zero
  have h1:=I.cnt v';have h2:=sumTo_upd s (.work vs) (λr=>r.vals.count v') hi;show(rem.erase v).count v'=sumTo N.n _;simp only[hs,AL,List.count_cons]at h2;rw[List.count_erase];split at h2<;>rename_i h3;rw[if_pos h3];omega
  rw[if_neg h3];omega
  have h2:=sumTo_upd s (.work vs) Ro.one hi;have h1:=I.live;simp only[hs,Lm]at h2;show k=sumTo N.n _;omega;by_cases iW:j=i;subst iW;rw[upd_same]at hg;cases hg
  rw[upd_ne _ _ iW]at hg;show if jc=i\/jc=0 then _ else N.D jc j;rw[if_neg ab];exact I.Nl j hj ov hg FE;obtain rfl:j=jc:=by rcases adX j _ ok z' p' hj hq with ⟨_,h⟩|⟨h,_⟩;exact absurd h.symm hne;exact h
  obtain⟨k',rfl⟩:∃k',k=k'+1:=by
   cases k with
   |zero=>rw[I.FT]at hq;cases hq
   |succ k=>exact⟨k,rfl⟩
  have sY:p' (some v)=JX cf c z2 qT k':=by have:=I.FT;rw[hq]at this;cases this;rfl
  rw[sY];refine ih _ (upd s i .gone) j k' rem ab ⟨I.jc0,I.jcn,?_,QL _ _ _ _ _,?_,λx hx JP UL=>?_,?_,λv'=>?_,?_,I.opn,λx hx JP hg UL=>?_⟩;show upd (upd N.pr i _) j _ 0=_;rw[upd_ne _ _ ab,upd_ne _ _ ab];exact I.main;rw[upd_ne _ _ (Ne.symm ad3)];exact I.gone
  show upd (upd N.pr i _) j _ x=_;rw[upd_ne _ _ UL];by_cases hxi:x=i;subst hxi;rw[upd_same,upd_same];rfl
  rw[upd_ne _ _ hxi,upd_ne _ _ hxi];exact I.other x hx JP UL;rw[upd_ne _ _ ab];exact I.zero
  have h1:=I.cnt v';have h2:=sumTo_upd s .gone (λr=>r.vals.count v') hi;show rem.count v'=sumTo N.n _;simp only[hs,AL,Si,List.count_nil]at h2;omega;have h2:=sumTo_upd s .gone Ro.one hi;have h1:=I.live;simp only[hs,Lm,Yu]at h2;show k'=sumTo N.n _;omega;show if j=i\/j=j then _ else _;rw[if_pos (.inr rfl)];by_cases hxi:x=i;exact .inr (.inr (.inl ⟨hxi,rfl⟩));rw[upd_ne _ _ hxi]at hg;exact .inr (.inl (I.Nl x hx JP hg UL));obtain⟨rfl,rfl,rfl,rfl⟩:=agm i c p hi hp;have dX:∀j,j<N.n->s j=.gone:=by
   intro j hj;have h1:=le_sumTo (f:=λj=>(s j).one) hj;rw[<-I.live]at h1;cases h:s j with
   |gone=>rfl
   |work vs=>simp[h,Ro.one]at h1
  have ajd:rem=[]:=by
   cases hr:rem with
   |nil=>rfl
   |cons v vs=>have h1:=I.cnt v;rw[sJ λj hj=>by simp[dX j hj,Ro.vals],hr]at h1;simp at h1
  subst ajd;refine agI (z:=z) (E:=λy=>N.D i y\/(y=i/\Pc.stop=Pc.stop)) hn ?_ (λj hj ov=>?_) (upd_same _ _ _) (λj hj ov=>?_);show upd N.pr i _ 0=_;rw[upd_ne _ _ ab];exact I.main;show upd N.pr i _ j=_;by_cases iW:j=i;subst iW;rw[upd_same]
  rw[upd_ne _ _ iW,I.other j hj ov iW,dX j ov];rfl
  by_cases iW:j=i;exact .inr ⟨iW,rfl⟩;exact .inl (I.Nl j hj ov (dX j ov) iW);rw[I.opn c]at Cp;cases Cp
structure ajW (cf cl:Nat) (tv z z2:Value) (qT:Bool) (K:Nat) (R:List Value) (N:Net) (s:Nat->Ro) (todo:List (List Value)):Prop where
 n0:0<N.n
 main:N.pr 0=chain cf cl tv z2 qT K (CP cf z R) todo
 other:∀j,0<j->j<N.n->N.pr j=(s j).pc cf cl tv
 zero:s 0=.gone
 cnt:∀v,R.count v=todo.flatten.count v+sumTo N.n λj=>(s j).vals.count v
 live:K=todo.length+sumTo N.n λj=>(s j).one
 opn:∀c,N.cl c=none
 Nl:∀j,0<j->j<N.n->s j=.gone->N.D 0 j
theorem sK{s:Nat->Ro}{r:Ro}{n:Nat}(φ:Ro->Nat):sumTo (n+1) (λj=>φ (upd s n r j))=sumTo n (λj=>φ (s j))+φ r:=by simp only[sumTo,upd_same];rw[sumTo_congr (g:=λj=>φ (s j)) λj hj=>by rw[upd_ne _ _ ab]]
theorem agK(hne:cf≠cl){K:Nat}{R:List Value}:∀(todo:List (List Value))(N:Net)(s:Nat->Ro),ajW cf cl tv z z2 qT K R N s todo->Dp (λc=>c=cf\/c=cl) N:=by
 intro todo;induction todo with
 |nil=>
  intro N s I;have lK:N.pr 0=.go (JX cf cl z2 qT K) (CP cf z R):=I.main;have cG:∀j,j<N.n->j=0\/(0<j/\((s j=.gone/\N.pr j=.stop)\/∃vs c v k,s j=.work vs/\N.pr j=.send c v k/\(c=cf\/c=cl))):=by intro j hj;refine(nk j).imp id λhp=>⟨hp,?_⟩;have:=I.other j hp hj;rcases Ej (cf:=cf) (cl:=cl) (tv:=tv) (s j)with ⟨h1,h2⟩|⟨vs,h1,h2⟩;exact .inl ⟨h1,this.trans h2⟩;obtain⟨c,v,k,h3,h4⟩:=rm (cf:=cf) (cl:=cl) (tv:=tv) vs;exact .inr ⟨vs,c,v,k,h1,(this.trans h2).trans h3,h4⟩
  refine .step N (λj hj=>?_) (by rw[lK];simp) (λi c v p hi hp=>⟨I.opn c,?_⟩) (λj c ok z' p hj hp=>?_) (.inr (.inr (.inr ⟨0,_,_,I.n0,lK⟩)))
   (λi j c v p ok z' p' hi hj hp hq=>?_) (λi c p hi hp=>?_) (λi c p hi hp=>?_) (λj c ok z' p E' hj hp Cp=>?_) (λi ch p hi hp=>?_)
  rcases cG j hj with rfl|⟨_,⟨_,h⟩|⟨_,_,_,_,_,h,_⟩⟩;rw[lK];simp
  rw[h];simp
  rw[h];simp
  rcases cG i hi with rfl|⟨_,⟨_,h⟩|⟨_,_,_,_,_,h,h'⟩⟩;rw[lK]at hp;cases hp
  rw[h]at hp;cases hp
  rw[h]at hp;cases hp;exact h'
  rcases cG j hj with rfl|⟨_,⟨_,h⟩|⟨_,_,_,_,_,h,_⟩⟩;rw[lK]at hp;cases hp
  rw[h]at hp;cases hp
  rw[h]at hp;cases hp
  rcases cG j hj with rfl|⟨_,⟨_,h⟩|⟨_,_,_,_,_,h,_⟩⟩;rw[lK]at hq;cases hq
  rw[h]at hq;cases hq
  rw[h]at hq;cases hq
  rcases cG i hi with rfl|⟨_,⟨_,h⟩|⟨_,_,_,_,_,h,_⟩⟩;rw[lK]at hp;cases hp
  rw[h]at hp;cases hp
  rw[h]at hp;cases hp
  rcases cG i hi with rfl|⟨_,⟨_,h⟩|⟨_,_,_,_,_,h,_⟩⟩;rw[lK]at hp;cases hp
  rw[h]at hp;cases hp
  rw[h]at hp;cases hp
  rw[I.opn c]at Cp;cases Cp
  rcases cG i hi with rfl|⟨_,⟨_,h⟩|⟨_,_,_,_,_,h,_⟩⟩;rw[lK]at hp;cases hp;have hn:=I.n0;refine agJ (tv:=tv) (z:=z) (z2:=z2) (qT:=qT) hne (R.length+K+1) _ (upd s N.n .gone) N.n K R (vB _) ⟨hn,vB _,?_,XG _ _ _ _,upd_same _ _ _,λj hj ov FE=>?_,?_,λv=>?_,?_,I.opn,λj hj ov hg FE=>?_⟩;show upd (upd N.pr 0 _) N.n _ 0=_;rw[upd_ne _ _ ab,upd_same];show upd (upd N.pr 0 _) N.n _ j=_;have Ns:j<N.n:=by have:j<N.n+1:=ov;omega
  rw[upd_ne _ _ FE,upd_ne _ _ ab,upd_ne _ _ FE];exact I.other j hj Ns;rw[upd_ne _ _ ab];exact I.zero
  show R.count v=sumTo (N.n+1) _;rw[sK (s:=s) (r:=.gone) λr=>r.vals.count v];have:=I.cnt v;simpa [Ro.vals]using this;show K=sumTo (N.n+1) _;rw[sK (s:=s) (r:=.gone) Ro.one];have:=I.live;simpa [Ro.one]using this;show if N.n=N.n then N.D 0 j else _;rw[if_pos rfl];have Ns:j<N.n:=by have:j<N.n+1:=ov;omega
  rw[upd_ne _ _ FE]at hg;exact I.Nl j hj Ns hg;rw[h]at hp;cases hp
  rw[h]at hp;cases hp
 |cons vs todo ih=>
  intro N s I;have lK:N.pr 0=.go (wk cf cl tv vs) (chain cf cl tv z2 qT K (CP cf z R) todo):=I.main;have cG:∀j,j<N.n->j=0\/(0<j/\((s j=.gone/\N.pr j=.stop)\/∃vs c v k,s j=.work vs/\N.pr j=.send c v k/\(c=cf\/c=cl))):=by intro j hj;refine(nk j).imp id λhp=>⟨hp,?_⟩;have:=I.other j hp hj;rcases Ej (cf:=cf) (cl:=cl) (tv:=tv) (s j)with ⟨h1,h2⟩|⟨vs,h1,h2⟩;exact .inl ⟨h1,this.trans h2⟩;obtain⟨c,v,k,h3,h4⟩:=rm (cf:=cf) (cl:=cl) (tv:=tv) vs;exact .inr ⟨vs,c,v,k,h1,(this.trans h2).trans h3,h4⟩
  refine .step N (λj hj=>?_) (by rw[lK];simp) (λi c v p hi hp=>⟨I.opn c,?_⟩) (λj c ok z' p hj hp=>?_) (.inr (.inr (.inr ⟨0,_,_,I.n0,lK⟩)))
   (λi j c v p ok z' p' hi hj hp hq=>?_) (λi c p hi hp=>?_) (λi c p hi hp=>?_) (λj c ok z' p E' hj hp Cp=>?_) (λi ch p hi hp=>?_)
  rcases cG j hj with rfl|⟨_,⟨_,h⟩|⟨_,_,_,_,_,h,_⟩⟩;rw[lK];simp
  rw[h];simp
  rw[h];simp
  rcases cG i hi with rfl|⟨_,⟨_,h⟩|⟨_,_,_,_,_,h,h'⟩⟩;rw[lK]at hp;cases hp
  rw[h]at hp;cases hp
  rw[h]at hp;cases hp;exact h'
  rcases cG j hj with rfl|⟨_,⟨_,h⟩|⟨_,_,_,_,_,h,_⟩⟩;rw[lK]at hp;cases hp
  rw[h]at hp;cases hp
  rw[h]at hp;cases hp
  rcases cG j hj with rfl|⟨_,⟨_,h⟩|⟨_,_,_,_,_,h,_⟩⟩;rw[lK]at hq;cases hq
  rw[h]at hq;cases hq
  rw[h]at hq;cases hq
  rcases cG i hi with rfl|⟨_,⟨_,h⟩|⟨_,_,_,_,_,h,_⟩⟩;rw[lK]at hp;cases hp
  rw[h]at hp;cases hp
  rw[h]at hp;cases hp
  rcases cG i hi with rfl|⟨_,⟨_,h⟩|⟨_,_,_,_,_,h,_⟩⟩;rw[lK]at hp;cases hp
  rw[h]at hp;cases hp
  rw[h]at hp;cases hp
  rw[I.opn c]at Cp;cases Cp
  rcases cG i hi with rfl|⟨_,⟨_,h⟩|⟨_,_,_,_,_,h,_⟩⟩;rw[lK]at hp;cases hp;have hn:=I.n0;refine ih _ (upd s N.n (.work vs)) ⟨Nat.succ_pos _,?_,λj hj ov=>?_,?_,λv=>?_,?_,I.opn,λj hj ov hg=>?_⟩;show upd (upd N.pr 0 _) N.n _ 0=_;rw[upd_ne _ _ ab,upd_same];show upd (upd N.pr 0 _) N.n _ j=_;by_cases FE:j=N.n;rw[FE,upd_same,upd_same];rfl
  have Ns:j<N.n:=by have:j<N.n+1:=ov;omega
  rw[upd_ne _ _ FE,upd_ne _ _ ab,upd_ne _ _ FE];exact I.other j hj Ns;rw[upd_ne _ _ ab];exact I.zero
  show R.count v=_+sumTo (N.n+1) _;rw[sK (s:=s) (r:=.work vs) λr=>r.vals.count v];have:=I.cnt v;simp only[List.flatten_cons,List.count_append]at this;show _=_+(_+vs.count v);omega;show K=_+sumTo (N.n+1) _;rw[sK (s:=s) (r:=.work vs) Ro.one];have:=I.live;simp only[cT]at this;show _=_+(_+1);omega;by_cases FE:j=N.n;subst FE;rw[upd_same]at hg;cases hg
  have Ns:j<N.n:=by have:j<N.n+1:=ov;omega
  rw[upd_ne _ _ FE]at hg;show if 0=N.n then _ else N.D 0 j;rw[if_neg ab];exact I.Nl j hj Ns hg;rw[h]at hp;cases hp
  rw[h]at hp;cases hp
theorem Mc(hne:cf≠cl)(todo:List (List Value)){n:Nat}(hn:0<n):Dp (λc=>c=cf\/c=cl) (entry n (chain cf cl tv z2 qT todo.length (CP cf z todo.flatten) todo)):=by
 refine agK (tv:=tv) (z:=z) (z2:=z2) (qT:=qT) hne todo _ (λ_=>.gone) ⟨hn,rfl,λj hj ov=>?_,rfl,λv=>?_,?_,λ_=>rfl,λj hj ov _=>⟨hj,ov⟩⟩;have:j≠0:=ab
 simp[entry,this,Ro.pc];rw[sJ λj hj=>by simp[Ro.vals]];simp
 rw[sJ λj hj=>by simp[Ro.one]];simp
end Go.Co
namespace Go.Co
open Go Go.Conc Go.Proofs
variable {aa:Machine->Trace->Prop} {main:Bool} {K:Gm->Goroutine->World->Prop} {p:Pc} {γ:So} {w:World}
def Pj(low up:cj)(s:Int)(st:Int×Int×Int)(i:Nat):Int×Int×Int:=
 if(i:Int)+s<0\/(low.length:Int)<=i+s then st
 else if st.2.2=0 then(up.getD i 0+low.getD (i+s).toNat 0,up.getD i 0+low.getD (i+s).toNat 0,1)
 else(if up.getD i 0+low.getD (i+s).toNat 0<st.1 then up.getD i 0+low.getD (i+s).toNat 0 else st.1,if st.2.1<up.getD i 0+low.getD (i+s).toNat 0 then up.getD i 0+low.getD (i+s).toNat 0 else st.2.1,st.2.2+1)
def Fy(low up:cj)(s:Int)(k:Nat):Int×Int×Int:=(List.range k).foldl (Pj low up s) (0,0,0)
def yt(low up:cj)(s:Int):Int×Int×Int:=Fy low up s up.length
theorem ze(low up:cj)(s:Int)(k:Nat):Fy low up s (k+1)=Pj low up s (Fy low up s k) k:=by simp[Fy,Jp]
def Zz(l:cj):Prop:=l.length<=1000/\∀(i:Nat)(x:Int),l[i]? =some x->0<=x/\x<=9
theorem Qc(low up:cj)(s:Int)(k:Nat):0<=(Fy low up s k).2.2/\(Fy low up s k).2.2<=k:=by
 induction k with
 |zero=>simp[Fy]
 |succ k ih=>
  rw[ze];unfold Pj;split;omega
  grind
theorem Qb(low up:cj)(s:Int)(h:s<=-(up.length:Int)\/(low.length:Int)<=s):∀k,k<=up.length->Fy low up s k=(0,0,0):=by
 intro k;induction k with
 |zero=>intro _;rfl
 |succ k ih=>intro hk;rw[ze,ih ab];unfold Pj;rw[if_pos ab]
theorem xl{n:Int}(h:-9223372036854775808<=n)(h':n<=9223372036854775807):IntKind.i64.wrap n=n:=by rw[IntKind.wrap_i64];omega
def agy(ua lb:Value)(A B:Option Addr)(ca cb:Nat)(low up:cj)(s:Int)(bA bB:Nat)(st:Int×Int×Int)(k:Nat)(u:Nat->Value):Act:=
 ⟨#[.agg #[ua,.slice A low.length ca],.agg #[.slice B up.length cb,lb],.int .i64 s,.pointer (some ⟨bA,0,none⟩),.pointer (some ⟨bB,0,none⟩),u 5,.int .i64 st.1,.int .i64 st.2.1,.int .i64 st.2.2,u 9,u 10,u 11,u 12,u 13,u 14,u 15,u 16,u 17,u 18,u 19,u 20,u 21,u 22,u 23,u 24,u 25,u 26,.slice B up.length cb,.int .i64 up.length,.int .i64 k,u 30,u 31,u 32,u 33,u 34,u 35,u 36,u 37,u 38,u 39,u 40,u 41,u 42,u 43,u 44,u 45,u 46,u 47,u 48,u 49,u 50,u 51,u 52,u 53,u 54,u 55,u 56,u 57,u 58,u 59,u 60,u 61,u 62,u 63,u 64,u 65,u 66,u 67,u 68],[]⟩
def Tri(r:Int×Int×Int):Value:=.tuple #[.int .i64 r.1,.int .i64 r.2.1,.int .i64 r.2.2]
theorem aeR(C:KC Tryz.prog main K CQ H7)(hp:p≠.ret){ua ub la lb:Value}{low up:cj}(s:Int)(hl:Ag γ w la low)(hu:Ag γ w ub up)(Ur:Zz low)(Zp:Zz up):
  yE K Tryz.prog (p,γ) 61 #[.agg #[ua,la],.agg #[ub,lb],.int .i64 s] w λγ' v w'=>γ'.1=p/\v=Tri (yt low up s)/\Kept γ w γ'.2 w':=by
 refine Eu Tryz.func61 (by rfl) rfl ?_;simp only[Tryz.ntmps61,iT,cT,gr,Nat.reduceAdd,Nat.reduceSub,Array.replicate_succ,Array.replicate_zero,List.push_toArray,List.append_toArray,gu,gM];refine aY C (ct C ?_);refine qN C hp (ob:=?UK) rfl (by rfl) (λw=>run_eq_of λK hK=>?r1) (λw=>?e1) ?h1
 case r1=>go_simp;exact hK
 case e1=>simp[go_sem]
 intro w1 UH;try walk_nrm
 have Dj:=(hl.rely UH).alloc w1.heap.size (.cells #[ua,la] 111);have hu1:=(hu.rely UH).alloc w1.heap.size (.cells #[ua,la] 111);have UX:bF _ _ ⟨w1.heap.size,1,none⟩ la:=bF.fresh (γ:=γ) (w:=w1) (cs:=#[ua,la]) (t:=111) rfl rfl;have tH:=(Kept.rely UH).trans (Kept.alloc γ w1 w1.heap.size (.cells #[ua,la] 111));refine qN C hp (ob:=?JZ) rfl (by rfl) (λw=>run_eq_of λK hK=>?r2) (λw=>?e2) ?h2
 case r2=>go_simp;exact hK
 case e2=>simp[go_sem]
 intro w2 Uh;try walk_nrm
 have uY:=(Dj.rely Uh).alloc w2.heap.size (.cells #[ub,lb] 111);have hu2:=(hu1.rely Uh).alloc w2.heap.size (.cells #[ub,lb] 111);have Pw:=(UX.rely Uh).alloc w2.heap.size (.cells #[ub,lb] 111);have uZ:bF _ _ ⟨w2.heap.size,0,none⟩ ub:=bF.fresh (γ:=γ.more w1.heap.size) (w:=w2) (cs:=#[ub,lb]) (t:=111) rfl rfl;have Ga:=tH.trans ((Kept.rely Uh).trans (Kept.alloc _ w2 w2.heap.size (.cells #[ub,lb] 111)));iterate 3 (refine av C ?_;try walk_nrm)
 refine aS C ?_;refine aY C ?_;clear hl hu Dj hu1 UX tH Uh UH;generalize(γ.more w1.heap.size).more w2.heap.size=γ2 at*;generalize w2.alloc (.cells #[ub,lb] 111)=W at*;generalize w2.heap.size=bB at*;generalize w1.heap.size=bA at*;obtain⟨A,ca,rfl,hA⟩:=uY;obtain⟨B,cb,rfl,hB⟩:=hu2;have PG:=Ur.1;have V0:=Zp.1;have hwa:IntKind.i64.wrap (0-(up.length:Int))=-(up.length:Int):=by rw[xl]<;>omega
 have hwb:IntKind.i64.wrap (-(up.length:Int))=-(up.length:Int):=by rw[xl]<;>omega
 have Kq:∀(a:Act)(st:Int×Int×Int),a.defers=[]->a.tmps.getD 6 undef=.int .i64 st.1->a.tmps.getD 7 undef=.int .i64 st.2.1->a.tmps.getD 8 undef=.int .i64 st.2.2->st=yt low up s->PV Tryz.prog Tryz.f61 (λ(γ':Gm)(v:Value)(w':World)=>γ'.1=p/\v=Tri (yt low up s)/\Kept γ w γ'.2 w') (p,γ2) .ret a W:=by intro a st hd h6 h7 h8 hst;refine⟨hd,Tri st,?_,rfl,by rw[hst],Ga⟩;intro w';constructor;simp at h6 h7 h8;simp[results,Tryz.results61,h6,h7,h8,Tri,go_sem];simp[results,Tryz.results61,go_sem]
 by_cases HW:s<=-(up.length:Int)
 .have ZZ:decide (s<=-(up.length:Int))=true:=by simpa using HW
  refine aY C (ct C ?_);iterate 2 (refine av C ?_;try walk_nrm)
  refine iX C hp uZ ?_;try walk_nrm
  refine av C ?_;try walk_nrm
  refine dO C (v:=?v10) rfl (by rfl) (λw=>run_eq_of λK hK=>?r10) (λw=>?e10) ?wz
  case r10=>go_simp;exact hK
  case e10=>simp[go_sem,Op.unary]
  iterate 2 (try walk_nrm;refine av C ?_)
  iterate 5 (try walk_nrm;refine dc C rfl (by rfl) ?_)
  try walk_nrm
  refine av C ?_;try walk_nrm
  refine aS C ?_;co_then;refine dG C (t:=true) rfl ?_;simp only[if_true];refine aY C (ct C ?_);iterate 3 (refine av C ?_;try walk_nrm)
  refine aS C ?_;co_then;refine DR C ?_;co_then;exact Kq _ (0,0,0) rfl rfl rfl rfl (Qb low up s ab _ (ai _)).symm
 have ZZ:decide (s<=-(up.length:Int))=false:=by simpa using HW
 by_cases hs2:(low.length:Int)<=s
 .have hd2:decide ((low.length:Int)<=s)=true:=by simpa using hs2
  refine aY C (ct C ?_);iterate 2 (refine av C ?_;try walk_nrm)
  refine iX C hp uZ ?_;try walk_nrm
  refine av C ?_;try walk_nrm
  refine dO C (v:=?v21) rfl (by rfl) (λw=>run_eq_of λK hK=>?r21) (λw=>?e21) ?h21
  case r21=>go_simp;exact hK
  case e21=>simp[go_sem,Op.unary]
  iterate 4 (try walk_nrm;refine av C ?_)
  try walk_nrm
  refine iX C hp Pw ?_;iterate 3 (try walk_nrm;refine av C ?_)
  try walk_nrm
  refine aS C ?_;co_then;refine dG C (t:=true) rfl ?_;simp only[if_true];refine aY C (ct C ?_);iterate 3 (refine av C ?_;try walk_nrm)
  refine aS C ?_;co_then;refine DR C ?_;co_then;exact Kq _ (0,0,0) rfl rfl rfl rfl (Qb low up s ab _ (ai _)).symm
 have hd2:decide ((low.length:Int)<=s)=false:=by simpa using hs2
 refine aY C (ct C ?_);iterate 2 (refine av C ?_;try walk_nrm)
 refine iX C hp uZ ?_;try walk_nrm
 refine av C ?_;try walk_nrm
 refine dO C (v:=?v37) rfl (by rfl) (λw=>run_eq_of λK hK=>?r37) (λw=>?e37) ?h37
 case r37=>go_simp;exact hK
 case e37=>simp[go_sem,Op.unary]
 iterate 4 (try walk_nrm;refine av C ?_)
 try walk_nrm
 refine iX C hp Pw ?_;iterate 3 (try walk_nrm;refine av C ?_)
 try walk_nrm
 refine aS C ?_;co_then;refine dG C (t:=false) rfl ?_;simp only[aJ,if_false];refine kJ C ?_;co_then;refine aY C (aY C (ct C ?_));refine av C ?_;try walk_nrm
 refine iX C hp uZ ?_;iterate 2 (try walk_nrm;refine av C ?_)
 try walk_nrm
 refine aS C ?_;co_then;refine gz C ?_;refine pM C (λn γ' a w'=>γ'=(p,γ2)/\w'=W/\∃k,k<=up.length/\n=up.length-k/\∃u,a=agy ua lb A B ca cb low up s bA bB (Fy low up s k) k u) (n:=up.length) ⟨rfl,rfl,0,ab,ab,pY rfl⟩ ?_;rintro n γ' a w' ⟨hγ,hw',k,hk,hn,u,ha⟩;subst hγ hw';have hN:=Qc low up s k;have hS:=ze low up s k;have hSk:∀r,Pj low up s (Fy low up s k) k=r->Fy low up s (k+1)=r:=λr h=>hS.trans h;clear hS;have agb:k=up.length->yt low up s=Fy low up s k:=λh=>by rw[h];rfl
 generalize Fy low up s k=st at*;unfold agy at ha;subst ha;refine aY C (ct C ?_);by_cases hlt:k<up.length
 .have hd3:decide ((k:Int)<(up.length:Int))=true:=by simpa using hlt
  obtain⟨x,hx⟩:∃x,up[k]? =some x:=⟨_,aT hlt⟩;obtain⟨bd,hBe,hsB⟩:=hB k x hx;subst hBe;have hxb:=Zp.2 k x hx;have hw3:IntKind.i64.wrap ((k:Int)+s)=(k:Int)+s:=by rw[xl]<;>omega
  have hw5:IntKind.i64.wrap ((k:Int)+1)=(k:Int)+1:=by rw[xl]<;>omega
  have hgx:up.getD k 0=x:=by simp[List.getD,hx]
  refine av C ?_;try walk_nrm
  refine aS C ?_;co_then;refine aY C (dG C (t:=true) rfl ?_);simp only[if_true];refine kJ C ?_;co_then;refine aY C (gz C (aY C (ct C ?_)));iterate 2 (refine av C ?_;try walk_nrm)
  refine iX C hp hsB ?_;iterate 2 (try walk_nrm;refine av C ?_)
  try walk_nrm
  refine aS C ?_;co_then;refine aY C (ct C ?_);iterate 4 (refine av C ?_;try walk_nrm)
  refine aS C ?_;co_then;refine aY C (aY C (ct C ?_));by_cases Dk:(k:Int)+s<0
  .have ZY:decide ((k:Int)+s<0)=true:=by simpa using Dk
   iterate 3 (refine av C ?_;try walk_nrm)
   iterate 5 (refine dc C rfl (by rfl) ?_;try walk_nrm)
   refine av C ?_;try walk_nrm
   refine aS C ?_;co_then;refine dG C (t:=true) rfl ?_;simp only[if_true];refine oD C ?_;co_then;have hst:Pj low up s st k=st:=by unfold Pj;rw[if_pos (.inl Dk)]
   refine ct C ?_;iterate 2 (refine av C ?_;try walk_nrm)
   refine aS C (ey ?_);refine⟨up.length-(k+1),ab,rfl,rfl,k+1,ab,rfl,pY ?_⟩;rw[hSk _ hst];rfl
  have ZY:decide ((k:Int)+s<0)=false:=by simpa using Dk
  by_cases Ae:(low.length:Int)<=(k:Int)+s
  .have hd5:decide ((low.length:Int)<=(k:Int)+s)=true:=by simpa using Ae
   iterate 5 (refine av C ?_;try walk_nrm)
   refine iX C hp Pw ?_;iterate 3 (try walk_nrm;refine av C ?_)
   try walk_nrm
   refine aS C ?_;co_then;refine dG C (t:=true) rfl ?_;simp only[if_true];refine oD C ?_;co_then;have hst:Pj low up s st k=st:=by unfold Pj;rw[if_pos (.inr Ae)]
   refine ct C ?_;iterate 2 (refine av C ?_;try walk_nrm)
   refine aS C (ey ?_);refine⟨up.length-(k+1),ab,rfl,rfl,k+1,ab,rfl,pY ?_⟩;rw[hSk _ hst];rfl
  have hd5:decide ((low.length:Int)<=(k:Int)+s)=false:=by simpa using Ae
  iterate 5 (refine av C ?_;try walk_nrm)
  refine iX C hp Pw ?_;iterate 3 (try walk_nrm;refine av C ?_)
  try walk_nrm
  refine aS C ?_;co_then;refine dG C (t:=false) rfl ?_;simp only[aJ,if_false];refine kJ C ?_;co_then;obtain⟨y,hy⟩:∃y,low[((k:Int)+s).toNat]? =some y:=⟨_,aT ab⟩;obtain⟨al,hAe,hsA⟩:=hA _ y hy;subst hAe;have hyb:=Ur.2 _ y hy;have hw4:IntKind.i64.wrap (x+y)=x+y:=by rw[xl]<;>omega
  have hw6:IntKind.i64.wrap (st.2.2+1)=st.2.2+1:=by rw[xl]<;>omega
  have hgy:low.getD ((k:Int)+s).toNat 0=y:=by simp[List.getD,hy]
  have Gb:0<=(k:Int)+s:=ab
  have hi1:(k:Int)+s<(low.length:Int):=ab
  refine aY C (ct C ?_);iterate 2 (refine av C ?_;try walk_nrm)
  refine iX C hp Pw ?_;iterate 2 (try walk_nrm;refine av C ?_)
  try walk_nrm
  refine iX C hp hsA ?_;iterate 2 (try walk_nrm;refine av C ?_)
  try walk_nrm
  refine aS C ?_;co_then;refine aY C (aY C (ct C ?_));have adT:st.2.2=0->Pj low up s st k=(x+y,x+y,1):=by intro h0;unfold Pj;rw[if_neg ab,if_pos h0,hgx,hgy]
  have adS:st.2.2≠0->Pj low up s st k=(if x+y<st.1 then x+y else st.1,if st.2.1<x+y then x+y else st.2.1,st.2.2+1):=by intro h0;unfold Pj;rw[if_neg ab,if_neg h0,hgx,hgy]
  clear agb;obtain⟨s1,s2,s3⟩:=st;simp only at*;by_cases Z0:s3=0
  .subst Z0;have hst:=adT rfl;clear adT adS;iterate 2 (refine av C ?_;try walk_nrm)
   refine aS C ?_;co_then;refine dG C (t:=true) rfl ?_;simp only[if_true];refine ct C ?_;iterate 4 (refine av C ?_;try walk_nrm)
   refine aS C ?_;co_then;refine ct C ?_;iterate 2 (refine av C ?_;try walk_nrm)
   refine dO C (v:=?akj) rfl (by rfl) (λw=>run_eq_of λK hK=>?r102) (λw=>?e102) ?akB
   case r102=>go_simp;exact hK
   case e102=>simp[go_sem,tf]
   iterate 2 (try walk_nrm;refine av C ?_)
   try walk_nrm
   refine dO C (v:=?v105) rfl (by rfl) (λw=>run_eq_of λK hK=>?r105) (λw=>?e105) ?akA
   case r105=>go_simp;exact hK
   case e105=>simp[go_sem,tg]
   iterate 5 (try walk_nrm;refine av C ?_)
   try walk_nrm
   refine aS C ?_;co_then;refine ct C ?_;iterate 2 (refine av C ?_;try walk_nrm)
   refine aS C (ey ?_);refine⟨up.length-(k+1),ab,rfl,rfl,k+1,ab,rfl,pY ?_⟩;rw[hSk _ hst];rfl
  have hd6:decide (s3=0)=false:=by simpa using Z0
  have akw:(s3==0)=false:=by simpa using Z0
  have hst:=adS Z0;clear adT adS;iterate 2 (refine av C ?_;try walk_nrm)
  refine aS C ?_;co_then;refine dG C (t:=false) rfl ?_;simp only[aJ,if_false];refine kJ C ?_;co_then;refine ct C ?_;iterate 2 (refine av C ?_;try walk_nrm)
  refine dO C (v:=?v117) rfl (by rfl) (λw=>run_eq_of λK hK=>?r117) (λw=>?e117) ?akz
  case r117=>go_simp;exact hK
  case e117=>simp[go_sem,tf]
  iterate 2 (try walk_nrm;refine av C ?_)
  try walk_nrm
  refine dO C (v:=?aki) rfl (by rfl) (λw=>run_eq_of λK hK=>?r120) (λw=>?e120) ?aky
  case r120=>go_simp;exact hK
  case e120=>simp[go_sem,tg]
  iterate 5 (try walk_nrm;refine av C ?_)
  try walk_nrm
  refine aS C ?_;co_then;refine ct C ?_;iterate 2 (refine av C ?_;try walk_nrm)
  refine aS C (ey ?_);refine⟨up.length-(k+1),ab,rfl,rfl,k+1,ab,rfl,pY ?_⟩;rw[hSk _ hst];rfl
 have Bt:k=up.length:=ab
 subst Bt;have hd3:decide ((up.length:Int)<(up.length:Int))=false:=ae
 refine av C ?_;try walk_nrm
 refine aS C ?_;co_then;refine aY C (dG C (t:=false) rfl ?_);simp only[aJ,if_false];refine oD C ?_;co_then;refine aY C (ct C ?_);iterate 6 (refine av C ?_;try walk_nrm)
 refine aS C ?_;co_then;refine DR C ?_;exact Kq _ st rfl rfl rfl rfl (agb rfl).symm
end Go.Co
