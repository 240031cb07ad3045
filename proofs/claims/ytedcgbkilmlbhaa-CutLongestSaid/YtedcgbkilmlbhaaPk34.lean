import Derived.Test.YtedcgbkilmlbhaaPk29
import Derived.Test.YtedcgbkilmlbhaaChecked
set_option maxHeartbeats 2000000
set_option maxRecDepth 100000
namespace Go.Co
open Go Go.Conc
open Go.ConcN (sumTo sumTo_upd sumTo_congr le_sumTo upd upd_same upd_ne)
open Classical
variable {cf cl:Nat} {tv z z2:Value} {rK:Bool}
def wk(cf cl:Nat)(tv:Value):List Value->Pc
 |[]=>.send cl tv .stop
 |v::vs=>.send cf v (wk cf cl tv vs)
def JR(cf cl:Nat)(z2:Value)(rK:Bool):Nat->Pc
 |0=>.close cf .stop
 |k+1=>.recv cl rK z2 λx=>match x with|some _=>JR cf cl z2 rK k|none=>.bad
noncomputable def Zs (cf:Nat)(z:Value):Nat->List Value->Pc
 |0,_=>.recv cf true z λx=>match x with|some _=>.bad|none=>.ret
 |n+1,rem=>.recv cf true z λx=>match x with|some v=>if v∈rem then Zs cf z n (rem.erase v)else .bad|none=>.bad
noncomputable def CX (cf:Nat)(z:Value)(rem:List Value):Pc:=Zs cf z rem.length rem
def chain(cf cl:Nat)(tv z2:Value)(rK:Bool)(K:Nat)(p:Pc):List (List Value)->Pc
 |[]=>.go (JR cf cl z2 rK K) p
 |vs::todo=>.go (wk cf cl tv vs) (chain cf cl tv z2 rK K p todo)
inductive Ro where
 |gone
 |work (vs:List Value)
def Ro.pc (cf cl:Nat)(tv:Value):Ro->Pc
 |gone=>.stop
 |work vs=>wk cf cl tv vs
def Ro.vals:Ro->List Value
 |gone=>[]
 |work vs=>vs
def Ro.one:Ro->Nat
 |gone=>0
 |work _=>1
theorem Qc(N:Net)(i j:Nat)(k k':Pc):(N.meet i j k k').pr j=k':=upd_same _ _ _
theorem Wt(N:Net)(i:Nat)(ch k:Pc):(N.start i ch k).pr N.n=ch:=upd_same _ _ _
theorem Rq:Ro.gone.vals=[]:=rfl
theorem A3(vs:List Value):(Ro.work vs).vals=vs:=rfl
theorem Xo:Ro.gone.one=0:=rfl
theorem Lh(vs:List Value):(Ro.work vs).one=1:=rfl
theorem rX(vs:List Value):∃c v k,wk cf cl tv vs=.send c v k/\(c=cf\/c=cl):=by
 cases vs with
 |nil=>exact⟨_,_,_,rfl,.inr rfl⟩
 |cons v vs=>exact⟨_,_,_,rfl,.inl rfl⟩
theorem wI(k:Nat):(∃p,JR cf cl z2 rK k=.recv cl rK z2 p)\/JR cf cl z2 rK k=.close cf .stop:=by
 cases k with
 |zero=>exact .inr rfl
 |succ k=>exact .inl ⟨_,rfl⟩
theorem wH(rem:List Value):∃p,CX cf z rem=.recv cf true z p:=by
 unfold CX;cases rem.length with
 |zero=>exact⟨_,rfl⟩
 |succ k=>exact⟨_,rfl⟩
theorem Mr(K:Nat)(p:Pc)(todo:List (List Value)):∃a b,chain cf cl tv z2 rK K p todo=.go a b:=by
 cases todo with
 |nil=>exact⟨_,_,rfl⟩
 |cons vs todo=>exact⟨_,_,rfl⟩
theorem En(r:Ro):(r=.gone/\r.pc cf cl tv=.stop)\/∃vs,r=.work vs/\r.pc cf cl tv=wk cf cl tv vs:=by
 cases r with
 |gone=>exact .inl ⟨rfl,rfl⟩
 |work vs=>exact .inr ⟨vs,rfl,rfl⟩
theorem afU{N:Net}{E:Nat->Prop}(hn:0<N.n)(h0:N.pr 0=CX cf z [])(hst:∀j,0<j->j<N.n->N.pr j=.stop)(hc:N.cl cf=some E)(hE:∀j,0<j->j<N.n->E j):Ds (λc=>c=cf\/c=cl) N:=by
 have S9:N.pr 0=.recv cf true z λx=>match x with|some _=>.bad|none=>.ret:=h0
 have cT:∀j,j<N.n->j=0\/N.pr j=.stop:=λj hj=>(o8 j).imp id λh=>hst j h hj;refine .step N (λj hj=>?_) (by rw[S9];simp) (λi c v k hi hp=>?_) (λj c ok z k hj hp=>?_) (.inr (.inr (.inl ⟨0,_,_,_,_,E,hn,S9,hc⟩)))
  (λi j c v k ok z k' hi hj hp _=>?_) (λi c k hi hp=>?_) (λi c k hi hp=>?_) (λj c ok z k E' hj hp CB=>?_) (λi ch k hi hp=>?_)
 .rcases cT j hj with rfl|h;.rw[S9];simp
  rw[h];simp
 .rcases cT i hi with rfl|h;.rw[S9]at hp;cases hp
  rw[h]at hp;cases hp
 .rcases cT j hj with rfl|h;.rw[S9]at hp;cases hp;exact .inl rfl
  rw[h]at hp;cases hp
 .rcases cT i hi with rfl|h;.rw[S9]at hp;cases hp
  rw[h]at hp;cases hp
 .rcases cT i hi with rfl|h;.rw[S9]at hp;cases hp
  rw[h]at hp;cases hp
 .rcases cT i hi with rfl|h;.rw[S9]at hp;cases hp
  rw[h]at hp;cases hp
 .rcases cT j hj with rfl|h;.rw[S9]at hp;cases hp;rw[hc]at CB;cases CB;refine .done _ (show upd N.pr 0 _ 0=_ from upd_same _ _ _) λj hj og=>⟨?_,.inr (hE j hj og)⟩;show upd N.pr 0 _ j=.stop;rw[upd_ne _ _ (by omega)];exact hst j hj og
  rw[h]at hp;cases hp
 rcases cT i hi with rfl|h;.rw[S9]at hp;cases hp
 rw[h]at hp;cases hp
structure aip (cf cl:Nat) (tv z z2:Value) (rK:Bool) (N:Net) (s:Nat->Ro) (jc k:Nat) (rem:List Value):Prop where
 jc0:0<jc
 jcn:jc<N.n
 main:N.pr 0=CX cf z rem
 FU:N.pr jc=JR cf cl z2 rK k
 gone:s jc=.gone
 other:∀j,0<j->j<N.n->j≠jc->N.pr j=(s j).pc cf cl tv
 zero:s 0=.gone
 cnt:∀v,rem.count v=sumTo N.n λj=>(s j).vals.count v
 live:k=sumTo N.n λj=>(s j).one
 opn:∀c,N.cl c=none
 MT:∀j,0<j->j<N.n->s j=.gone->j≠jc->N.D jc j
theorem th{f:Nat->Nat}{n:Nat}(h:∀i,i<n->f i=0):sumTo n f=0:=by
 induction n with
 |zero=>rfl
 |succ n ih=>simp[sumTo,ih λi hi=>h i (by omega),h n (by omega)]
theorem Rx{f:Nat->Nat}{n:Nat}(h:sumTo n f≠0):∃i,i<n/\f i≠0:=by
 by_cases hx:∃i,i<n/\f i≠0;.exact hx
 exact absurd (th λi hi=>by
  by_cases h0:f i=0;.exact h0
  exact absurd ⟨i,hi,h0⟩ hx) h
theorem afV(hne:cf≠cl):∀(M:Nat)(N:Net)(s:Nat->Ro)(jc k:Nat)(rem:List Value),rem.length+k<M->aip cf cl tv z z2 rK N s jc k rem->Ds (λc=>c=cf\/c=cl) N:=by
 intro M;induction M with
 |zero=>exactλ_ _ _ _ _ h=>absurd h (Nat.not_lt_zero _)
 |succ M ih=>
  intro N s jc k rem hM I;have hn:0<N.n:=dM I.jc0 (Nat.le_of_lt I.jcn);obtain⟨pc,QU⟩:=wH (cf:=cf) (z:=z) rem;have cT:∀j,j<N.n->j=0\/j=jc\/(0<j/\j≠jc/\((s j=.gone/\N.pr j=.stop)\/∃vs,s j=.work vs/\N.pr j=wk cf cl tv vs)):=by
   intro j hj;rcases o8 j with rfl|hp;.exact .inl rfl
   by_cases hjc:j=jc;.exact .inr (.inl hjc)
   refine .inr (.inr ⟨hp,hjc,?_⟩);have:=I.other j hp hj hjc;rcases En (cf:=cf) (cl:=cl) (tv:=tv) (s j)with ⟨h1,h2⟩|⟨vs,h1,h2⟩;.exact .inl ⟨h1,this.trans h2⟩
   exact .inr ⟨vs,h1,this.trans h2⟩
  have afo:∀i c v p,i<N.n->N.pr i=.send c v p->0<i/\i≠jc/\((∃vs,s i=.work (v::vs)/\c=cf/\p=wk cf cl tv vs)\/(s i=.work []/\c=cl/\p=.stop)):=by
   intro i c v p hi hp;rcases cT i hi with rfl|rfl|⟨h1,h2,⟨h3,h4⟩|⟨vs,h3,h4⟩⟩;.rw[I.main,QU]at hp;cases hp
   .rw[I.FU]at hp;rcases wI (cf:=cf) (cl:=cl) (z2:=z2) (rK:=rK) k with ⟨p',h⟩|h<;>rw[h]at hp<;>cases hp
   .rw[h4]at hp;cases hp
   refine⟨h1,h2,?_⟩;rw[h4]at hp;cases vs with
   |nil=>cases hp;exact .inr ⟨h3,rfl,rfl⟩
   |cons v' vs=>cases hp;exact .inl ⟨vs,h3,rfl,rfl⟩
  have ac3:∀j c ok z' p,j<N.n->N.pr j=.recv c ok z' p->(j=0/\c=cf)\/(j=jc/\c=cl):=by
   intro j c ok z' p hj hp;rcases cT j hj with rfl|rfl|⟨h1,h2,⟨h3,h4⟩|⟨vs,h3,h4⟩⟩;.rw[I.main,QU]at hp;cases hp;exact .inl ⟨rfl,rfl⟩
   .rw[I.FU]at hp;rcases wI (cf:=cf) (cl:=cl) (z2:=z2) (rK:=rK) k with ⟨p',h⟩|h<;>rw[h]at hp<;>cases hp;exact .inr ⟨rfl,rfl⟩
   .rw[h4]at hp;cases hp
   rw[h4]at hp;obtain⟨_,_,_,h,_⟩:=rX (cf:=cf) (cl:=cl) (tv:=tv) vs;rw[h]at hp;cases hp
  have afC:∀j c p,j<N.n->N.pr j=.close c p->j=jc/\c=cf/\p=.stop/\k=0:=by
   intro j c p hj hp;rcases cT j hj with rfl|rfl|⟨h1,h2,⟨h3,h4⟩|⟨vs,h3,h4⟩⟩;.rw[I.main,QU]at hp;cases hp
   .rw[I.FU]at hp;cases k with
    |zero=>cases hp;exact⟨rfl,rfl,rfl,rfl⟩
    |succ k=>cases hp
   .rw[h4]at hp;cases hp
   rw[h4]at hp;obtain⟨_,_,_,h,_⟩:=rX (cf:=cf) (cl:=cl) (tv:=tv) vs;rw[h]at hp;cases hp
  have hgo:∀j a p,j<N.n->N.pr j≠.go a p:=by
   intro j a p hj hp;rcases cT j hj with rfl|rfl|⟨h1,h2,⟨h3,h4⟩|⟨vs,h3,h4⟩⟩;.rw[I.main,QU]at hp;cases hp
   .rw[I.FU]at hp;rcases wI (cf:=cf) (cl:=cl) (z2:=z2) (rK:=rK) k with ⟨p',h⟩|h<;>rw[h]at hp<;>cases hp
   .rw[h4]at hp;cases hp
   rw[h4]at hp;obtain⟨_,_,_,h,_⟩:=rX (cf:=cf) (cl:=cl) (tv:=tv) vs;rw[h]at hp;cases hp
  have aiP:=I.jc0;refine .step N (λj hj=>?_) (by rw[I.main,QU];simp) (λi c v p hi hp=>⟨I.opn c,?_⟩) (λj c ok z' p hj hp=>?_) ?_
   (λi j c v p ok z' p' hi hj hp hq=>?_) (λi c p hi hp=>⟨I.opn c,.inl (afC i c p hi hp).2.1⟩) (λi c p hi hp=>?_) (λj c ok z' p E' hj hp CB=>?_) (λi ch p hi hp=>absurd hp (hgo i ch p hi))
  .rcases cT j hj with rfl|rfl|⟨h1,h2,⟨h3,h4⟩|⟨vs,h3,h4⟩⟩;.rw[I.main,QU];simp
   .rw[I.FU];rcases wI (cf:=cf) (cl:=cl) (z2:=z2) (rK:=rK) k with ⟨p',h⟩|h<;>rw[h]<;>simp
   .rw[h4];simp
   rw[h4];obtain⟨_,_,_,h,_⟩:=rX (cf:=cf) (cl:=cl) (tv:=tv) vs;rw[h];simp
  .rcases(afo i c v p hi hp).2.2 with ⟨_,_,h,_⟩|⟨_,h,_⟩;.exact .inl h
   exact .inr h
  .rcases ac3 j c ok z' p hj hp with ⟨_,h⟩|⟨_,h⟩;.exact .inl h
   exact .inr h
  .by_cases hk:k=0;.exact .inr (.inl ⟨jc,cf,.stop,I.jcn,by rw[I.FU,hk];rfl⟩)
   obtain⟨i,hi,ac5⟩:=Rx (f:=λj=>(s j).one) (n:=N.n) (by rw[<-I.live];exact hk);obtain⟨k',rfl⟩:=Nat.exists_eq_succ_of_ne_zero hk;rcases cT i hi with rfl|rfl|⟨h1,h2,⟨h3,h4⟩|⟨vs,h3,h4⟩⟩;.simp[I.zero,Ro.one]at ac5
   .simp[I.gone,Ro.one]at ac5
   .simp[h3,Ro.one]at ac5
   cases vs with
   |nil=>exact .inl ⟨i,jc,cl,_,_,_,_,_,hi,I.jcn,h4,I.FU⟩
   |cons v vs=>exact .inl ⟨i,0,cf,_,_,_,_,_,hi,hn,h4,by rw[I.main];exact QU⟩
  .obtain⟨Dp,ac9,hs⟩:=afo i c v p hi hp;rcases hs with ⟨vs,hs,rfl,rfl⟩|⟨hs,rfl,rfl⟩
   .obtain rfl:j=0:=by
     rcases ac3 j _ ok z' p' hj hq with ⟨h,_⟩|⟨_,h⟩;.exact h
     exact absurd h hne
    have hv:v∈rem:=by have h1:=I.cnt v;have h2:=le_sumTo (f:=λj=>(s j).vals.count v) hi;simp only[hs,A3,List.count_cons_self]at h2;exact List.count_pos_iff.1 (by omega)
    have hlen:rem.length=(rem.erase v).length+1:=by rw[Df hv];have:=List.length_pos_of_mem hv;omega
    have tI:p' (some v)=CX c z (rem.erase v):=by have hm:=I.main;rw[hq]at hm;unfold CX at hm;rw[hlen]at hm;cases hm;show(if v∈rem then Zs c z (rem.erase v).length (rem.erase v)else .bad)=_;rw[if_pos hv];rfl
    rw[tI];refine ih _ (upd s i (.work vs)) jc k (rem.erase v) (by omega) ⟨I.jc0,I.jcn,Qc _ _ _ _ _,?_,?_,λj hj og FD=>?_,?_,λv'=>?_,?_,I.opn,λj hj og hg FD=>?_⟩;.show upd (upd N.pr i _) 0 _ jc=_;rw[upd_ne _ _ (by omega),upd_ne _ _ (Ne.symm ac9)];exact I.FU
    .rw[upd_ne _ _ (Ne.symm ac9)];exact I.gone
    .show upd (upd N.pr i _) 0 _ j=_;rw[upd_ne _ _ (by omega)];by_cases ic:j=i;.subst ic;rw[upd_same,upd_same];rfl
     rw[upd_ne _ _ ic,upd_ne _ _ ic];exact I.other j hj og FD
    .rw[upd_ne _ _ (by omega)];exact I.zero
    .have h1:=I.cnt v';have h2:=sumTo_upd s (.work vs) (λr=>r.vals.count v') hi;show(rem.erase v).count v'=sumTo N.n _;simp only[hs,A3,List.count_cons]at h2;rw[List.count_erase];split at h2<;>rename_i h3;.rw[if_pos h3];omega
     rw[if_neg h3];omega
    .have h2:=sumTo_upd s (.work vs) Ro.one hi;have h1:=I.live;simp only[hs,Lh]at h2;show k=sumTo N.n _;omega
    by_cases ic:j=i;.subst ic;rw[upd_same]at hg;cases hg
    rw[upd_ne _ _ ic]at hg;show if jc=i\/jc=0 then _ else N.D jc j;rw[if_neg (by omega)];exact I.MT j hj og hg FD
   obtain rfl:j=jc:=by
    rcases ac3 j _ ok z' p' hj hq with ⟨_,h⟩|⟨h,_⟩;.exact absurd h.symm hne
    exact h
   obtain⟨k',rfl⟩:∃k',k=k'+1:=by
    cases k with
    |zero=>rw[I.FU]at hq;cases hq
    |succ k=>exact⟨k,rfl⟩
   have tI:p' (some v)=JR cf c z2 rK k':=by have:=I.FU;rw[hq]at this;cases this;rfl
   rw[tI];refine ih _ (upd s i .gone) j k' rem (by omega) ⟨I.jc0,I.jcn,?_,Qc _ _ _ _ _,?_,λx hx F9 Tn=>?_,?_,λv'=>?_,?_,I.opn,λx hx F9 hg Tn=>?_⟩;.show upd (upd N.pr i _) j _ 0=_;rw[upd_ne _ _ (by omega),upd_ne _ _ (by omega)];exact I.main
   .rw[upd_ne _ _ (Ne.symm ac9)];exact I.gone
   .show upd (upd N.pr i _) j _ x=_;rw[upd_ne _ _ Tn];by_cases hxi:x=i;.subst hxi;rw[upd_same,upd_same];rfl
    rw[upd_ne _ _ hxi,upd_ne _ _ hxi];exact I.other x hx F9 Tn
   .rw[upd_ne _ _ (by omega)];exact I.zero
   .have h1:=I.cnt v';have h2:=sumTo_upd s .gone (λr=>r.vals.count v') hi;show rem.count v'=sumTo N.n _;simp only[hs,A3,Rq,List.count_nil]at h2;omega
   .have h2:=sumTo_upd s .gone Ro.one hi;have h1:=I.live;simp only[hs,Lh,Xo]at h2;show k'=sumTo N.n _;omega
   show if j=i\/j=j then _ else _;rw[if_pos (.inr rfl)];by_cases hxi:x=i;.exact .inr (.inr (.inl ⟨hxi,rfl⟩))
   rw[upd_ne _ _ hxi]at hg;exact .inr (.inl (I.MT x hx F9 hg Tn))
  .obtain⟨rfl,rfl,rfl,rfl⟩:=afC i c p hi hp;have fN:∀j,j<N.n->s j=.gone:=by
    intro j hj;have h1:=le_sumTo (f:=λj=>(s j).one) hj;rw[<-I.live]at h1;cases h:s j with
    |gone=>rfl
    |work vs=>simp[h,Ro.one]at h1
   have ahJ:rem=[]:=by
    cases hr:rem with
    |nil=>rfl
    |cons v vs=>have h1:=I.cnt v;rw[th λj hj=>by simp[fN j hj,Ro.vals],hr]at h1;simp at h1
   subst ahJ;refine afU (z:=z) (E:=λy=>N.D i y\/(y=i/\Pc.stop=Pc.stop)) hn ?_ (λj hj og=>?_) (upd_same _ _ _) (λj hj og=>?_);.show upd N.pr i _ 0=_;rw[upd_ne _ _ (by omega)];exact I.main
   .show upd N.pr i _ j=_;by_cases ic:j=i;.subst ic;rw[upd_same]
    rw[upd_ne _ _ ic,I.other j hj og ic,fN j og];rfl
   by_cases ic:j=i;.exact .inr ⟨ic,rfl⟩
   exact .inl (I.MT j hj og (fN j og) ic)
  rw[I.opn c]at CB;cases CB
structure aiq (cf cl:Nat) (tv z z2:Value) (rK:Bool) (K:Nat) (R:List Value) (N:Net) (s:Nat->Ro) (todo:List (List Value)):Prop where
 n0:0<N.n
 main:N.pr 0=chain cf cl tv z2 rK K (CX cf z R) todo
 other:∀j,0<j->j<N.n->N.pr j=(s j).pc cf cl tv
 zero:s 0=.gone
 cnt:∀v,R.count v=todo.flatten.count v+sumTo N.n λj=>(s j).vals.count v
 live:K=todo.length+sumTo N.n λj=>(s j).one
 opn:∀c,N.cl c=none
 MT:∀j,0<j->j<N.n->s j=.gone->N.D 0 j
theorem tj{s:Nat->Ro}{r:Ro}{n:Nat}(φ:Ro->Nat):sumTo (n+1) (λj=>φ (upd s n r j))=sumTo n (λj=>φ (s j))+φ r:=by simp only[sumTo,upd_same];rw[sumTo_congr (g:=λj=>φ (s j)) λj hj=>by rw[upd_ne _ _ (by omega)]]
theorem afW(hne:cf≠cl){K:Nat}{R:List Value}:∀(todo:List (List Value))(N:Net)(s:Nat->Ro),aiq cf cl tv z z2 rK K R N s todo->Ds (λc=>c=cf\/c=cl) N:=by
 intro todo;induction todo with
 |nil=>
  intro N s I;have mg:N.pr 0=.go (JR cf cl z2 rK K) (CX cf z R):=I.main;have cT:∀j,j<N.n->j=0\/(0<j/\((s j=.gone/\N.pr j=.stop)\/∃vs c v k,s j=.work vs/\N.pr j=.send c v k/\(c=cf\/c=cl))):=by
   intro j hj;refine(o8 j).imp id λhp=>⟨hp,?_⟩;have:=I.other j hp hj;rcases En (cf:=cf) (cl:=cl) (tv:=tv) (s j)with ⟨h1,h2⟩|⟨vs,h1,h2⟩;.exact .inl ⟨h1,this.trans h2⟩
   obtain⟨c,v,k,h3,h4⟩:=rX (cf:=cf) (cl:=cl) (tv:=tv) vs;exact .inr ⟨vs,c,v,k,h1,(this.trans h2).trans h3,h4⟩
  refine .step N (λj hj=>?_) (by rw[mg];simp) (λi c v p hi hp=>⟨I.opn c,?_⟩) (λj c ok z' p hj hp=>?_) (.inr (.inr (.inr ⟨0,_,_,I.n0,mg⟩)))
   (λi j c v p ok z' p' hi hj hp hq=>?_) (λi c p hi hp=>?_) (λi c p hi hp=>?_) (λj c ok z' p E' hj hp CB=>?_) (λi ch p hi hp=>?_)
  .rcases cT j hj with rfl|⟨_,⟨_,h⟩|⟨_,_,_,_,_,h,_⟩⟩;.rw[mg];simp
   .rw[h];simp
   rw[h];simp
  .rcases cT i hi with rfl|⟨_,⟨_,h⟩|⟨_,_,_,_,_,h,h'⟩⟩;.rw[mg]at hp;cases hp
   .rw[h]at hp;cases hp
   rw[h]at hp;cases hp;exact h'
  .rcases cT j hj with rfl|⟨_,⟨_,h⟩|⟨_,_,_,_,_,h,_⟩⟩;.rw[mg]at hp;cases hp
   .rw[h]at hp;cases hp
   rw[h]at hp;cases hp
  .rcases cT j hj with rfl|⟨_,⟨_,h⟩|⟨_,_,_,_,_,h,_⟩⟩;.rw[mg]at hq;cases hq
   .rw[h]at hq;cases hq
   rw[h]at hq;cases hq
  .rcases cT i hi with rfl|⟨_,⟨_,h⟩|⟨_,_,_,_,_,h,_⟩⟩;.rw[mg]at hp;cases hp
   .rw[h]at hp;cases hp
   rw[h]at hp;cases hp
  .rcases cT i hi with rfl|⟨_,⟨_,h⟩|⟨_,_,_,_,_,h,_⟩⟩;.rw[mg]at hp;cases hp
   .rw[h]at hp;cases hp
   rw[h]at hp;cases hp
  .rw[I.opn c]at CB;cases CB
  rcases cT i hi with rfl|⟨_,⟨_,h⟩|⟨_,_,_,_,_,h,_⟩⟩
  .rw[mg]at hp;cases hp;have hn:=I.n0;refine afV (tv:=tv) (z:=z) (z2:=z2) (rK:=rK) hne (R.length+K+1) _ (upd s N.n .gone) N.n K R (vU _) ⟨hn,vU _,?_,Wt _ _ _ _,upd_same _ _ _,λj hj og FD=>?_,?_,λv=>?_,?_,I.opn,λj hj og hg FD=>?_⟩;.show upd (upd N.pr 0 _) N.n _ 0=_;rw[upd_ne _ _ (by omega),upd_same]
   .show upd (upd N.pr 0 _) N.n _ j=_;have MW:j<N.n:=by have:j<N.n+1:=og;omega
    rw[upd_ne _ _ FD,upd_ne _ _ (by omega),upd_ne _ _ FD];exact I.other j hj MW
   .rw[upd_ne _ _ (by omega)];exact I.zero
   .show R.count v=sumTo (N.n+1) _;rw[tj (s:=s) (r:=.gone) λr=>r.vals.count v];have:=I.cnt v;simpa [Ro.vals]using this
   .show K=sumTo (N.n+1) _;rw[tj (s:=s) (r:=.gone) Ro.one];have:=I.live;simpa [Ro.one]using this
   show if N.n=N.n then N.D 0 j else _;rw[if_pos rfl];have MW:j<N.n:=by have:j<N.n+1:=og;omega
   rw[upd_ne _ _ FD]at hg;exact I.MT j hj MW hg
  .rw[h]at hp;cases hp
  rw[h]at hp;cases hp
 |cons vs todo ih=>
  intro N s I;have mg:N.pr 0=.go (wk cf cl tv vs) (chain cf cl tv z2 rK K (CX cf z R) todo):=I.main;have cT:∀j,j<N.n->j=0\/(0<j/\((s j=.gone/\N.pr j=.stop)\/∃vs c v k,s j=.work vs/\N.pr j=.send c v k/\(c=cf\/c=cl))):=by
   intro j hj;refine(o8 j).imp id λhp=>⟨hp,?_⟩;have:=I.other j hp hj;rcases En (cf:=cf) (cl:=cl) (tv:=tv) (s j)with ⟨h1,h2⟩|⟨vs,h1,h2⟩;.exact .inl ⟨h1,this.trans h2⟩
   obtain⟨c,v,k,h3,h4⟩:=rX (cf:=cf) (cl:=cl) (tv:=tv) vs;exact .inr ⟨vs,c,v,k,h1,(this.trans h2).trans h3,h4⟩
  refine .step N (λj hj=>?_) (by rw[mg];simp) (λi c v p hi hp=>⟨I.opn c,?_⟩) (λj c ok z' p hj hp=>?_) (.inr (.inr (.inr ⟨0,_,_,I.n0,mg⟩)))
   (λi j c v p ok z' p' hi hj hp hq=>?_) (λi c p hi hp=>?_) (λi c p hi hp=>?_) (λj c ok z' p E' hj hp CB=>?_) (λi ch p hi hp=>?_)
  .rcases cT j hj with rfl|⟨_,⟨_,h⟩|⟨_,_,_,_,_,h,_⟩⟩;.rw[mg];simp
   .rw[h];simp
   rw[h];simp
  .rcases cT i hi with rfl|⟨_,⟨_,h⟩|⟨_,_,_,_,_,h,h'⟩⟩;.rw[mg]at hp;cases hp
   .rw[h]at hp;cases hp
   rw[h]at hp;cases hp;exact h'
  .rcases cT j hj with rfl|⟨_,⟨_,h⟩|⟨_,_,_,_,_,h,_⟩⟩;.rw[mg]at hp;cases hp
   .rw[h]at hp;cases hp
   rw[h]at hp;cases hp
  .rcases cT j hj with rfl|⟨_,⟨_,h⟩|⟨_,_,_,_,_,h,_⟩⟩;.rw[mg]at hq;cases hq
   .rw[h]at hq;cases hq
   rw[h]at hq;cases hq
  .rcases cT i hi with rfl|⟨_,⟨_,h⟩|⟨_,_,_,_,_,h,_⟩⟩;.rw[mg]at hp;cases hp
   .rw[h]at hp;cases hp
   rw[h]at hp;cases hp
  .rcases cT i hi with rfl|⟨_,⟨_,h⟩|⟨_,_,_,_,_,h,_⟩⟩;.rw[mg]at hp;cases hp
   .rw[h]at hp;cases hp
   rw[h]at hp;cases hp
  .rw[I.opn c]at CB;cases CB
  rcases cT i hi with rfl|⟨_,⟨_,h⟩|⟨_,_,_,_,_,h,_⟩⟩
  .rw[mg]at hp;cases hp;have hn:=I.n0;refine ih _ (upd s N.n (.work vs)) ⟨Nat.succ_pos _,?_,λj hj og=>?_,?_,λv=>?_,?_,I.opn,λj hj og hg=>?_⟩;.show upd (upd N.pr 0 _) N.n _ 0=_;rw[upd_ne _ _ (by omega),upd_same]
   .show upd (upd N.pr 0 _) N.n _ j=_;by_cases FD:j=N.n;.rw[FD,upd_same,upd_same];rfl
    have MW:j<N.n:=by have:j<N.n+1:=og;omega
    rw[upd_ne _ _ FD,upd_ne _ _ (by omega),upd_ne _ _ FD];exact I.other j hj MW
   .rw[upd_ne _ _ (by omega)];exact I.zero
   .show R.count v=_+sumTo (N.n+1) _;rw[tj (s:=s) (r:=.work vs) λr=>r.vals.count v];have:=I.cnt v;simp only[List.flatten_cons,List.count_append]at this;show _=_+(_+vs.count v);omega
   .show K=_+sumTo (N.n+1) _;rw[tj (s:=s) (r:=.work vs) Ro.one];have:=I.live;simp only[dw]at this;show _=_+(_+1);omega
   by_cases FD:j=N.n;.subst FD;rw[upd_same]at hg;cases hg
   have MW:j<N.n:=by have:j<N.n+1:=og;omega
   rw[upd_ne _ _ FD]at hg;show if 0=N.n then _ else N.D 0 j;rw[if_neg (by omega)];exact I.MT j hj MW hg
  .rw[h]at hp;cases hp
  rw[h]at hp;cases hp
theorem L5(hne:cf≠cl)(todo:List (List Value)){n:Nat}(hn:0<n):Ds (λc=>c=cf\/c=cl) (entry n (chain cf cl tv z2 rK todo.length (CX cf z todo.flatten) todo)):=by
 refine afW (tv:=tv) (z:=z) (z2:=z2) (rK:=rK) hne todo _ (λ_=>.gone) ⟨hn,rfl,λj hj og=>?_,rfl,λv=>?_,?_,λ_=>rfl,λj hj og _=>⟨hj,og⟩⟩
 .have:j≠0:=by omega
  simp[entry,this,Ro.pc]
 .rw[th λj hj=>by simp[Ro.vals]];simp
 rw[th λj hj=>by simp[Ro.one]];simp
end Go.Co
namespace Go.Co
open Go Go.Conc Go.Proofs
variable {aa:Machine->Trace->Prop} {main:Bool} {K:Gm->Goroutine->World->Prop} {p:Pc} {γ:So} {w:World}
def Mz(low up:List Int)(s:Int)(st:Int×Int×Int)(i:Nat):Int×Int×Int:=
 if(i:Int)+s<0\/(low.length:Int)<=i+s then st
 else if st.2.2=0 then(up.getD i 0+low.getD (i+s).toNat 0,up.getD i 0+low.getD (i+s).toNat 0,1)
 else(if up.getD i 0+low.getD (i+s).toNat 0<st.1 then up.getD i 0+low.getD (i+s).toNat 0 else st.1,if st.2.1<up.getD i 0+low.getD (i+s).toNat 0 then up.getD i 0+low.getD (i+s).toNat 0 else st.2.1,st.2.2+1)
def Dj(low up:List Int)(s:Int)(k:Nat):Int×Int×Int:=(List.range k).foldl (Mz low up s) (0,0,0)
def wW(low up:List Int)(s:Int):Int×Int×Int:=Dj low up s up.length
theorem uU(low up:List Int)(s:Int)(k:Nat):Dj low up s (k+1)=Mz low up s (Dj low up s k) k:=by simp[Dj,j4]
def Yy(l:List Int):Prop:=l.length<=1000/\∀(i:Nat)(x:Int),l[i]? =some x->0<=x/\x<=9
theorem Pt(low up:List Int)(s:Int)(k:Nat):0<=(Dj low up s k).2.2/\(Dj low up s k).2.2<=k:=by
 induction k with
 |zero=>simp[Dj]
 |succ k ih=>
  rw[uU];unfold Mz;split;.omega
  split<;>simp<;>omega
theorem Pq(low up:List Int)(s:Int)(h:s<=-(up.length:Int)\/(low.length:Int)<=s):∀k,k<=up.length->Dj low up s k=(0,0,0):=by
 intro k;induction k with
 |zero=>intro _;rfl
 |succ k ih=>intro hk;rw[uU,ih (by omega)];unfold Mz;rw[if_pos (by omega)]
theorem xG{n:Int}(h:-9223372036854775808<=n)(h':n<=9223372036854775807):IntKind.i64.wrap n=n:=by rw[IntKind.wrap_i64];omega
def afL(ua lb:Value)(A B:Option Addr)(ca cb:Nat)(low up:List Int)(s:Int)(bA bB:Nat)(st:Int×Int×Int)(k:Nat)(u:Nat->Value):Act:=
 ⟨#[.agg #[ua,.slice A low.length ca],.agg #[.slice B up.length cb,lb],.int .i64 s,.pointer (some ⟨bA,0,none⟩),.pointer (some ⟨bB,0,none⟩),u 5,.int .i64 st.1,.int .i64 st.2.1,.int .i64 st.2.2,u 9,u 10,u 11,u 12,u 13,u 14,u 15,u 16,u 17,u 18,u 19,u 20,u 21,u 22,u 23,u 24,u 25,u 26,.slice B up.length cb,.int .i64 up.length,.int .i64 k,u 30,u 31,u 32,u 33,u 34,u 35,u 36,u 37,u 38,u 39,u 40,u 41,u 42,u 43,u 44,u 45,u 46,u 47,u 48,u 49,u 50,u 51,u 52,u 53,u 54,u 55,u 56,u 57,u 58,u 59,u 60,u 61,u 62,u 63,u 64,u 65,u 66,u 67,u 68],[]⟩
def Tri(r:Int×Int×Int):Value:=.tuple #[.int .i64 r.1,.int .i64 r.2.1,.int .i64 r.2.2]
theorem aea(C:KC Try.prog main K CY HW)(hp:p≠.ret){ua ub la lb:Value}{low up:List Int}(s:Int)(hl:Au γ w la low)(hu:Au γ w ub up)(SY:Yy low)(Yj:Yy up):
  yU K Try.prog (p,γ) 51 #[.agg #[ua,la],.agg #[ub,lb],.int .i64 s] w λγ' v w'=>γ'.1=p/\v=Tri (wW low up s)/\Kept γ w γ'.2 w':=by
 refine Ex Try.func51 (by rfl) rfl ?_;simp only[Try.ntmps51,mF,dw,kX,Nat.reduceAdd,Nat.reduceSub,Array.replicate_succ,Array.replicate_zero,List.push_toArray,List.append_toArray,gQ,nM];refine bk C (cG C ?_);refine rD C hp (ob:=?ob1) rfl (by rfl) (λw=>run_eq_of λK hK=>?r1) (λw=>?e1) ?h1
 case r1=>go_simp;exact hK
 case e1=>simp[go_sem]
 intro w1 Tj;try walk_nrm
 have Fv:=(hl.rely Tj).alloc w1.heap.size (.cells #[ua,la] 67);have hu1:=(hu.rely Tj).alloc w1.heap.size (.cells #[ua,la] 67);have Yp:bJ _ _ ⟨w1.heap.size,1,none⟩ la:=bJ.fresh (γ:=γ) (w:=w1) (cs:=#[ua,la]) (t:=67) rfl rfl;have uk:=(Kept.rely Tj).trans (Kept.alloc γ w1 w1.heap.size (.cells #[ua,la] 67));refine rD C hp (ob:=?ob2) rfl (by rfl) (λw=>run_eq_of λK hK=>?r2) (λw=>?e2) ?h2
 case r2=>go_simp;exact hK
 case e2=>simp[go_sem]
 intro w2 SP;try walk_nrm
 have vA:=(Fv.rely SP).alloc w2.heap.size (.cells #[ub,lb] 67);have hu2:=(hu1.rely SP).alloc w2.heap.size (.cells #[ub,lb] 67);have OP:=(Yp.rely SP).alloc w2.heap.size (.cells #[ub,lb] 67);have MJ:bJ _ _ ⟨w2.heap.size,0,none⟩ ub:=bJ.fresh (γ:=γ.more w1.heap.size) (w:=w2) (cs:=#[ub,lb]) (t:=67) rfl rfl;have JY:=uk.trans ((Kept.rely SP).trans (Kept.alloc _ w2 w2.heap.size (.cells #[ub,lb] 67)));iterate 3 (refine aq C ?_;try walk_nrm)
 refine aU C ?_;refine bk C ?_;clear hl hu Fv hu1 Yp uk SP Tj;generalize(γ.more w1.heap.size).more w2.heap.size=γ2 at*;generalize w2.alloc (.cells #[ub,lb] 67)=W at*;generalize w2.heap.size=bB at*;generalize w1.heap.size=bA at*;obtain⟨A,ca,rfl,hA⟩:=vA;obtain⟨B,cb,rfl,hB⟩:=hu2;have O2:=SY.1;have UO:=Yj.1;have hwa:IntKind.i64.wrap (0-(up.length:Int))=-(up.length:Int):=by rw[xG]<;>omega
 have hwb:IntKind.i64.wrap (-(up.length:Int))=-(up.length:Int):=by rw[xG]<;>omega
 have Ko:∀(a:Act)(st:Int×Int×Int),a.defers=[]->a.tmps.getD 6 undef=.int .i64 st.1->a.tmps.getD 7 undef=.int .i64 st.2.1->a.tmps.getD 8 undef=.int .i64 st.2.2->st=wW low up s->Pd Try.prog Try.f51 (λ(γ':Gm)(v:Value)(w':World)=>γ'.1=p/\v=Tri (wW low up s)/\Kept γ w γ'.2 w') (p,γ2) .ret a W:=by
  intro a st hd h6 h7 h8 hst;refine⟨hd,Tri st,?_,rfl,by rw[hst],JY⟩;intro w';constructor;.simp at h6 h7 h8;simp[results,Try.results51,h6,h7,h8,Tri,go_sem]
  simp[results,Try.results51,go_sem]
 by_cases JN:s<=-(up.length:Int)
 .have YT:decide (s<=-(up.length:Int))=true:=by simpa using JN
  refine bk C (cG C ?_);iterate 2 (refine aq C ?_;try walk_nrm)
  refine jD C hp MJ ?_;try walk_nrm
  refine aq C ?_;try walk_nrm
  refine eE C (v:=?v10) rfl (by rfl) (λw=>run_eq_of λK hK=>?r10) (λw=>?e10) ?wO
  case r10=>go_simp;exact hK
  case e10=>simp[go_sem,Op.unary]
  iterate 2 (try walk_nrm;refine aq C ?_)
  iterate 5 (try walk_nrm;refine dG C rfl (by rfl) ?_)
  try walk_nrm
  refine aq C ?_;try walk_nrm
  refine aU C ?_;co_then;refine ep C (t:=true) rfl ?_;simp only[if_true];refine bk C (cG C ?_);iterate 3 (refine aq C ?_;try walk_nrm)
  refine aU C ?_;co_then;refine DY C ?_;co_then;exact Ko _ (0,0,0) rfl rfl rfl rfl (Pq low up s (by omega) _ (aj _)).symm
 have YT:decide (s<=-(up.length:Int))=false:=by simpa using JN
 by_cases hs2:(low.length:Int)<=s
 .have hd2:decide ((low.length:Int)<=s)=true:=by simpa using hs2
  refine bk C (cG C ?_);iterate 2 (refine aq C ?_;try walk_nrm)
  refine jD C hp MJ ?_;try walk_nrm
  refine aq C ?_;try walk_nrm
  refine eE C (v:=?v21) rfl (by rfl) (λw=>run_eq_of λK hK=>?r21) (λw=>?e21) ?h21
  case r21=>go_simp;exact hK
  case e21=>simp[go_sem,Op.unary]
  iterate 4 (try walk_nrm;refine aq C ?_)
  try walk_nrm
  refine jD C hp OP ?_;iterate 3 (try walk_nrm;refine aq C ?_)
  try walk_nrm
  refine aU C ?_;co_then;refine ep C (t:=true) rfl ?_;simp only[if_true];refine bk C (cG C ?_);iterate 3 (refine aq C ?_;try walk_nrm)
  refine aU C ?_;co_then;refine DY C ?_;co_then;exact Ko _ (0,0,0) rfl rfl rfl rfl (Pq low up s (by omega) _ (aj _)).symm
 have hd2:decide ((low.length:Int)<=s)=false:=by simpa using hs2
 refine bk C (cG C ?_);iterate 2 (refine aq C ?_;try walk_nrm)
 refine jD C hp MJ ?_;try walk_nrm
 refine aq C ?_;try walk_nrm
 refine eE C (v:=?v37) rfl (by rfl) (λw=>run_eq_of λK hK=>?r37) (λw=>?e37) ?h37
 case r37=>go_simp;exact hK
 case e37=>simp[go_sem,Op.unary]
 iterate 4 (try walk_nrm;refine aq C ?_)
 try walk_nrm
 refine jD C hp OP ?_;iterate 3 (try walk_nrm;refine aq C ?_)
 try walk_nrm
 refine aU C ?_;co_then;refine ep C (t:=false) rfl ?_;simp only[aG,if_false];refine kU C ?_;co_then;refine bk C (bk C (cG C ?_));refine aq C ?_;try walk_nrm
 refine jD C hp MJ ?_;iterate 2 (try walk_nrm;refine aq C ?_)
 try walk_nrm
 refine aU C ?_;co_then;refine gR C ?_;refine ql C (λn γ' a w'=>γ'=(p,γ2)/\w'=W/\∃k,k<=up.length/\n=up.length-k/\∃u,a=afL ua lb A B ca cb low up s bA bB (Dj low up s k) k u) (n:=up.length) ⟨rfl,rfl,0,by omega,by omega,qy rfl⟩ ?_;rintro n γ' a w' ⟨hγ,hw',k,hk,hn,u,ha⟩;subst hγ hw';have hN:=Pt low up s k;have hS:=uU low up s k;have hSk:∀r,Mz low up s (Dj low up s k) k=r->Dj low up s (k+1)=r:=λr h=>hS.trans h;clear hS;have afn:k=up.length->wW low up s=Dj low up s k:=λh=>by rw[h];rfl
 generalize Dj low up s k=st at*;unfold afL at ha;subst ha;refine bk C (cG C ?_);by_cases hlt:k<up.length
 .have hd3:decide ((k:Int)<(up.length:Int))=true:=by simpa using hlt
  obtain⟨x,hx⟩:∃x,up[k]? =some x:=⟨_,bQ hlt⟩;obtain⟨bd,hBe,hsB⟩:=hB k x hx;subst hBe;have hxb:=Yj.2 k x hx;have hw3:IntKind.i64.wrap ((k:Int)+s)=(k:Int)+s:=by rw[xG]<;>omega
  have hw5:IntKind.i64.wrap ((k:Int)+1)=(k:Int)+1:=by rw[xG]<;>omega
  have hgx:up.getD k 0=x:=by simp[List.getD,hx]
  refine aq C ?_;try walk_nrm
  refine aU C ?_;co_then;refine bk C (ep C (t:=true) rfl ?_);simp only[if_true];refine kU C ?_;co_then;refine bk C (gR C (bk C (cG C ?_)));iterate 2 (refine aq C ?_;try walk_nrm)
  refine jD C hp hsB ?_;iterate 2 (try walk_nrm;refine aq C ?_)
  try walk_nrm
  refine aU C ?_;co_then;refine bk C (cG C ?_);iterate 4 (refine aq C ?_;try walk_nrm)
  refine aU C ?_;co_then;refine bk C (bk C (cG C ?_));by_cases Dq:(k:Int)+s<0
  .have YS:decide ((k:Int)+s<0)=true:=by simpa using Dq
   iterate 3 (refine aq C ?_;try walk_nrm)
   iterate 5 (refine dG C rfl (by rfl) ?_;try walk_nrm)
   refine aq C ?_;try walk_nrm
   refine aU C ?_;co_then;refine ep C (t:=true) rfl ?_;simp only[if_true];refine oT C ?_;co_then;have hst:Mz low up s st k=st:=by unfold Mz;rw[if_pos (.inl Dq)]
   refine cG C ?_;iterate 2 (refine aq C ?_;try walk_nrm)
   refine aU C (eR ?_);refine⟨up.length-(k+1),by omega,rfl,rfl,k+1,by omega,rfl,qy ?_⟩;rw[hSk _ hst];rfl
  have YS:decide ((k:Int)+s<0)=false:=by simpa using Dq
  by_cases Aw:(low.length:Int)<=(k:Int)+s
  .have hd5:decide ((low.length:Int)<=(k:Int)+s)=true:=by simpa using Aw
   iterate 5 (refine aq C ?_;try walk_nrm)
   refine jD C hp OP ?_;iterate 3 (try walk_nrm;refine aq C ?_)
   try walk_nrm
   refine aU C ?_;co_then;refine ep C (t:=true) rfl ?_;simp only[if_true];refine oT C ?_;co_then;have hst:Mz low up s st k=st:=by unfold Mz;rw[if_pos (.inr Aw)]
   refine cG C ?_;iterate 2 (refine aq C ?_;try walk_nrm)
   refine aU C (eR ?_);refine⟨up.length-(k+1),by omega,rfl,rfl,k+1,by omega,rfl,qy ?_⟩;rw[hSk _ hst];rfl
  have hd5:decide ((low.length:Int)<=(k:Int)+s)=false:=by simpa using Aw
  iterate 5 (refine aq C ?_;try walk_nrm)
  refine jD C hp OP ?_;iterate 3 (try walk_nrm;refine aq C ?_)
  try walk_nrm
  refine aU C ?_;co_then;refine ep C (t:=false) rfl ?_;simp only[aG,if_false];refine kU C ?_;co_then;obtain⟨y,hy⟩:∃y,low[((k:Int)+s).toNat]? =some y:=⟨_,bQ (by omega)⟩;obtain⟨al,hAe,hsA⟩:=hA _ y hy;subst hAe;have hyb:=SY.2 _ y hy;have hw4:IntKind.i64.wrap (x+y)=x+y:=by rw[xG]<;>omega
  have hw6:IntKind.i64.wrap (st.2.2+1)=st.2.2+1:=by rw[xG]<;>omega
  have hgy:low.getD ((k:Int)+s).toNat 0=y:=by simp[List.getD,hy]
  have Dp:0<=(k:Int)+s:=by omega
  have hi1:(k:Int)+s<(low.length:Int):=by omega
  refine bk C (cG C ?_);iterate 2 (refine aq C ?_;try walk_nrm)
  refine jD C hp OP ?_;iterate 2 (try walk_nrm;refine aq C ?_)
  try walk_nrm
  refine jD C hp hsA ?_;iterate 2 (try walk_nrm;refine aq C ?_)
  try walk_nrm
  refine aU C ?_;co_then;refine bk C (bk C (cG C ?_));have acY:st.2.2=0->Mz low up s st k=(x+y,x+y,1):=by intro h0;unfold Mz;rw[if_neg (by omega),if_pos h0,hgx,hgy]
  have acX:st.2.2≠0->Mz low up s st k=(if x+y<st.1 then x+y else st.1,if st.2.1<x+y then x+y else st.2.1,st.2.2+1):=by intro h0;unfold Mz;rw[if_neg (by omega),if_neg h0,hgx,hgy]
  clear afn;obtain⟨s1,s2,s3⟩:=st;simp only at*;by_cases YU:s3=0
  .subst YU;have hst:=acY rfl;clear acY acX;iterate 2 (refine aq C ?_;try walk_nrm)
   refine aU C ?_;co_then;refine ep C (t:=true) rfl ?_;simp only[if_true];refine cG C ?_;iterate 4 (refine aq C ?_;try walk_nrm)
   refine aU C ?_;co_then;refine cG C ?_;iterate 2 (refine aq C ?_;try walk_nrm)
   refine eE C (v:=?afe) rfl (by rfl) (λw=>run_eq_of λK hK=>?r102) (λw=>?e102) ?aiV
   case r102=>go_simp;exact hK
   case e102=>simp[go_sem,tT]
   iterate 2 (try walk_nrm;refine aq C ?_)
   try walk_nrm
   refine eE C (v:=?v105) rfl (by rfl) (λw=>run_eq_of λK hK=>?r105) (λw=>?e105) ?aiU
   case r105=>go_simp;exact hK
   case e105=>simp[go_sem,tU]
   iterate 5 (try walk_nrm;refine aq C ?_)
   try walk_nrm
   refine aU C ?_;co_then;refine cG C ?_;iterate 2 (refine aq C ?_;try walk_nrm)
   refine aU C (eR ?_);refine⟨up.length-(k+1),by omega,rfl,rfl,k+1,by omega,rfl,qy ?_⟩;rw[hSk _ hst];rfl
  have hd6:decide (s3=0)=false:=by simpa using YU
  have aiQ:(s3==0)=false:=by simpa using YU
  have hst:=acX YU;clear acY acX;iterate 2 (refine aq C ?_;try walk_nrm)
  refine aU C ?_;co_then;refine ep C (t:=false) rfl ?_;simp only[aG,if_false];refine kU C ?_;co_then;refine cG C ?_;iterate 2 (refine aq C ?_;try walk_nrm)
  refine eE C (v:=?v117) rfl (by rfl) (λw=>run_eq_of λK hK=>?r117) (λw=>?e117) ?aiT
  case r117=>go_simp;exact hK
  case e117=>simp[go_sem,tT]
  iterate 2 (try walk_nrm;refine aq C ?_)
  try walk_nrm
  refine eE C (v:=?aiG) rfl (by rfl) (λw=>run_eq_of λK hK=>?r120) (λw=>?e120) ?aiS
  case r120=>go_simp;exact hK
  case e120=>simp[go_sem,tU]
  iterate 5 (try walk_nrm;refine aq C ?_)
  try walk_nrm
  refine aU C ?_;co_then;refine cG C ?_;iterate 2 (refine aq C ?_;try walk_nrm)
  refine aU C (eR ?_);refine⟨up.length-(k+1),by omega,rfl,rfl,k+1,by omega,rfl,qy ?_⟩;rw[hSk _ hst];rfl
 have OI:k=up.length:=by omega
 subst OI;have hd3:decide ((up.length:Int)<(up.length:Int))=false:=by simp
 refine aq C ?_;try walk_nrm
 refine aU C ?_;co_then;refine bk C (ep C (t:=false) rfl ?_);simp only[aG,if_false];refine oT C ?_;co_then;refine bk C (cG C ?_);iterate 6 (refine aq C ?_;try walk_nrm)
 refine aU C ?_;co_then;refine DY C ?_;exact Ko _ st rfl rfl rfl rfl (afn rfl).symm
end Go.Co
