import Derived.Test.YtedcgbkilmlbhaaPk28
import Derived.Conc.CompanyMem
import Derived.Conc.AppendWalk
import Derived.Laws.AppendOwn
import Derived.Below
import Derived.Test.YtedcgbkilmlbhaaPk22
import Derived.AtR
namespace Go.Co
open Go Go.Conc
open Go.ConcN (sumTo upd upd_same upd_ne)
variable {P:Program} {aa:Machine->Trace->Prop} {Cs:Nat->Prop}
def BO(n:Nat)(rk:Nat->Tr):List Tr:=(List.range n).map rk
theorem RR{n i:Nat}{rk:Nat->Tr}{r:Tr}(hi:i<n):BO n (upd rk i r)=(BO n rk).set i r:=by
 apply mD;intro j;unfold BO;rw[aF];by_cases hj:i=j;.subst hj;simp[hi,upd_same]
 by_cases og:j<n;.simp[hj,og,upd_ne _ _ (Ne.symm hj)]
 simp[hj,og]
theorem zI{n i:Nat}{rk:Nat->Tr}{r:Tr}(hi:i<n)(h:TLt r (rk i)):LLt (BO n (upd rk i r)) (BO n rk):=by rw[RR hi];exact .mk _ i (rk i) r (by simp[BO,hi]) h
variable {N:Net} {γ:Nat->So} {rk:Nat->Tr} {tp:Nat} {gs:Array Goroutine} {w:World} {t:Trace}
theorem yX(h:yz P aa Cs N γ rk tp gs w t){i:Nat}(hi:i<N.n):∃g,gs[i]? =some g:=by
 have:i<gs.size:=by rw[h.size];exact hi
 exact⟨gs[i],cr this⟩
theorem Wz(h:yz P aa Cs N γ rk tp gs w t)
  (hen:(∃i j c v k ok z k',i<N.n/\j<N.n/\N.pr i=.send c v k/\N.pr j=.recv c ok z k')\/(∃i c k,i<N.n/\N.pr i=.close c k)\/(∃j c ok z k E,j<N.n/\N.pr j=.recv c ok z k/\N.cl c=some E)\/(∃i ch k,i<N.n/\N.pr i=.go ch k)):
  ∃(i:Nat)(g:Goroutine),gs[i]? =some g/\g.status=.running:=by
 rcases hen with ⟨i,j,c,v,k,ok,z,k',hi,hj,Dl,yB⟩|⟨i,c,k,hi,hp⟩|⟨j,c,ok,z,k,E,hj,hp,hE⟩|⟨i,ch,k,hi,hp⟩
 .obtain⟨g,hg⟩:=yX h hi;obtain⟨g',ou⟩:=yX h hj;have hm:=h.mem i g hg;have HQ:=h.mem j g' ou;rw[Dl]at hm;rw[yB]at HQ;rcases hm.awake with e|e|e;.exact⟨i,g,hg,e⟩
  .rcases HQ.awake with e'|e'|e';.exact⟨j,g',ou,e'⟩
   .exact(h.apart i j c v k ok z k' g g' hg ou e e' Dl yB).elim
   generalize rk j=rj at HQ;cases HQ with
   |run p r g h1 h2=>rw[eC h2]at e';cases e'
   |recv _ _ _ _ g h1 h2=>cases e'
  generalize rk i=ri at hm;cases hm with
  |run p r g h1 h2=>rw[eC h2]at e;cases e
  |send _ _ _ g _ h1=>cases e
 .obtain⟨g,hg⟩:=yX h hi;have hm:=h.mem i g hg;rw[hp]at hm;generalize rk i=ri at hm;cases hm with
  |run p r g h1 h2=>exact⟨i,_,hg,eC h2⟩
 .obtain⟨g,hg⟩:=yX h hj;have hm:=h.mem j g hg;rw[hp]at hm;generalize rk j=rj at hm;cases hm with
  |run p r g h1 h2=>exact⟨j,_,hg,eC h2⟩
  |recv _ _ _ _ g h1 h2=>rw[h.open_ j c ok z k _ hg rfl hp]at hE;cases hE
 obtain⟨g,hg⟩:=yX h hi;have hm:=h.mem i g hg;rw[hp]at hm;generalize rk i=ri at hm;cases hm with
 |run p r g h1 h2=>exact⟨i,_,hg,eC h2⟩
end Go.Co
namespace Go.Co
open Go Go.Conc
open Go.ConcN (sumTo upd upd_same upd_ne)
variable {P:Program} {aa:Machine->Trace->Prop} {Cs:Nat->Prop}
theorem Sj(hP:Plain P){N:Net}(hW:Ds Cs N):∀(γ:Nat->So)(rk:Nat->Tr)(tp:Nat)(gs:Array Goroutine)(w:World)(sl:Option (Nat×Nat))(t:Trace),yz P aa Cs N γ rk tp gs w t->Yx P aa (crowd gs w sl) t:=by
 induction hW with
 |done N h0 hd=>exactλγ rk tp gs w sl t h=>Xv h h0 hd
 |step N hno h0 hsend hrecv hen ab1 ah5 agt agy hstart ihm ihs ihh ihg=>
  intro γ rk tp gs w sl t h;have acc:=Qg (BO N.n rk);generalize hl:BO N.n rk=l at acc;induction acc generalizing γ rk tp gs w sl t with
  |intro l _ ih=>
   subst hl;have S6:∀g∈gs,awake g:=by intro x hx;obtain⟨i,hi,rfl⟩:=Array.mem_iff_getElem.1 hx;exact awake_of ((h.mem i _ (cr hi)).awake)
   obtain⟨i,g,d,sl',hi,hg,hst⟩:=crowd_pick (P:=P) (w:=w) (sl:=sl) S6 (Wz h hen);have pz:i<N.n:=by rw[<-h.size];exact(aL.1 hi).1
   have hm:=h.mem i g hi;generalize hrk:rk i=r at hm;generalize Tq:N.pr i=p at hm;have h2:=Ng h hno d;cases hm with
   |stop n g h3 h4=>
    cases n with
    |zero=>rw[h4.1]at hg;cases hg
    |succ n=>
     rcases h4 with ⟨hf,_⟩|⟨_,g',es,hmu,TY,hq⟩;.rw[hf]at hg;cases hg
     obtain⟨hrun,rA⟩:=WA (sl:=sl') h2 hi Tq h3 hmu TY hq hsend hrecv;rw[hrun]at hst;exact ja hst (ih _ (zI pz (by rw[hrk];exact ZT n)) _ _ _ _ _ sl' _ rA rfl)
   |ret r g h3 h4 h5=>exact absurd Tq (hno i pz).1
   |send c v k g z h3=>cases hg
   |recv c ok z k g h3 h4=>cases hg
   |run p r0 g kP hG=>
    subst Tq;cases r0 with
    |node f=>obtain⟨g',w',es,γ',e1,hS,hG'⟩:=hG.2 (w.at d) (AL _ _ _);obtain⟨hrun,rA⟩:=Wy (sl:=sl') hP h hno hsend hrecv hi kP e1 hS hG';rw[hrun]at hst;exact ja hst (ih _ (zI pz (by rw[hrk];exact ad5 f (w.at d))) _ _ _ _ _ sl' _ rA rfl)
    |leaf=>
     have hS:=hG (w.at d) (AL _ _ _);cases hp:N.pr i with
     |stop=>exact absurd hp kP.1
     |ret=>exact absurd hp kP.2.1
     |bad=>exact absurd hp kP.2.2
     |send c v k=>
      rw[hp]at hS;obtain⟨Dq,Aw⟩:=hsend i c v k pz hp;rcases WC (sl:=sl') h hno hi hp Dq Aw hS.1 hS.2 (λj ok z kr hj hr=>ab1 i j c v k ok z kr pz hj hp hr)with ⟨gs',hrun,rA⟩|⟨N',gs',w',ops,F8,hrun,-,⟨j,ok,z,kr,hj,hr,rfl⟩,rA⟩;.rw[hrun]at hst;refine ja hst ?_;rw[Array.append_empty];exact ih _ (zI pz (by rw[hrk];exact KN)) _ _ _ _ _ sl' _ (Ng rA hno d) rfl
      rw[hrun]at hst;exact ja hst (ihm i j c v k ok z kr pz hj hp hr _ _ _ _ _ sl' _ rA)
     |recv c ok z kr=>
      rw[hp]at hS hG;have ov:=hrecv i c ok z kr pz hp;have hS0:=hG w (iZ _ _);cases tY:N.cl c with
      |none=>
       rcases WE (sl:=sl') h hno hi hp tY ov hS.1 (λw1 h1=>(hG w1 h1).1) hS0.2 (λj v k hj hs=>ab1 j i c v k ok z kr hj pz hs hp)with ⟨gs',hrun,rA⟩|⟨N',gs',w',ops,F8,hrun,-,⟨j,v,k,hj,hs,rfl⟩,rA⟩;.rw[hrun]at hst;refine ja hst ?_;rw[Array.append_empty];exact ih _ (zI pz (by rw[hrk];exact KN)) _ _ _ _ _ sl' _ (Ng rA hno d) rfl
       rw[hrun]at hst;exact ja hst (ihm j i c v k ok z kr hj pz hs hp _ _ _ _ _ sl' _ rA)
      |some E=>obtain⟨gs',ops,F8,hrun,rA⟩:=WG (sl:=sl') (d:=d) h2 hsend hi hp tY ov hS.1 hS.2 (agy i c ok z kr E pz hp tY);have hrun:runT P (crowd gs (w.at d) sl') i=_:=hrun;rw[hrun]at hst;exact ja hst (ihh i c ok z kr E pz hp tY _ _ _ _ _ sl' _ rA)
     |close c k=>
      rw[hp]at hS;obtain⟨-,hmw,g',Ar,hstep,hk⟩:=hS;obtain⟨Dq,Aw⟩:=ah5 i c k pz hp;have hw:=agt i c k pz hp;have HP:∀j v k',j<N.n->N.pr j≠.send c v k':=by
       intro j v k' hj e;have ic:j≠i:=by rintro rfl;rw[hp]at e;cases e
       have e':(N.shut i c k).pr j=.send c v k':=(upd_ne _ _ ic).trans e;have tY:(N.shut i c k).cl c≠none:=by show upd N.cl c _ c≠none;rw[upd_same];simp
       cases hw with
       |done _ h3 h4=>
        by_cases QV:j=0;.rw[QV,h3]at e';cases e'
        rw[(h4 j (by omega) hj).1]at e';cases e'
       |step _ _ _ h5=>exact tY (h5 j c v k' hj e').1
      obtain⟨gs',w',ops,F8,hrun,rA⟩:=WB (sl:=sl') (d:=d) hP h2 hno hsend hrecv hi hp Dq Aw hmw Ar hstep hk HP hw;have hrun:runT P (crowd gs (w.at d) sl') i=_:=hrun;rw[hrun]at hst;exact ja hst (ihs i c k pz hp _ _ _ _ _ sl' _ rA)
     |go ch k=>rw[hp]at hS;obtain⟨wM,g',x0,Ar,e1,ME,hch,hk⟩:=hS;obtain⟨gs',ops,F8,hrun,rA⟩:=RD (sl:=sl') (d:=d) hP h2 hi hp e1 Ar ME hch hk (hstart i ch k pz hp);have hrun:runT P (crowd gs (w.at d) sl') i=_:=hrun;rw[hrun]at hst;exact ja hst (ihg i ch k pz hp _ _ _ _ _ sl' _ rA)
end Go.Co
namespace Go.Co
open Go Go.Conc
open Go.ConcN (sumTo upd upd_same upd_ne)
variable {P:Program} {aa:Machine->Trace->Prop} {Cs:Nat->Prop}
def entry(n:Nat)(p:Pc):Net:=⟨n,λj=>if j=0 then p else .stop,λ_ j=>0<j/\j<n,λ_=>none⟩
theorem aeE(hP:Plain P){p:Pc}{S O:Nat->Prop}{g:Goroutine}{w:World}(hp:p.live)(rL:Pr P aa true p (S,O) g w)
  (hSO:∀b,O b->¬S b) (Rc:∀b,S b\/O b->b<w.heap.size)
  (hc:∀c,Cs c->(∃s tm,w.heap[c]? =some (.chan 0 #[] false s s tm))/\¬S c/\¬O c)
  (hW:∀n,0<n->Ds Cs (entry n p)):jk P aa () g w:=by
 intro d hf hr hd gs sl t q h0 hL Kp;have hlt:0<gs.size:=(aL.1 h0).1;obtain⟨r,hG⟩:=PM hp rL;have hG:=Ey Gg hG (AL (S,O) w d);have hno:∀i a,t.size<=i->touchAt t i=some a->False:=by intro i a hi ha;obtain⟨x,hx,-⟩:=touch_of ha;have:=(aL.1 hx).1;omega
 have kP:∀j,(entry gs.size p).pr j≠.stop->j=0:=by
  intro j hj;by_cases h:j=0;.exact h
  exact absurd (by simp[entry,h]) hj
 have aiN:(entry gs.size p).pr 0=p:=rfl;have hγ:∀j b,((if j=0 then((S,O):So)else(λ_=>False,λ_=>False)).1 b->j=0/\S b)/\((if j=0 then((S,O):So)else(λ_=>False,λ_=>False)).2 b->j=0/\O b):=by intro j b;by_cases h:j=0<;>simp[h]
 refine Sj hP (hW gs.size hlt) (λj=>if j=0 then(S,O)else(λ_=>False,λ_=>False)) (λj=>if j=0 then r.up else Tr.nat (q j)) t.size gs (w.at d) sl t
  ⟨rfl,hlt,λj x hx=>?_,⟨Kp.clean,λj hj=>?_,λi a j hi ha hm hj og=>?_,λi a b j hi ha=>(hno i a hi ha).elim,λi a b j hi ha=>(hno i a hi ha).elim,λi a b hi ha=>(hno i a hi ha).elim,λi a hi ha=>(hno i a hi ha).elim,λi j hi hg=>?_,λi a j x hi ha=>(hno i a hi ha).elim,λc E hE=>(by cases hE),λj j' b hb=>?_,λj b hb=>?_,λc E j hE=>(by cases hE),λx j hj=>?_,aj _⟩,λc hcc=>?_,λj c ok z k x hx hb yB=>rfl,λi j c v k ok z k' x y hx hy hbx=>?_,λx hx=>?_⟩
 .by_cases h:j=0;.subst h;rw[h0]at hx;cases hx;have:=Mem.run (P:=P) (aa:=aa) (j:=0) (d:=Deaf t 0) (γ:=(S,O)) (w:=w.at d) p r g hp hG;simpa [entry]using this
  have:=Mem.stop (P:=P) (aa:=aa) (j:=j) (d:=Deaf t j) (γ:=((λ_=>False,λ_=>False):So)) (w:=w.at d) (q j) x h (hL.old j x (by omega) hx);simpa [entry,h]using this
 .rcases hj with hj|hj;.rw[kP j hj];exact Kp.hears
  exact hL.above j hj
 .rw[kP j hj];exact Kp.known i a ha hm
 .unfold Trace.g? at hg;obtain⟨z,hz,-⟩:=af.1 hg;have:=(aL.1 hz).1;omega
 .obtain⟨rfl,hO⟩:=(hγ j b).2 hb;refine⟨λhS=>hSO b hO ((hγ j' b).1 hS).2,λhne pE=>hne ((hγ j' b).2 pE).1.symm⟩
 .rcases hb with hb|hb;.exact Rc b (.inl ((hγ j b).1 hb).2)
  exact Rc b (.inr ((hγ j b).2 hb).2)
 .refine⟨hj.2,?_⟩;have:j≠0:=by have:=hj.1;omega
  simp[entry,this]
 .obtain⟨h1,h2,h3⟩:=hc c hcc;refine⟨h1,λj=>⟨λh=>h2 ((hγ j c).1 h).2,λh=>h3 ((hγ j c).2 h).2⟩⟩
 .intro hby Dl yB;have h1:=kP i (by rw[Dl];simp);have h2:=kP j (by rw[yB];simp);subst h1;subst h2
  rw[Dl]at yB;cases yB
 rw[h0]at hx;cases hx;exact hf
variable {fn:FuncId} {γ:So} {c:Code} {a:Act} {w:World}
theorem Ix{g:Goroutine}(hd:g.dying=none)(h:jk P aa () g w):KG P aa true (.ret,γ) g w:=λ_ _=>⟨hd,h⟩
theorem UI{g:Goroutine}(h:KG P aa true (.ret,γ) g w):jk P aa () g w:=(h (λh=>by cases h) (by simp)).2
theorem ae6{b:Frame}{k:List Item}{cs:List Frame}{e:Exit}{a:Act}{w:World}(h:CO (KG P aa true) b k cs (.ret,γ) e a w):CO (jk P aa) b k cs () e a w:=by
 cases e with
 |normal=>exact UI h
 |exit id=>obtain⟨k',h1,h2⟩:=h;exact⟨k',h1,UI h2⟩
 |ret=>exactλtodo=>UI (h todo)
 |goto l=>exact h
 |panic ch=>exact h
 |outgrown=>exact h
theorem abn{b:Frame}{k:List Item}{cs:List Frame}{e:Exit}{a:Act}{w:World}(h:CO (jk P aa) b k cs () e a w):CO (KG P aa true) b k cs (.ret,γ) e a w:=by
 cases e with
 |normal=>exact Ix rfl h
 |exit id=>obtain⟨k',h1,h2⟩:=h;exact⟨k',h1,Ix rfl h2⟩
 |ret=>exactλtodo=>Ix rfl (h todo)
 |goto l=>exact h
 |panic ch=>exact h
 |outgrown=>exact h
theorem XK{Q:Gm->Exit->Act->World->Prop}(h:KJ (jk P aa) fn () c (λ_=>Q (.ret,γ)) a w):KJ (KG P aa true) fn (.ret,γ) c Q a w:=
 λb k cs hb hk hc=>Ix rfl (h b k cs hb hk λ_ e a' w' q=>ae6 (hc _ e a' w' q))
theorem XJ(hP:Plain P){p:Pc}{S O:Nat->Prop}{Q:Exit->Act->World->Prop}(hp:p.live)
  (hSO:∀b,O b->¬S b) (Rc:∀b,S b\/O b->b<w.heap.size)
  (hc:∀c,Cs c->(∃s tm,w.heap[c]? =some (.chan 0 #[] false s s tm))/\¬S c/\¬O c)
  (hW:∀n,0<n->Ds Cs (entry n p))
  (h:KJ (KG P aa true) fn (p,(S,O)) c (λγ' e a' w'=>γ'.1=.ret/\Q e a' w') a w):KJ (jk P aa) fn () c (λ_=>Q) a w:=by
 intro b k cs hb hk ah8;refine aeE hP hp (h b k cs hb hk (λγ' e a' w' q=>?_) (λh=>by cases h) hp.1) hSO Rc hc hW;obtain⟨p',γ'⟩:=γ';obtain⟨rfl,q⟩:=q;exact abn (ah8 () e a' w' q)
end Go.Co
namespace Go.Co
open Go Go.Conc
variable {P:Program} {aa:Machine->Trace->Prop} {main:Bool} {K:Gm->Goroutine->World->Prop} {fn:FuncId} {p:Pc} {γ:So} {Q:Gm->Exit->Act->World->Prop} {a:Act} {w:World} {ops:Array Oper} {i:Nat} {rest:List Nat} {o:Oper}
theorem YG(hp:p≠.ret){w1:World}(h:CY (p,γ) w w1):jv γ w w1:=by unfold CY at h;cases p<;>first|exact h|exact absurd rfl hp
theorem stg(hp:p≠.ret){s:So}{w':World}{es:Array Event}(h:JS γ w s w' es):HW (p,γ) w (p,s) w' es:=by refine⟨rfl,?_⟩;cases p<;>first|exact h|exact absurd rfl hp
def Rg(P:Program)(aa:Machine->Trace->Prop)(γ:Gm)(g:Goroutine)(w:World):Prop:=γ.1=.bad->∀w1,jv γ.2 w w1->jk P aa () g w1
theorem aaO(hP:Plain P):KC P true (Rg P aa) CY HW where
 step:=λγ fr cs w h hb w0 r0=>by obtain⟨p,γ⟩:=γ;simp only at hb;subst hb;refine(zb hP).step () fr cs w0 λw1 h1=>?_;obtain⟨d,rfl⟩:=h1;obtain⟨fr',lG,w',es,γ',e,⟨tI,-⟩,hk⟩:=h (w0.at d) (iE r0 (AL γ w0 d));exact⟨fr',lG,w',es,(),e,trivial,hk tI w' (iZ _ _)⟩
 idle:=(BQ (aa:=aa) (main:=true) hP).idle
 rely:=λγ g w w1 r h hb w2 r2=>by obtain⟨p,γ⟩:=γ;exact h hb w2 (iE (YG (by simp only at hb;subst hb;simp) r) r2)
theorem aaM{c:Code}{Q:Gm->Exit->Act->World->Prop}{Q':Exit->Act->World->Prop}(hq:∀γ' e a w w1,Q γ' e a w->jv γ'.2 w w1->γ'.1=.bad->Q' e a w1)(h:KJ (Rg P aa) fn (.bad,γ) c (λγ' e a w=>γ'.1=.bad/\Q γ' e a w) a w):KJ (jk P aa) fn () c (λ_=>Q') a w:=by
 intro b k cs hb hk hc;refine h b k cs hb hk (λγ' e a' w' q=>?_) rfl w (iZ _ _);have fN:∀w1,jv γ'.2 w' w1->CO (jk P aa) b k cs () e a' w1:=λw1 r=>hc () e a' w1 (hq _ _ _ _ _ q.2 r q.1);cases e with
 |normal=>exactλ_ w1 r=>fN w1 r
 |exit id=>obtain⟨k',h1,-⟩:=fN w' (iZ _ _);refine⟨k',h1,λ_ w1 r=>?_⟩;obtain⟨k2,h2,h3⟩:=fN w1 r;rw[h1]at h2;cases h2;exact h3
 |ret=>exactλtodo _ w1 r=>fN w1 r todo
 |goto l=>exact(fN w' (iZ _ _)).elim
 |panic ch=>exact(fN w' (iZ _ _)).elim
 |outgrown=>exact(fN w' (iZ _ _)).elim
theorem tU{es:Array Event}(ts:Array TypeId)(t:TypeId)(k k':IntKind)(x y:Int):(Builtin.max_ ts t #[.int k x,.int k' y]).events P w es=es:=by simp[Builtin.max_,Builtin.max2]
theorem tT{es:Array Event}(ts:Array TypeId)(t:TypeId)(k k':IntKind)(x y:Int):(Builtin.min_ ts t #[.int k x,.int k' y]).events P w es=es:=by simp[Builtin.min_,Builtin.min2]
theorem eE(C:KC P main K CY HW){γ:Gm}{v:Value}(ho:ops[i]? =some o)(hw:Region.wanted o (yielded ops a.tmps)=true)(hrun:∀w,(execOp a.eval o).run P w=.ok (.value v) w)(wU:∀w,(execOp a.eval o).events P w #[]=#[])
  (h:KO K fn γ ops rest Q (a.put o.dst v) w):KO K fn γ ops (i::rest) Q a w:=
 y9 C ho hw λw₁ r=>by rw[hrun w₁];exact⟨γ,by rw[listed_nil (wU w₁)];exact C.idle _ _,Ji C r h⟩
theorem aq(C:KC P main K CY HW){γ:Gm}{v:Value}(h:KO K fn γ ops rest Q (a.put o.dst v) w)(ho:ops[i]? =some o:=by rfl)(hw:Region.wanted o (yielded ops a.tmps)=true:=by rfl)(hrun:∀w,(execOp a.eval o).run P w=.ok (.value v) w:=by exactλw=>run_eq_of λK hK=>(by go_simp;exact hK))(wU:∀w,(execOp a.eval o).events P w #[]=#[]:=by intro w;first|(simp[go_sem];done)|(simp[go_sem, *];done)):KO K fn γ ops (i::rest) Q a w:=eE C ho hw hrun wU h
theorem Nx(C:KC P main K CY HW)(hp:p≠.ret)(ho:ops[i]? =some o)(hw:Region.wanted o (yielded ops a.tmps)=true)
  (h:∀w₁,jv γ w w₁->∃v w' s,(execOp a.eval o).run P w₁=.ok (.value v) w'/\JS γ w₁ s w' (listed P fn a o w₁)/\KO K fn (p,s) ops rest Q (a.put o.dst v) w'):KO K fn (p,γ) ops (i::rest) Q a w:=
 y9 C ho hw λw₁ r=>by obtain⟨v,w',s,h1,h2,h3⟩:=h w₁ (YG hp r);rw[h1];exact⟨(p,s),stg hp h2,h3⟩
theorem rC(C:KC P main K CY HW)(hp:p≠.ret){v:Value}(ho:ops[i]? =some o)(hw:Region.wanted o (yielded ops a.tmps)=true)
  (hrun:∀w₁,jv γ w w₁->(execOp a.eval o).run P w₁=.ok (.value v) w₁/\∀e∈(execOp a.eval o).events P w₁ #[],YZ γ.1 γ.2 e) (h:KO K fn (p,γ) ops rest Q (a.put o.dst v) w):KO K fn (p,γ) ops (i::rest) Q a w:=
 Nx C hp ho hw λw₁ r=>⟨v,w₁,γ,(hrun w₁ r).1,⟨rfl,KU λe he=>(hrun w₁ r).2 e (mem_listed he)⟩,Ji C (by unfold CY;cases p<;>first|exact r|exact absurd rfl hp) h⟩
def So.more (γ:So)(n:Nat):So:=(γ.1,λb=>γ.2 b\/b=n)
theorem Z2(ob:Obj):JS γ w (γ.more w.heap.size) (w.alloc ob) #[]:=by
 have hsz:(w.alloc ob).heap.size=w.heap.size+1:=by simp
 refine⟨rfl,λb=>?_,by omega,λb hb _=>RowKit.Below.heap_alloc _ _ _ hb,rfl,rfl,rfl,by simp⟩;show γ.2 b\/b=w.heap.size↔_;rw[hsz];refine or_congr_right ?_;omega
theorem Iv(C:KC P main K CY HW)(hp:p≠.ret){f:Nat->Value}{ob:Obj}(ho:ops[i]? =some o)(hw:Region.wanted o (yielded ops a.tmps)=true)
  (hrun:∀w,(execOp a.eval o).run P w=.ok (.value (f w.heap.size)) (w.alloc ob)) (wU:∀w,(execOp a.eval o).events P w #[]=#[])
  (h:∀w₁,jv γ w w₁->KO K fn (p,γ.more w₁.heap.size) ops rest Q (a.put o.dst (f w₁.heap.size)) (w₁.alloc ob)):KO K fn (p,γ) ops (i::rest) Q a w:=
 Nx C hp ho hw λw₁ r=>⟨_,_,_,hrun w₁,by rw[listed_nil (wU w₁)];exact Z2 ob,h w₁ r⟩
theorem rD(C:KC P main K CY HW)(hp:p≠.ret){ob:Obj}(ho:ops[i]? =some o)(hw:Region.wanted o (yielded ops a.tmps)=true)
  (hrun:∀w,(execOp a.eval o).run P w=.ok (.value (.pointer (some ⟨w.heap.size,0,none⟩))) (w.alloc ob)) (wU:∀w,(execOp a.eval o).events P w #[]=#[])
  (h:∀w₁,jv γ w w₁->KO K fn (p,γ.more w₁.heap.size) ops rest Q (a.put o.dst (.pointer (some ⟨w₁.heap.size,0,none⟩))) (w₁.alloc ob)):KO K fn (p,γ) ops (i::rest) Q a w:=
 Iv C hp (f:=λn=>.pointer (some ⟨n,0,none⟩)) ho hw hrun wU h
theorem Vz(C:KC P main K CY HW)(hp:p≠.ret){ob:Obj}{n:Nat}(ho:ops[i]? =some o)(hw:Region.wanted o (yielded ops a.tmps)=true)
  (hrun:∀w,(execOp a.eval o).run P w=.ok (.value (.slice (some ⟨w.heap.size,0,none⟩) n n)) (w.alloc ob)) (wU:∀w,(execOp a.eval o).events P w #[]=#[])
  (h:∀w₁,jv γ w w₁->KO K fn (p,γ.more w₁.heap.size) ops rest Q (a.put o.dst (.slice (some ⟨w₁.heap.size,0,none⟩) n n)) (w₁.alloc ob)):KO K fn (p,γ) ops (i::rest) Q a w:=
 Iv C hp (f:=λm=>.slice (some ⟨m,0,none⟩) n n) ho hw hrun wU h
theorem Z1{ad:Addr}{v:Value}{es:Array Event}(hO:γ.2 ad.block)(hes:∀e∈es,YZ γ.1 γ.2 e):JS γ w γ (w.setCell ad v) es:=by have hsz:(w.setCell ad v).heap.size=w.heap.size:=World.size_setCell ..;refine⟨rfl,λb=>⟨.inl,λh=>h.elim id λh=>absurd h.2 (by omega)⟩,by omega,λb _ hn=>?_,rfl,rfl,rfl,hes⟩;exact heap_setCell_other _ _ _ _ (λe=>hn (e▸hO))
theorem Nw(C:KC P main K CY HW)(hp:p≠.ret){ad:Addr}{v:Value}(ho:ops[i]? =some o)(hw:Region.wanted o (yielded ops a.tmps)=true)(hO:γ.2 ad.block)
  (hrun:∀w₁,jv γ w w₁->(execOp a.eval o).run P w₁=.ok .skip (w₁.setCell ad v)/\∀e∈(execOp a.eval o).events P w₁ #[],e=⟨.cell ad,true,false⟩)
  (h:∀w₁,jv γ w w₁->KO K fn (p,γ) ops rest Q (a.put o.dst undef) (w₁.setCell ad v)):KO K fn (p,γ) ops (i::rest) Q a w:=
 y9 C ho hw λw₁ r=>by obtain⟨h1,h2⟩:=hrun w₁ (YG hp r);rw[h1];refine⟨(p,γ),stg hp (Z1 hO λe he=>?_),h w₁ (YG hp r)⟩;rw[h2 e (mem_listed he)];exact .inl ⟨ad,true,false,rfl,λ_=>hO,.inr hO⟩
theorem ql{Γ:Type}{K:Γ->Goroutine->World->Prop}{Rl:Γ->World->World->Prop}{St:Γ->World->Γ->World->Array Event->Prop}{γ:Γ}{Q:Γ->Exit->Act->World->Prop}(C:KC P main K Rl St){c:Code}(I:Nat->Γ->Act->World->Prop){n:Nat}(h₀:I n γ a w)
  (round:∀n γ a w,I n γ a w->KJ K fn γ c (λγ'=>Exit.then (λa' w'=>∃m,m<n/\I m γ' a' w') (Q γ')) a w):KJ K fn γ (.loop c) Q a w:=by
 intro b k cs hb hk hc;have key:∀n γ a w,I n γ a w->K γ (G (b.at a (.code c::.inLoop c::k)) cs) w:=by
  intro n;induction n using Nat.strongRecOn with
  |ind n ih=>
   intro γ a w hI;refine round n γ a w hI b (.inLoop c::k) cs hb hk λγ' e a' w' q=>?_;cases e with
   |normal=>obtain⟨m,hm,q⟩:=q;exact C.go (λ_=>stepG_inLoop) (ih m hm γ' a' w' q)
   |exit id=>exact(hc _ _ _ _ q).push rfl (by simp)
   |ret=>exact CO.push (x:=.inLoop c) rfl (by simp) (hc _ _ _ _ q)
   |goto l=>exact hc _ _ _ _ q
   |panic ch=>exact hc _ _ _ _ q
   |outgrown=>exact hc _ _ _ _ q
 exact C.go (λ_=>stepG_loop) (key n γ a w h₀)
theorem qy{F:(Nat->Value)->Act}(h:a=F λn=>a.tmps.getD n undef):∃u,a=F u:=⟨_,h⟩
theorem eR{N:Act->World->Prop}{R:Exit->Act->World->Prop}(h:N a w):Exit.then N R .normal a w:=h
def bJ(γ:So)(w:World)(ad:Addr)(v:Value):Prop:=γ.all ad.block/\w.cell? ad=some v
theorem bJ.rely {ad:Addr}{v:Value}{w1:World}(h:bJ γ w ad v)(r:jv γ w w1):bJ γ w1 ad v:=
 ⟨h.1,(World.cell?_of_block (r.2.1 ad.block h.1)).trans h.2⟩
theorem bJ.lt {ad:Addr}{v:Value}(h:bJ γ w ad v):ad.block<w.heap.size:=World.block_lt_of_cell? w ad h.2
theorem bJ.alloc {ad:Addr}{v:Value}(h:bJ γ w ad v)(n:Nat)(ob:Obj):bJ (γ.more n) (w.alloc ob) ad v:=
 ⟨h.1.imp id .inl,(World.cell?_alloc_lt w ob ad h.lt).trans h.2⟩
theorem bJ.put {ad ad':Addr}{v v':Value}(h:bJ γ w ad v)(hne:ad'≠ad):bJ γ (w.setCell ad' v') ad v:=
 ⟨h.1,(World.cell?_setCell_other w ad' ad v' hne).trans h.2⟩
theorem bJ.JQ {ad:Addr}{v:Value}(h:bJ γ w ad v):YZ γ.1 γ.2 ⟨.cell ad,false,false⟩:=.inl ⟨ad,false,false,rfl,λh=>(by cases h),h.1⟩
theorem bJ.fresh {w:World}{n j:Nat}{cs:Array Value}{t:TypeId}{v:Value}(hn:n=w.heap.size)(h:cs[j]? =some v):bJ (γ.more n) (w.alloc (.cells cs t)) ⟨n,j,none⟩ v:=by subst hn;exact⟨.inr (.inr rfl),by rw[World.cell?_alloc_new,h]⟩
theorem jD(C:KC P main K CY HW)(hp:p≠.ret){v:Value}{ad:Addr}{x:Value}(hs:bJ γ w ad x)(h:KO K fn (p,γ) ops rest Q (a.put o.dst v) w)(ho:ops[i]? =some o:=by rfl)(hw:Region.wanted o (yielded ops a.tmps)=true:=by rfl)(hrun:∀w₁:World,w₁.cell? ad=some x->(execOp a.eval o).run P w₁=.ok (.value v) w₁:=by exactλw₁ hc=>run_eq_of λK hK=>(by go_simp;exact hK))(wU:∀w₁:World,w₁.cell? ad=some x->YZ γ.1 γ.2 ⟨.cell ad,false,false⟩->∀e∈(execOp a.eval o).events P w₁ #[],YZ γ.1 γ.2 e:=by intro w₁ hc hv e he;simp[go_sem,hc]at he;subst he;exact hv):KO K fn (p,γ) ops (i::rest) Q a w:=
 rC C hp ho hw (λw₁ r=>⟨hrun w₁ (hs.rely r).2,wU w₁ (hs.rely r).2 (hs.rely r).JQ⟩) h
theorem cG{Γ:Type}{K:Γ->Goroutine->World->Prop}{Rl:Γ->World->World->Prop}{St:Γ->World->Γ->World->Array Event->Prop}{γ:Γ}{Q:Γ->Exit->Act->World->Prop}(C:KC P main K Rl St){id:Nat}{L:List Nat}(h:KO K fn γ ops L Q a w)(hL:List.range ops.size=L:=by conv=>lhs;simp only[mF,dw,kX,Nat.reduceAdd,jr,List.range,List.range.loop]):KJ K fn γ (.region id ops false) Q a w:=Bq C (hL▸h)
def Au(γ:So)(w:World)(v:Value)(l:List Int):Prop:=∃A cap,v=.slice A l.length cap/\∀i x,l[i]? =some x->∃ad,A=some ad/\bJ γ w (ad.add i) (.int .i64 x)
theorem Au.rely {v:Value}{l:List Int}{w1:World}(h:Au γ w v l)(r:jv γ w w1):Au γ w1 v l:=by obtain⟨A,cap,rfl,h⟩:=h;exact⟨A,cap,rfl,λi x hx=>by obtain⟨ad,h1,h2⟩:=h i x hx;exact⟨ad,h1,h2.rely r⟩⟩
theorem Au.alloc {v:Value}{l:List Int}(h:Au γ w v l)(n:Nat)(ob:Obj):Au (γ.more n) (w.alloc ob) v l:=by obtain⟨A,cap,rfl,h⟩:=h;exact⟨A,cap,rfl,λi x hx=>by obtain⟨ad,h1,h2⟩:=h i x hx;exact⟨ad,h1,h2.alloc n ob⟩⟩
structure Kept (γ:So) (w:World) (γ':So) (w':World):Prop where
 shr:γ'.1=γ.1
 own:∀b,γ.2 b->γ'.2 b
 blk:∀b,γ.all b->b<w.heap.size->w'.heap[b]? =w.heap[b]?
 size:w.heap.size<=w'.heap.size
 env:w'.os=w.os/\w'.output=w.output
theorem Kept.all {γ':So}{w':World}(h:Kept γ w γ' w'){b:Nat}(hb:γ.all b):γ'.all b:=hb.imp (by rw[h.shr];exact id) (h.own b)
theorem Kept.refl (γ:So)(w:World):Kept γ w γ w:=⟨rfl,λ_ h=>h,λ_ _ _=>rfl,aj _,rfl,rfl⟩
theorem Kept.trans {γ' γ'':So}{w' Tg:World}(h:Kept γ w γ' w')(k:Kept γ' w' γ'' Tg):Kept γ w γ'' Tg:=
 ⟨k.shr.trans h.shr,λb hb=>k.own b (h.own b hb),λb hb hlt=>(k.blk b (h.all hb) (dM hlt h.size)).trans (h.blk b hb hlt),bp h.size k.size,k.env.1.trans h.env.1,k.env.2.trans h.env.2⟩
theorem Kept.rely {w1:World}(r:jv γ w w1):Kept γ w γ w1:=⟨rfl,λ_ h=>h,λb hb _=>r.2.1 b hb,r.1,r.2.2.2⟩
theorem Kept.alloc (γ:So)(w:World)(n:Nat)(ob:Obj):Kept γ w (γ.more n) (w.alloc ob):=⟨rfl,λ_ h=>.inl h,λb _ hlt=>RowKit.Below.heap_alloc _ _ _ hlt,by simp,rfl,rfl⟩
theorem Kept.sees {γ':So}{w':World}(h:Kept γ w γ' w'){ad:Addr}{v:Value}(s:bJ γ w ad v):bJ γ' w' ad v:=
 ⟨h.all s.1,(World.cell?_of_block (h.blk ad.block s.1 s.lt)).trans s.2⟩
theorem Kept.HO {γ':So}{w':World}(h:Kept γ w γ' w'){v:Value}{l:List Int}(s:Au γ w v l):Au γ' w' v l:=by obtain⟨A,cap,rfl,s⟩:=s;exact⟨A,cap,rfl,λi x hx=>by obtain⟨ad,h1,h2⟩:=s i x hx;exact⟨ad,h1,h.sees h2⟩⟩
end Go.Co
namespace Go.Co
open Go Go.Conc
variable {P:Program} {aa:Machine->Trace->Prop} {fn:FuncId} {γ:So} {a:Act} {w:World} {ops:Array Oper} {i:Nat} {rest:List Nat} {o:Oper}
theorem Mj(hP:Plain P){b:Frame}{k:List Item}{cs:List Frame}(hk:b.kind≠.early){f:FuncId}{args:Array Operand}{ats:Array TypeId}{R:Value->World->Prop}
  (ho:ops[i]? =some o) (hw:Region.wanted o (yielded ops a.tmps)=true) (hop:o.op=.call {callee:=.value (.func f),args,argTypes:=ats}) {vB:Func} {c:Code} (hf:P.funcs[f]? =some vB) (hb:vB.body=some c)
  (mh:∀τ,Calls P f (args.map a.eval) (w.re τ 0) λe w'=>∃v,e=.returned v/\R v w') (eY:∀v w',R v w'->∀τ d,jk P aa () (G (b.at (a.put o.dst v) (.inRegion ops rest::k)) cs) (w'.re τ d)):jk P aa () (G (b.at a (.inRegion ops (i::rest)::k)) cs) w:=by
 refine Qj hP λ_ τ=>?_;obtain⟨e,w',fr,⟨v,rfl,hR⟩,NB,Tw,lE⟩:=mh τ (b.at a (.inRegion ops (i::rest)::k)::cs);have agD:=eY v w' hR;have yN:=hP.count f vB hf;have hstep:step P (lone (b.at a (.inRegion ops (i::rest)::k)) cs (w.re τ 0))=.next (lone (Frame.enter P f (args.map a.eval) .normal) (b.at a (.inRegion ops (i::rest)::k)::cs) (w.re τ 0)):=by
  refine step_lone_go ?_;have:=goes_call (P:=P) (main:=true) (b:=b) (k:=k) (cs:=cs) (w:=w.re τ 0) (K:=λg w' es=>g=G ((base f).at {tmps:=args.map a.eval++Array.replicate (vB.ntmps-(args.map a.eval).size) undef,defers:=[]} [.code c]) (b.at a (.inRegion ops (i::rest)::k)::cs)/\w'=w.re τ 0/\es=#[]) ho hw hk hop hf yN hb ⟨rfl,rfl,rfl⟩;obtain⟨g',w2,es,e1,e2,e3,e4⟩:=goes_elim this;subst e2 e3 e4;have NA:Frame.enter P f (args.map a.eval) .normal=(base f).at {tmps:=args.map a.eval++Array.replicate (vB.ntmps-(args.map a.eval).size) undef,defers:=[]} [.code c]:=by simp[Frame.enter,Frame.at,hf,hb,base]
  rw[NA];show(stepG P true (G (b.at a (.inRegion ops (i::rest)::k)) cs) (w.re τ 0)).bare=_;rw[e1];rfl
 have UX:step P (lone fr (b.at a (.inRegion ops (i::rest)::k)::cs) w')=.next (lone (b.at (a.put o.dst v) (.inRegion ops rest::k)) cs w'):=by rw[step_leave_returned lE,Frame.finish_at,ho];rfl
 have aeH:Steps P (lone (b.at a (.inRegion ops (i::rest)::k)) cs (w.re τ 0)) (lone (b.at (a.put o.dst v) (.inRegion ops rest::k)) cs w'):=
  (Steps.one hstep).trans (Steps.trans NB (Steps.one UX))
 obtain⟨n,hn⟩:=aeH;exact⟨n,_,w',hn,rfl,rfl,λτ d=>agD τ d⟩
theorem aay(hP:Plain P){Q:Unit->Exit->Act->World->Prop}{f:FuncId}{args:Array Operand}{ats:Array TypeId}{R:Value->World->Prop}
  (ho:ops[i]? =some o) (hw:Region.wanted o (yielded ops a.tmps)=true) (hop:o.op=.call {callee:=.value (.func f),args,argTypes:=ats}) {vB:Func} {c:Code} (hf:P.funcs[f]? =some vB) (hb:vB.body=some c)
  (mh:∀τ,Calls P f (args.map a.eval) (w.re τ 0) λe w'=>∃v,e=.returned v/\R v w') (eY:∀v w',R v w'->∀τ d,KO (jk P aa) fn () ops rest Q (a.put o.dst v) (w'.re τ d)):KO (jk P aa) fn () ops (i::rest) Q a w:=
 λb k cs hbf hk hc=>Mj hP hk ho hw hop hf hb mh λv w' hR τ d=>eY v w' hR τ d b k cs hbf hk hc
theorem Od{f:FuncId}{args:Array Value}{Post:Gm->Value->World->Prop}{Post':Value->World->Prop}(hq:∀γ' v w w1,Post γ' v w->γ'.1=.bad->jv γ'.2 w w1->Post' v w1)
  (h:yU (Rg P aa) P (.bad,γ) f args w (λγ' v w=>γ'.1=.bad/\Post γ' v w)):yU (jk P aa) P () f args w (λ_=>Post'):=by
 obtain⟨vB,c,h1,h2,h3,h4⟩:=h;refine⟨vB,c,h1,h2,h3,?_⟩;refine aaM (Q:=λγ'=>Pd P vB Post γ') (λγ' e a w w1 q r hb=>?_) (za h4 λγ' e a w q=>?_)
 .cases e with
  |normal=>obtain⟨hd,v,hr,hp⟩:=q;exact⟨hd,v,hr,hq _ _ _ _ hp hb r⟩
  |ret=>obtain⟨hd,v,hr,hp⟩:=q;exact⟨hd,v,hr,hq _ _ _ _ hp hb r⟩
  |exit id=>exact q
  |goto l=>exact q
  |panic ch=>exact q
  |outgrown=>exact q
 cases e with
 |normal=>obtain⟨hd,v,hr,hb,hp⟩:=q;exact⟨hb,hd,v,hr,hp⟩
 |ret=>obtain⟨hd,v,hr,hb,hp⟩:=q;exact⟨hb,hd,v,hr,hp⟩
 |exit id=>exact q.elim
 |goto l=>exact q.elim
 |panic ch=>exact q.elim
 |outgrown=>exact q.elim
end Go.Co
namespace Go.Di
open Go Go.Conc Go.Co
variable {P:Program} {aa:Machine->Trace->Prop} {ty:fP} {x:Cx} {aI:bS} {call:bt} {yf:ew}
theorem jq(hP:Plain P){fr:Frame}{cs:List Frame}{w:World}(h:∀d,∃fr' lG w' es,stepG P true (G fr cs) (w.at d)=.go (G fr' lG) w' es/\jk P aa () (G fr' lG) w'):jk P aa () (G fr cs) w:=
 (zb hP).step () fr cs w λw1 h1=>by obtain⟨d,rfl⟩:=h1;obtain⟨fr',lG,w',es,e,hk⟩:=h d;exact⟨fr',lG,w',es,(),e,trivial,hk⟩
theorem Kj{g:Goroutine}{w:World}(h:jk P aa () g w)(d:Nat):jk P aa () g (w.at d):=λd'=>h d'
theorem gl(hP:Plain P){fr fr':Frame}{cs lG:List Frame}{w:World}(h:∀w,∃es,stepG P true (G fr cs) w=.go (G fr' lG) w es)(hk:jk P aa () (G fr' lG) w):jk P aa () (G fr cs) w:=
 jq hP λd=>by obtain⟨es,e⟩:=h (w.at d);exact⟨fr',lG,_,es,e,Kj hk d⟩
section agm
variable {b:Frame} {a:Act} {k:List Item} {cs:List Frame} {w:World}
theorem aai:stepG P true (G (b.atR a (.code .skip::k)) cs) w=.go (G (b.atR a k) cs) w #[]:=by simp[G,stepG,stepG.exec,Frame.atR]
theorem W7{l:Nat}:stepG P true (G (b.atR a (.code (.label l)::k)) cs) w=.go (G (b.atR a k) cs) w #[]:=by simp[G,stepG,stepG.exec,Frame.atR]
theorem N3{id:Nat}:stepG P true (G (b.atR a (.inBlock id::k)) cs) w=.go (G (b.atR a k) cs) w #[]:=by simp[G,stepG,stepG.exec,Frame.atR]
theorem N2{c:Code}:stepG P true (G (b.atR a (.inScope c::k)) cs) w=.go (G (b.atR a k) cs) w #[]:=by simp[G,stepG,stepG.exec,Frame.atR]
theorem aen{x y:Code}:stepG P true (G (b.atR a (.code (.seq x y)::k)) cs) w=.go (G (b.atR a (.code x::.code y::k)) cs) w #[]:=by simp[G,stepG,stepG.exec,Frame.atR]
theorem PL{c:Operand}{x y:Code}{t:Bool}(h:a.eval c=.bool t):stepG P true (G (b.atR a (.code (.cond c x y)::k)) cs) w=.go (G (b.atR a (.code (if t then x else y)::k)) cs) w #[]:=by have:=congrFun (Frame.eval_atR b a (.code (.cond c x y)::k)) c;simp only[Frame.atR]at this;simp[G,stepG,stepG.exec,Frame.atR,this,h]
theorem W9{id:Nat}{c:Code}:stepG P true (G (b.atR a (.code (.block id c)::k)) cs) w=.go (G (b.atR a (.code c::.inBlock id::k)) cs) w #[]:=by simp[G,stepG,stepG.exec,Frame.atR]
theorem W5{c:Code}:stepG P true (G (b.atR a (.code (.scope c)::k)) cs) w=.go (G (b.atR a (.code c::.inScope c::k)) cs) w #[]:=by simp[G,stepG,stepG.exec,Frame.atR]
theorem aaj{c:Code}:stepG P true (G (b.atR a (.code (.loop c)::k)) cs) w=.go (G (b.atR a (.code c::.inLoop c::k)) cs) w #[]:=by simp[G,stepG,stepG.exec,Frame.atR]
theorem RU{c:Code}:stepG P true (G (b.atR a (.inLoop c::k)) cs) w=.go (G (b.atR a (.code c::.inLoop c::k)) cs) w #[]:=by simp[G,stepG,stepG.exec,Frame.atR]
theorem aak{id:Nat}{k':List Item}(h:exitTo id k=some k'):stepG P true (G (b.atR a (.code (.exit id)::k)) cs) w=.go (G (b.atR a k') cs) w #[]:=by simp[G,stepG,stepG.exec,Frame.atR,h]
theorem RS{id:Nat}{ops:Array Oper}:stepG P true (G (b.atR a (.code (.region id ops false)::k)) cs) w=.go (G (b.atR a (.inRegion ops (List.range ops.size)::k)) cs) w #[]:=by simp[G,stepG,stepG.exec,Frame.atR]
theorem N1{id:Nat}{ops:Array Oper}(hm:P.follows .mixedOrders=true):stepG P true (G (b.atR a (.code (.region id ops true)::k)) cs) w=.go (G (b.atR a (.inRegion ops (Region.linearise .any ops (w.tape w.drawn (.order b.fn id)))::k)) cs) (w.at (w.drawn+1)) #[]:=by simp[G,stepG,stepG.exec,Frame.atR,choose,Sem.run,Question.forced,Question.cut,Region.schedule,hm,World.at]
theorem rI{ops:Array Oper}:stepG P true (G (b.atR a (.inRegion ops []::k)) cs) w=.go (G (b.atR a k) cs) w #[]:=by simp[G,stepG,stepG.exec,Frame.atR]
def P4(o:Op):Bool:=match o with|.defer _=>false|_=>true
theorem I4{ops:Array Oper}{i:Nat}{rest:List Nat}{o:Oper}(ho:ops[i]? =some o)(hw:Region.wanted o (yielded ops a.tmps)=true)(hd:P4 o.op=true):
  stepG P true (G (b.atR a (.inRegion ops (i::rest)::k)) cs) w=stepG.apply P true (b.atR a (.inRegion ops (i::rest)::k)) cs none (execOp a.eval o) w:=by
 have he:=Frame.eval_atR b a (.inRegion ops (i::rest)::k);simp only[Frame.atR]at he;have h1:stepG P true (G (b.atR a (.inRegion ops (i::rest)::k)) cs) w=stepG.oper P true (b.atR a (.inRegion ops (i::rest)::k)) cs none w:=by simp[G,stepG,stepG.exec,Frame.atR,ho,hw]
 rw[h1];unfold stepG.oper;have hop:(b.atR a (.inRegion ops (i::rest)::k)).oper?=some o:=by simp[Frame.oper?,Frame.atR,ho]
 simp only[hop];have wU:(b.atR a (.inRegion ops (i::rest)::k)).eval=a.eval:=Frame.eval_atR b a _;split;.rename_i l c h2 h3;rw[h3]at hd;cases hd
 rw[wU]
theorem vg{ops:Array Oper}{i:Nat}{rest:List Nat}{o:Oper}(ho:ops[i]? =some o)(hw:Region.wanted o (yielded ops a.tmps)=false):
  stepG P true (G (b.atR a (.inRegion ops (i::rest)::k)) cs) w=.go (G (b.atR (a.put o.dst undef) (.inRegion ops rest::k)) cs) w #[]:=by
 have hf:=Frame.finish_atR b a ops i rest k undef;simp only[ho,cq]at hf;rw[<-hf];simp[G,stepG,stepG.exec,Frame.atR,ho,hw]
end agm
theorem Sl(hP:Plain P){b:Frame}{a:Act}{k:List Item}{cs:List Frame}{ops:Array Oper}{i:Nat}{rest:List Nat}{o:Oper}{d:DV}{S':ai}(hk:b.kind≠.early)
  (ho:ops[i]? =some o) (hw:Region.wanted o (yielded ops a.tmps)=true) (hd:P4 o.op=true) (hy:∀n,Yields (x.dr n) ((execOp a.eval o).run P (x.w.at n)) d S')
  (eY:∀y v,y.S=S'->Rel y->bU x y->RV y d v->jk P aa () (G (b.atR (a.put o.dst v) (.inRegion ops rest::k)) cs) y.w):jk P aa () (G (b.atR a (.inRegion ops (i::rest)::k)) cs) x.w:=by
 refine jq hP λn=>?_;obtain⟨v,y,h1,h2,h3,h4,h5⟩:=hy n;have hf:=Frame.finish_atR b a ops i rest k;simp only[ho,cq]at hf;have rq:(b.kind==CallKind.early)=false:=by simpa using hk
 rw[I4 ho hw hd];rcases h1 with h1|⟨h1,rfl⟩;.refine⟨b.atR (a.put o.dst v) (.inRegion ops rest::k),cs,y.w,seen P b.fn ((execOp a.eval o).events P (x.w.at n) #[]),?_,eY y v h2 h3 ((fJ x n).trans h4) h5⟩;rw[<-hf];simp[stepG.apply,h1,G,Frame.atR,rq,GStep.after]
 refine⟨b.atR (a.put o.dst undef) (.inRegion ops rest::k),cs,y.w,seen P b.fn ((execOp a.eval o).events P (x.w.at n) #[]),?_,eY y undef h2 h3 ((fJ x n).trans h4) h5⟩;rw[<-hf];simp[stepG.apply,h1,G,Frame.atR,rq,GStep.after]
end Go.Di
namespace Go.Di
open Go Go.Conc Go.Co
variable {P:Program} {aa:Machine->Trace->Prop} {ty:fP} {x:Cx} {aI:bS} {call:bt} {yf:ew}
theorem xR{env:List DV}{a:Act}(h:iw x env a.tmps):yK x (jy env) a.eval:=by
 intro o d ho;cases o with
 |tmp t=>
  simp only[jy,aB]at ho;subst ho;by_cases ht:t<env.length;.have:=h.2 t env[t] (bQ ht);simpa [Act.eval,aR,ht]using this
  have h1:env[t]? =none:=fu (zn ht);have h2:a.tmps[t]? =none:=mG (by rw[h.1];exact zn ht);have:a.eval (.tmp t)=undef:=by simp[Act.eval,bq,h2]
  rw[this,aR,h1];exact .val rfl
 |const v=>exact zD ho
 |func f=>simp only[jy,aB]at ho;subst ho;exact .fn rfl rfl (by simp) (by simp)
 |global g=>cases ho
theorem Px{env:List DV}{arr:Array Value}(h:iw x env arr){t:Nat}{d:DV}{v:Value}(hd:RV x d v):iw x (env.set t d) (arr.setIfInBounds t v):=by
 refine⟨by simpa using h.1,λj c hc=>?_⟩;rw[aF]at hc;by_cases hj:t=j
 .subst hj;rw[if_pos rfl]at hc;split at hc
  .rename_i hlt;simp only[aB]at hc;subst hc;have:t<arr.size:=by rw[h.1];exact hlt
   simpa [bq,this]using hd
  cases hc
 rw[if_neg hj]at hc;have:=h.2 j c hc;simpa [bq,Array.getElem?_setIfInBounds,hj]using this
theorem AM{env:List DV}{a:Act}(h:iw x env a.tmps){dst:Option Tmp}{d:DV}{v:Value}(hd:RV x d v):iw x (kC env dst d) (a.put dst v).tmps/\(a.put dst v).defers=a.defers:=by
 cases dst with
 |none=>exact⟨h,rfl⟩
 |some t=>exact⟨Px h hd,rfl⟩
theorem A1{env:List DV}{a:Act}(h:iw x env a.tmps)(ops:Array Oper)(o:Oper):Region.wanted o (yielded ops a.tmps)=cI ops env o:=by
 unfold Region.wanted cI;cases o.guard with
 |none=>rfl
 |some g=>
  obtain⟨j,want⟩:=g;simp only[yielded];cases hb:(ops[j]?).bind (·.dst)with
  |none=>rfl
  |some t=>
   simp only[cq];by_cases ht:t<env.length
   .have h1:=bQ ht;have hr:=h.2 t env[t] h1;have h2:t<a.tmps.size:=by rw[h.1];exact ht
    rw[h1,cr h2];simp only[bq,cr h2,mC]at hr;generalize env[t]=d at hr;generalize a.tmps[t]=v at hr;cases hr with
    |@val v hv=>cases v<;>first|rfl|(simp only;cases want<;>rfl)|(rename_i b;cases b<;>cases want<;>rfl)
    |_=>cases want<;>rfl
   rw[fu (zn ht),mG (by rw[h.1];exact zn ht)];cases want<;>rfl
def fL(P:Program)(aa:Machine->Trace->Prop)(x:Cx)(g:FuncId)(vals:Array Value)(Post:Cx->Value->Prop):Prop:=
 (∃fn c,P.funcs[g]? =some fn/\fn.body=some c)/\∀(fr:Frame)(cs:List Frame),(∀y v,Post y v->jk P aa () (G (fr.finish v) cs) y.w)->jk P aa () (G (Frame.enter P g vals .normal) (fr::cs)) x.w
theorem fL.mono {g:FuncId}{vals:Array Value}{Post Post':Cx->Value->Prop}(h:fL P aa x g vals Post)(hp:∀y v,Post y v->Post' y v):fL P aa x g vals Post':=
 ⟨h.1,λfr cs hc=>h.2 fr cs λy v p=>hc y v (hp y v p)⟩
theorem fL.at {g:FuncId}{vals:Array Value}{Post:Cx->Value->Prop}(h:fL P aa x g vals Post)(n:Nat):fL P aa (x.dr n) g vals Post:=
 ⟨h.1,λfr cs hc=>Kj (h.2 fr cs hc) n⟩
def iC(P:Program)(aa:Machine->Trace->Prop)(call:bt):Prop:=
 ∀f args S v S',call f args S=some (v,S')->∀x vals,Rel x->x.S=S->iw x args vals->fL P aa x f vals λy u=>y.S=S'/\Rel y/\bU x y/\RV y v u
def B2(P:Program)(aa:Machine->Trace->Prop)(aI:bS):Prop:=
 ∀f args v,aI f args=some v->args.all DV.pure=true->v.pure=true/\∀x vals,Rel x->iw x args vals->fL P aa x f vals λy u=>y.S=x.S/\Rel y/\bU x y/\RV y v u
def BZ(P:Program)(aa:Machine->Trace->Prop)(yf:ew):Prop:=
 ∀id args S v S',yf id args S=some (v,S')->∀x vals,Rel x->x.S=S->iw x args vals->∃lo:Loop,x.w.heap[x.μ id]? =some (.loop lo)/\vals.size=lo.params.size/\
  ∀(fr:Frame)(cs:List Frame),(∀y u,(y.S=S'/\Rel y/\bU x y/\RV y v u)->jk P aa () (G (fr.finish u) cs) y.w)->jk P aa () (G (Frame.round (x.μ id) lo.fn ((lo.params.zip vals).foldl (λtmps (t,a)=>tmps.setIfInBounds t a) lo.tmps) lo.assign lo.body .normal) (fr::cs)) x.w
theorem X8(hc:iC P aa call)(hi:B2 P aa aI){g:FuncId}{args:List DV}{S S':ai}{v:DV}(h:xh aI call g args S=some (v,S')){vals:Array Value}(hR:Rel x)(hS:x.S=S)(ha:iw x args vals):
  fL P aa x g vals λy u=>y.S=S'/\Rel y/\bU x y/\RV y v u:=by
 unfold xh at h;split at h
 .rename_i hp;split at h;.rename_i v' h1;cases h;subst hS;refine(hi _ _ _ h1 hp).2 x vals hR ⟨by simpa using ha.1,λj c hj=>?_⟩;simp only[cR,af]at hj;obtain⟨c',h2,rfl⟩:=hj;exact(ha.2 j c' h2).strip
  exact hc _ _ _ _ _ h x vals hR hS ha
 exact hc _ _ _ _ _ h x vals hR hS ha
theorem ny{l m:List DV}{a b:Array Value}(h:iw x l a)(k:iw x m b):iw x (l++m) (a++b):=by
 refine⟨by simp[h.1,k.1],λj c hc=>?_⟩;simp only[bq];by_cases hj:j<l.length;.rw[er hj]at hc;rw[zA (by rw[h.1];exact hj)];simpa [bq]using h.2 j c hc
 rw[iu (by omega)]at hc;rw[zB (by rw[h.1];omega),h.1];simpa [bq]using k.2 _ c hc
theorem Lp(hP:Plain P){b:Frame}{a:Act}{k:List Item}{cs:List Frame}{ops:Array Oper}{i:Nat}{rest:List Nat}{o:Oper}{g:FuncId}{fs vs:Array Value}{c:Call}{f:Operand}{Post:Cx->Value->Prop}(hk:b.kind≠.early)
  (ho:ops[i]? =some o) (hw:Region.wanted o (yielded ops a.tmps)=true) (hop:o.op=.call c) (adb:c.callee=.value f) (hf:a.eval f=.func (.func g) fs vs) (he:fL P aa x g (fs++c.args.map a.eval++vs) Post)
  (eY:∀y v,Post y v->jk P aa () (G (b.atR (a.put o.dst v) (.inRegion ops rest::k)) cs) y.w):jk P aa () (G (b.atR a (.inRegion ops (i::rest)::k)) cs) x.w:=by
 refine jq hP λn=>?_;have xL:=Frame.finish_atR b a ops i rest k;simp only[ho,cq]at xL;have rq:(b.kind==CallKind.early)=false:=by simpa using hk
 rw[I4 ho hw (by rw[hop];rfl)];obtain⟨⟨fn,cd,h1,h2⟩,h3⟩:=he;have yN:=hP.count g fn h1;have hrun:(execOp a.eval o).run P (x.w.at n)=.ok (.enter g (fs++c.args.map a.eval++vs)) (x.w.at n):=by unfold execOp;simp only[hop,resolve,adb,hf,Deferred.ofValue,Sem.run_bind,Sem.run_pure,Result.andThen_ok,invoke,callFunc,run_program,h1,yN,aG,if_false,h2,Option.isNone_some]
 refine⟨Frame.enter P g (fs++c.args.map a.eval++vs) .normal,b.atR a (.inRegion ops (i::rest)::k)::cs,x.w.at n,seen P b.fn ((execOp a.eval o).events P (x.w.at n) #[]),?_,Kj (h3 _ cs λy v hp=>?_) n⟩;.simp[stepG.apply,hrun,G,Frame.atR,rq,GStep.after]
 rw[xL];exact eY y v hp
theorem Xw(hP:Plain P){b:Frame}{a:Act}{k:List Item}{cs:List Frame}{ops:Array Oper}{i:Nat}{rest:List Nat}{o:Oper}{l:Nat}{lo:Loop}{c:Call}{f:Operand}{Post:Cx->Value->Prop}(hk:b.kind≠.early)
  (ho:ops[i]? =some o) (hw:Region.wanted o (yielded ops a.tmps)=true) (hop:o.op=.call c) (adb:c.callee=.value f) (hf:a.eval f=.func (.yield l) #[] #[]) (hl:x.w.heap[l]? =some (.loop lo)) (hsz:(c.args.map a.eval).size=lo.params.size)
  (he:∀(fr:Frame)(cs:List Frame),(∀y u,Post y u->jk P aa () (G (fr.finish u) cs) y.w)->jk P aa () (G (Frame.round l lo.fn ((lo.params.zip (c.args.map a.eval)).foldl (λtmps (t,a)=>tmps.setIfInBounds t a) lo.tmps) lo.assign lo.body .normal) (fr::cs)) x.w)
  (eY:∀y v,Post y v->jk P aa () (G (b.atR (a.put o.dst v) (.inRegion ops rest::k)) cs) y.w):jk P aa () (G (b.atR a (.inRegion ops (i::rest)::k)) cs) x.w:=by
 refine jq hP λn=>?_;have xL:=Frame.finish_atR b a ops i rest k;simp only[ho,cq]at xL;have rq:(b.kind==CallKind.early)=false:=by simpa using hk
 rw[I4 ho hw (by rw[hop];rfl)];have hg:=jO (P:=P) (w:=x.w.at n) (show(x.w.at n).heap[l]? =some (.loop lo)from hl) (by simp);have hrun:(execOp a.eval o).run P (x.w.at n)=.ok (.round l lo.fn ((lo.params.zip (c.args.map a.eval)).foldl (λtmps (t,a)=>tmps.setIfInBounds t a) lo.tmps) lo.assign lo.body) (x.w.at n):=by
  have hne:¬((#[]++c.args.map a.eval).size≠lo.params.size):=by simpa using hsz
  unfold execOp;simp only[hop,resolve,adb,hf,Deferred.ofValue,Sem.run_bind,Sem.run_pure,Result.andThen_ok,invoke,Instr.yield,Instr.getLoop,hg,if_neg hne];simp
 refine⟨Frame.round l lo.fn _ lo.assign lo.body .normal,b.atR a (.inRegion ops (i::rest)::k)::cs,x.w.at n,seen P b.fn ((execOp a.eval o).events P (x.w.at n) #[]),?_,Kj (he _ cs λy v hp=>?_) n⟩;.simp[stepG.apply,hrun,G,Frame.atR,rq,GStep.after]
 rw[xL];exact eY y v hp
theorem UF(hP:Plain P)(fG:kG P ty)(hc:iC P aa call)(hi:B2 P aa aI)(lX:BZ P aa yf){b:Frame}{a:Act}{k:List Item}{cs:List Frame}{ops:Array Oper}{i:Nat}{rest:List Nat}{o:Oper}{d:DV}{S':ai}{env:List DV}{aD:Nat}(hk:b.kind≠.early)
  (ho:ops[i]? =some o) (hw:Region.wanted o (yielded ops a.tmps)=true) (hR:Rel x) (hn:Fy x.S aD) (he:iw x env a.tmps) (h:ah P ty aI call yf (jy env) o x.S aD=some (d,S'))
  (eY:∀y v,y.S=S'->Rel y->bU x y->RV y d v->jk P aa () (G (b.atR (a.put o.dst v) (.inRegion ops rest::k)) cs) y.w):jk P aa () (G (b.atR a (.inRegion ops (i::rest)::k)) cs) x.w:=by
 by_cases hl:Op.lone o.op=true;.refine Sl hP hk ho hw ?_ (λn=>Rz fG (hR.dr n) hn (xR (he.mono (fJ x n))) hl h) eY;cases hop:o.op<;>first|rfl|(simp[ah,hop]at h)
 obtain⟨c,hop⟩:∃c,o.op=.call c:=by cases hop:o.op<;>first|(exact⟨_,rfl⟩)|(exact absurd (by rw[hop];rfl) hl)
 obtain⟨callee,args,ats⟩:=c;cases callee with
 |builtin bi=>exact absurd (by rw[hop];rfl) hl
 |invoke r m=>simp[ah,hop]at h
 |value f=>
  simp only[ah,hop]at h;have wU:=xR he;split at h
  .rename_i g fs lG xs hf QO;have hfv:=wU f _ hf;have mY:=xQ wU QO;generalize hv:a.eval f=vf at hfv;cases hfv with
   |@fn _ _ _ vfs vcs h1 h2 h3 h4=>
    have fN:iw x (fs++xs++lG) (vfs++args.map a.eval++vcs):=by have e:(args.toList.map a.eval).toArray=args.map a.eval:=Array.toList_inj.1 (by simp);rw[e]at mY;exact ny (ny ⟨h1,h3⟩ mY) ⟨h2,h4⟩
    split at h;.exact Lp hP hk ho hw hop rfl hv (hc _ _ _ _ _ h x _ hR rfl fN) λy v hp=>eY y v hp.1 hp.2.1 hp.2.2.1 hp.2.2.2
    exact Lp hP hk ho hw hop rfl hv (X8 hc hi h hR rfl fN) λy v hp=>eY y v hp.1 hp.2.1 hp.2.2.1 hp.2.2.2
  .rename_i id xs hf QO;have hfv:=wU f _ hf;have mY:=xQ wU QO;generalize hv:a.eval f=vf at hfv;cases hfv with
   |oq hS=>have e:(args.toList.map a.eval).toArray=args.map a.eval:=Array.toList_inj.1 (by simp);rw[e]at mY;obtain⟨lo,q1,q2,q3⟩:=lX _ _ _ _ _ h x _ hR rfl mY;exact Xw hP hk ho hw hop rfl hv q1 q2 q3 λy v hp=>eY y v hp.1 hp.2.1 hp.2.2.1 hp.2.2.2
  cases h
theorem IZ(hP:Plain P)(fG:kG P ty)(hc:iC P aa call)(hi:B2 P aa aI)(lX:BZ P aa yf){ops:Array Oper}{b:Frame}{k:List Item}{cs:List Frame}(hk:b.kind≠.early):
  ∀(r pre:List Oper),ops.toList=pre++r->∀{env aK:List DV}{S':ai}{a:Act}{x:Cx},HX P ty aI call yf ops r env x.S=some (aK,S')->Rel x->iw x env a.tmps->
   (∀y a',y.S=S'->Rel y->bU x y->iw y aK a'.tmps->a'.defers=a.defers->jk P aa () (G (b.atR a' k) cs) y.w)->jk P aa () (G (b.atR a (.inRegion ops (List.range' pre.length r.length)::k)) cs) x.w
 |[],pre,_,env,aK,S',a,x,h,hR,he,hn=>by simp only[HX,aB,ay]at h;obtain⟨rfl,rfl⟩:=h;exact gl hP (λw=>⟨_,rI⟩) (hn x a rfl hR (bU.refl x) he rfl)
 |o::r,pre,Ic,env,aK,S',a,x,h,hR,he,hn=>by
  have ho:ops[pre.length]? =some o:=by rw[<-kY,Ic];simp
  have abZ:ops.toList=(pre++[o])++r:=by rw[Ic];simp
  have hlen:(pre++[o]).length=pre.length+1:=by simp
  simp only[dw,List.range'_succ];unfold HX at h;have Yh:=A1 he ops o;by_cases hw:cI ops env o=true
  .rw[if_pos hw]at h;rw[hw]at Yh;obtain⟨x1,k1,k2,k3,k4,k5⟩:=aeq (ty:=ty) o hR he;rw[<-k1];split at h;rename_i qz S0 yF;rw[yF]at k2 k5;dsimp only at k2 k5;subst k2;split at h;.rename_i v S1 h1;refine UF hP fG hc hi lX hk ho Yh k3 (.inl rfl) k5 h1 λy u hyS hyR hyM hyV=>?_;subst hyS;have pM:=AM (k5.mono hyM) (dst:=o.dst) hyV;have:=IZ hP fG hc hi lX hk r (pre++[o]) abZ h hyR pM.1 λz a' z1 z2 z3 z4 z5=>hn z a' z1 z2 (k4.trans (hyM.trans z3)) z4 (z5.trans pM.2);rw[hlen]at this;exact this
   cases h
  rw[if_neg hw]at h;have hwf:cI ops env o=false:=by simpa using hw
  rw[hwf]at Yh;refine gl hP (λw=>⟨_,vg ho Yh⟩) ?_;have pM:=AM he (dst:=o.dst) (d:=bE) (v:=undef) (.val rfl);have:=IZ hP fG hc hi lX hk r (pre++[o]) abZ h hR pM.1 λz a' z1 z2 z3 z4 z5=>hn z a' z1 z2 z3 z4 (z5.trans pM.2);rw[hlen]at this;exact this
end Go.Di
