import Derived.Test.YtedcgbkilmlbhaaPk27
import Derived.Conc.CompanyMem
import Derived.Conc.AppendWalk
import Derived.Laws.AppendOwn
import Derived.Below
import Derived.Test.YtedcgbkilmlbhaaPk21
import Derived.AtR
namespace Go.Co
open Go Go.Conc
open Go.ConcN (sumTo upd upd_same upd_ne)
variable {P:Program} {aa:Machine->Trace->Prop} {Cs:Nat->Prop}
def Bu(n:Nat)(rk:Nat->Tr):List Tr:=(List.range n).map rk
theorem RA{n i:Nat}{rk:Nat->Tr}{r:Tr}(hi:i<n):Bu n (upd rk i r)=(Bu n rk).set i r:=by
 apply mA;intro j;unfold Bu;rw[aH];by_cases hj:i=j;.subst hj;simp[hi,upd_same]
 by_cases nZ:j<n;.simp[hj,nZ,upd_ne _ _ (Ne.symm hj)]
 simp[hj,nZ]
theorem zy{n i:Nat}{rk:Nat->Tr}{r:Tr}(hi:i<n)(h:TLt r (rk i)):LLt (Bu n (upd rk i r)) (Bu n rk):=by rw[RA hi];exact .mk _ i (rk i) r (by simp[Bu,hi]) h
variable {N:Net} {γ:Nat->So} {rk:Nat->Tr} {tp:Nat} {gs:Array Goroutine} {w:World} {t:Trace}
theorem yN(h:yd P aa Cs N γ rk tp gs w t){i:Nat}(hi:i<N.n):∃g,gs[i]? =some g:=by
 have:i<gs.size:=by rw[h.size];exact hi
 exact⟨gs[i],ct this⟩
theorem We(h:yd P aa Cs N γ rk tp gs w t)
  (hen:(∃i j c v k ok z k',i<N.n/\j<N.n/\N.pr i=.send c v k/\N.pr j=.recv c ok z k')\/(∃i c k,i<N.n/\N.pr i=.close c k)\/(∃j c ok z k E,j<N.n/\N.pr j=.recv c ok z k/\N.cl c=some E)\/(∃i ch k,i<N.n/\N.pr i=.go ch k)):
  ∃(i:Nat)(g:Goroutine),gs[i]? =some g/\g.status=.running:=by
 rcases hen with ⟨i,j,c,v,k,ok,z,k',hi,hj,C7,yg⟩|⟨i,c,k,hi,hp⟩|⟨j,c,ok,z,k,E,hj,hp,hE⟩|⟨i,ch,k,hi,hp⟩
 .obtain⟨g,hg⟩:=yN h hi;obtain⟨g',og⟩:=yN h hj;have hm:=h.mem i g hg;have HE:=h.mem j g' og;rw[C7]at hm;rw[yg]at HE;rcases hm.awake with e|e|e;.exact⟨i,g,hg,e⟩
  .rcases HE.awake with e'|e'|e';.exact⟨j,g',og,e'⟩
   .exact(h.apart i j c v k ok z k' g g' hg og e e' C7 yg).elim
   generalize rk j=rj at HE;cases HE with
   |run p r g h1 h2=>rw[ew h2]at e';cases e'
   |recv _ _ _ _ g h1 h2=>cases e'
  generalize rk i=ri at hm;cases hm with
  |run p r g h1 h2=>rw[ew h2]at e;cases e
  |send _ _ _ g _ h1=>cases e
 .obtain⟨g,hg⟩:=yN h hi;have hm:=h.mem i g hg;rw[hp]at hm;generalize rk i=ri at hm;cases hm with
  |run p r g h1 h2=>exact⟨i,_,hg,ew h2⟩
 .obtain⟨g,hg⟩:=yN h hj;have hm:=h.mem j g hg;rw[hp]at hm;generalize rk j=rj at hm;cases hm with
  |run p r g h1 h2=>exact⟨j,_,hg,ew h2⟩
  |recv _ _ _ _ g h1 h2=>rw[h.open_ j c ok z k _ hg rfl hp]at hE;cases hE
 obtain⟨g,hg⟩:=yN h hi;have hm:=h.mem i g hg;rw[hp]at hm;generalize rk i=ri at hm;cases hm with
 |run p r g h1 h2=>exact⟨i,_,hg,ew h2⟩
end Go.Co
namespace Go.Co
open Go Go.Conc
open Go.ConcN (sumTo upd upd_same upd_ne)
variable {P:Program} {aa:Machine->Trace->Prop} {Cs:Nat->Prop}
theorem R3(hP:Plain P){N:Net}(hW:Dd Cs N):∀(γ:Nat->So)(rk:Nat->Tr)(tp:Nat)(gs:Array Goroutine)(w:World)(sl:Option (Nat×Nat))(t:Trace),yd P aa Cs N γ rk tp gs w t->Ym P aa (crowd gs w sl) t:=by
 induction hW with
 |done N h0 hd=>exactλγ rk tp gs w sl t h=>Xf h h0 hd
 |step N hno h0 hsend hrecv hen ab0 ahY agt agy hstart ihm ihs ihh ihg=>
  intro γ rk tp gs w sl t h;have acc:=PW (Bu N.n rk);generalize hl:Bu N.n rk=l at acc;induction acc generalizing γ rk tp gs w sl t with
  |intro l _ ih=>
   subst hl;have SN:∀g∈gs,awake g:=by intro x hx;obtain⟨i,hi,rfl⟩:=Array.mem_iff_getElem.1 hx;exact awake_of ((h.mem i _ (ct hi)).awake)
   obtain⟨i,g,d,sl',hi,hg,hst⟩:=crowd_pick (P:=P) (w:=w) (sl:=sl) SN (We h hen);have o7:i<N.n:=by rw[<-h.size];exact(aN.1 hi).1
   have hm:=h.mem i g hi;generalize hrk:rk i=r at hm;generalize Tc:N.pr i=p at hm;have h2:=MX h hno d;cases hm with
   |stop n g h3 h4=>
    cases n with
    |zero=>rw[h4.1]at hg;cases hg
    |succ n=>
     rcases h4 with ⟨hf,_⟩|⟨_,g',es,hmu,TF,hq⟩;.rw[hf]at hg;cases hg
     obtain⟨hrun,qW⟩:=Wh (sl:=sl') h2 hi Tc h3 hmu TF hq hsend hrecv;rw[hrun]at hst;exact iQ hst (ih _ (zy o7 (by rw[hrk];exact ZK n)) _ _ _ _ _ sl' _ qW rfl)
   |ret r g h3 h4 h5=>exact absurd Tc (hno i o7).1
   |send c v k g z h3=>cases hg
   |recv c ok z k g h3 h4=>cases hg
   |run p r0 g kK hG=>
    subst Tc;cases r0 with
    |node f=>obtain⟨g',w',es,γ',e1,hS,hG'⟩:=hG.2 (w.at d) (As _ _ _);obtain⟨hrun,qW⟩:=Wd (sl:=sl') hP h hno hsend hrecv hi kK e1 hS hG';rw[hrun]at hst;exact iQ hst (ih _ (zy o7 (by rw[hrk];exact adX f (w.at d))) _ _ _ _ _ sl' _ qW rfl)
    |leaf=>
     have hS:=hG (w.at d) (As _ _ _);cases hp:N.pr i with
     |stop=>exact absurd hp kK.1
     |ret=>exact absurd hp kK.2.1
     |bad=>exact absurd hp kK.2.2
     |send c v k=>
      rw[hp]at hS;obtain⟨Da,Ah⟩:=hsend i c v k o7 hp;rcases Wj (sl:=sl') h hno hi hp Da Ah hS.1 hS.2 (λj ok z kr hj hr=>ab0 i j c v k ok z kr o7 hj hp hr)with ⟨gs',hrun,qW⟩|⟨N',gs',w',ops,FV,hrun,-,⟨j,ok,z,kr,hj,hr,rfl⟩,qW⟩;.rw[hrun]at hst;refine iQ hst ?_;rw[Array.append_empty];exact ih _ (zy o7 (by rw[hrk];exact Kr)) _ _ _ _ _ sl' _ (MX qW hno d) rfl
      rw[hrun]at hst;exact iQ hst (ihm i j c v k ok z kr o7 hj hp hr _ _ _ _ _ sl' _ qW)
     |recv c ok z kr=>
      rw[hp]at hS hG;have om:=hrecv i c ok z kr o7 hp;have hS0:=hG w (iP _ _);cases ud:N.cl c with
      |none=>
       rcases Wl (sl:=sl') h hno hi hp ud om hS.1 (λw1 h1=>(hG w1 h1).1) hS0.2 (λj v k hj hs=>ab0 j i c v k ok z kr hj o7 hs hp)with ⟨gs',hrun,qW⟩|⟨N',gs',w',ops,FV,hrun,-,⟨j,v,k,hj,hs,rfl⟩,qW⟩;.rw[hrun]at hst;refine iQ hst ?_;rw[Array.append_empty];exact ih _ (zy o7 (by rw[hrk];exact Kr)) _ _ _ _ _ sl' _ (MX qW hno d) rfl
       rw[hrun]at hst;exact iQ hst (ihm j i c v k ok z kr hj o7 hs hp _ _ _ _ _ sl' _ qW)
      |some E=>obtain⟨gs',ops,FV,hrun,qW⟩:=Wm (sl:=sl') (d:=d) h2 hsend hi hp ud om hS.1 hS.2 (agy i c ok z kr E o7 hp ud);have hrun:runT P (crowd gs (w.at d) sl') i=_:=hrun;rw[hrun]at hst;exact iQ hst (ihh i c ok z kr E o7 hp ud _ _ _ _ _ sl' _ qW)
     |close c k=>
      rw[hp]at hS;obtain⟨-,hmw,g',Bm,hstep,hk⟩:=hS;obtain⟨Da,Ah⟩:=ahY i c k o7 hp;have hw:=agt i c k o7 hp;have HD:∀j v k',j<N.n->N.pr j≠.send c v k':=by
       intro j v k' hj e;have gR:j≠i:=by rintro rfl;rw[hp]at e;cases e
       have e':(N.shut i c k).pr j=.send c v k':=(upd_ne _ _ gR).trans e;have ud:(N.shut i c k).cl c≠none:=by show upd N.cl c _ c≠none;rw[upd_same];simp
       cases hw with
       |done _ h3 h4=>
        by_cases QC:j=0;.rw[QC,h3]at e';cases e'
        rw[(h4 j (by omega) hj).1]at e';cases e'
       |step _ _ _ h5=>exact ud (h5 j c v k' hj e').1
      obtain⟨gs',w',ops,FV,hrun,qW⟩:=Wi (sl:=sl') (d:=d) hP h2 hno hsend hrecv hi hp Da Ah hmw Bm hstep hk HD hw;have hrun:runT P (crowd gs (w.at d) sl') i=_:=hrun;rw[hrun]at hst;exact iQ hst (ihs i c k o7 hp _ _ _ _ _ sl' _ qW)
     |go ch k=>rw[hp]at hS;obtain⟨ye,g',x0,Bm,e1,Mq,hch,hk⟩:=hS;obtain⟨gs',ops,FV,hrun,qW⟩:=Rm (sl:=sl') (d:=d) hP h2 hi hp e1 Bm Mq hch hk (hstart i ch k o7 hp);have hrun:runT P (crowd gs (w.at d) sl') i=_:=hrun;rw[hrun]at hst;exact iQ hst (ihg i ch k o7 hp _ _ _ _ _ sl' _ qW)
end Go.Co
namespace Go.Co
open Go Go.Conc
open Go.ConcN (sumTo upd upd_same upd_ne)
variable {P:Program} {aa:Machine->Trace->Prop} {Cs:Nat->Prop}
def entry(n:Nat)(p:Pc):Net:=⟨n,λj=>if j=0 then p else .stop,λ_ j=>0<j/\j<n,λ_=>none⟩
theorem aez(hP:Plain P){p:Pc}{S O:Nat->Prop}{g:Goroutine}{w:World}(hp:p.live)(rC:Pr P aa true p (S,O) g w)
  (hSO:∀b,O b->¬S b) (QW:∀b,S b\/O b->b<w.heap.size)
  (hc:∀c,Cs c->(∃s tm,w.heap[c]? =some (.chan 0 #[] false s s tm))/\¬S c/\¬O c)
  (hW:∀n,0<n->Dd Cs (entry n p)):jf P aa () g w:=by
 intro d hf hr hd gs sl t q h0 hL J6;have hlt:0<gs.size:=(aN.1 h0).1;obtain⟨r,hG⟩:=Pu hp rC;have hG:=Ek F6 hG (As (S,O) w d);have hno:∀i a,t.size<=i->touchAt t i=some a->False:=by intro i a hi ha;obtain⟨x,hx,-⟩:=touch_of ha;have:=(aN.1 hx).1;omega
 have kK:∀j,(entry gs.size p).pr j≠.stop->j=0:=by
  intro j hj;by_cases h:j=0;.exact h
  exact absurd (by simp[entry,h]) hj
 have aiO:(entry gs.size p).pr 0=p:=rfl;have hγ:∀j b,((if j=0 then((S,O):So)else(λ_=>False,λ_=>False)).1 b->j=0/\S b)/\((if j=0 then((S,O):So)else(λ_=>False,λ_=>False)).2 b->j=0/\O b):=by intro j b;by_cases h:j=0<;>simp[h]
 refine R3 hP (hW gs.size hlt) (λj=>if j=0 then(S,O)else(λ_=>False,λ_=>False)) (λj=>if j=0 then r.up else Tr.nat (q j)) t.size gs (w.at d) sl t
  ⟨rfl,hlt,λj x hx=>?_,⟨J6.clean,λj hj=>?_,λi a j hi ha hm hj nZ=>?_,λi a b j hi ha=>(hno i a hi ha).elim,λi a b j hi ha=>(hno i a hi ha).elim,λi a b hi ha=>(hno i a hi ha).elim,λi a hi ha=>(hno i a hi ha).elim,λi j hi hg=>?_,λi a j x hi ha=>(hno i a hi ha).elim,λc E hE=>(by cases hE),λj j' b hb=>?_,λj b hb=>?_,λc E j hE=>(by cases hE),λx j hj=>?_,ak _⟩,λc hcc=>?_,λj c ok z k x hx hb yg=>rfl,λi j c v k ok z k' x y hx hy hbx=>?_,λx hx=>?_⟩
 .by_cases h:j=0;.subst h;rw[h0]at hx;cases hx;have:=Mem.run (P:=P) (aa:=aa) (j:=0) (d:=Deaf t 0) (γ:=(S,O)) (w:=w.at d) p r g hp hG;simpa [entry]using this
  have:=Mem.stop (P:=P) (aa:=aa) (j:=j) (d:=Deaf t j) (γ:=((λ_=>False,λ_=>False):So)) (w:=w.at d) (q j) x h (hL.old j x (by omega) hx);simpa [entry,h]using this
 .rcases hj with hj|hj;.rw[kK j hj];exact J6.hears
  exact hL.above j hj
 .rw[kK j hj];exact J6.known i a ha hm
 .unfold Trace.g? at hg;obtain⟨z,hz,-⟩:=af.1 hg;have:=(aN.1 hz).1;omega
 .obtain⟨rfl,hO⟩:=(hγ j b).2 hb;refine⟨λhS=>hSO b hO ((hγ j' b).1 hS).2,λhne o8=>hne ((hγ j' b).2 o8).1.symm⟩
 .rcases hb with hb|hb;.exact QW b (.inl ((hγ j b).1 hb).2)
  exact QW b (.inr ((hγ j b).2 hb).2)
 .refine⟨hj.2,?_⟩;have:j≠0:=by have:=hj.1;omega
  simp[entry,this]
 .obtain⟨h1,h2,h3⟩:=hc c hcc;refine⟨h1,λj=>⟨λh=>h2 ((hγ j c).1 h).2,λh=>h3 ((hγ j c).2 h).2⟩⟩
 .intro hby C7 yg;have h1:=kK i (by rw[C7];simp);have h2:=kK j (by rw[yg];simp);subst h1;subst h2
  rw[C7]at yg;cases yg
 rw[h0]at hx;cases hx;exact hf
variable {fn:FuncId} {γ:So} {c:Code} {a:Act} {w:World}
theorem Ip{g:Goroutine}(hd:g.dying=none)(h:jf P aa () g w):KG P aa true (.ret,γ) g w:=λ_ _=>⟨hd,h⟩
theorem Uu{g:Goroutine}(h:KG P aa true (.ret,γ) g w):jf P aa () g w:=(h (λh=>by cases h) (by simp)).2
theorem ae4{b:Frame}{k:List Item}{cs:List Frame}{e:Exit}{a:Act}{w:World}(h:CA (KG P aa true) b k cs (.ret,γ) e a w):CA (jf P aa) b k cs () e a w:=by
 cases e with
 |normal=>exact Uu h
 |exit id=>obtain⟨k',h1,h2⟩:=h;exact⟨k',h1,Uu h2⟩
 |ret=>exactλtodo=>Uu (h todo)
 |goto l=>exact h
 |panic ch=>exact h
 |outgrown=>exact h
theorem abi{b:Frame}{k:List Item}{cs:List Frame}{e:Exit}{a:Act}{w:World}(h:CA (jf P aa) b k cs () e a w):CA (KG P aa true) b k cs (.ret,γ) e a w:=by
 cases e with
 |normal=>exact Ip rfl h
 |exit id=>obtain⟨k',h1,h2⟩:=h;exact⟨k',h1,Ip rfl h2⟩
 |ret=>exactλtodo=>Ip rfl (h todo)
 |goto l=>exact h
 |panic ch=>exact h
 |outgrown=>exact h
theorem Xx{Q:Gm->Exit->Act->World->Prop}(h:KJ (jf P aa) fn () c (λ_=>Q (.ret,γ)) a w):KJ (KG P aa true) fn (.ret,γ) c Q a w:=
 λb k cs hb hk hc=>Ip rfl (h b k cs hb hk λ_ e a' w' q=>ae4 (hc _ e a' w' q))
theorem Xw(hP:Plain P){p:Pc}{S O:Nat->Prop}{Q:Exit->Act->World->Prop}(hp:p.live)
  (hSO:∀b,O b->¬S b) (QW:∀b,S b\/O b->b<w.heap.size)
  (hc:∀c,Cs c->(∃s tm,w.heap[c]? =some (.chan 0 #[] false s s tm))/\¬S c/\¬O c)
  (hW:∀n,0<n->Dd Cs (entry n p))
  (h:KJ (KG P aa true) fn (p,(S,O)) c (λγ' e a' w'=>γ'.1=.ret/\Q e a' w') a w):KJ (jf P aa) fn () c (λ_=>Q) a w:=by
 intro b k cs hb hk ah1;refine aez hP hp (h b k cs hb hk (λγ' e a' w' q=>?_) (λh=>by cases h) hp.1) hSO QW hc hW;obtain⟨p',γ'⟩:=γ';obtain⟨rfl,q⟩:=q;exact abi (ah1 () e a' w' q)
end Go.Co
namespace Go.Co
open Go Go.Conc
variable {P:Program} {aa:Machine->Trace->Prop} {main:Bool} {K:Gm->Goroutine->World->Prop} {fn:FuncId} {p:Pc} {γ:So} {Q:Gm->Exit->Act->World->Prop} {a:Act} {w:World} {ops:Array Oper} {i:Nat} {rest:List Nat} {o:Oper}
theorem Yw(hp:p≠.ret){w1:World}(h:CM (p,γ) w w1):jo γ w w1:=by unfold CM at h;cases p<;>first|exact h|exact absurd rfl hp
theorem stg(hp:p≠.ret){s:So}{w':World}{es:Array Event}(h:JF γ w s w' es):HL (p,γ) w (p,s) w' es:=by refine⟨rfl,?_⟩;cases p<;>first|exact h|exact absurd rfl hp
def QZ(P:Program)(aa:Machine->Trace->Prop)(γ:Gm)(g:Goroutine)(w:World):Prop:=γ.1=.bad->∀w1,jo γ.2 w w1->jf P aa () g w1
theorem aaJ(hP:Plain P):KC P true (QZ P aa) CM HL where
 step:=λγ fr cs w h hb w0 r0=>by obtain⟨p,γ⟩:=γ;simp only at hb;subst hb;refine(yU hP).step () fr cs w0 λw1 h1=>?_;obtain⟨d,rfl⟩:=h1;obtain⟨fr',lC,w',es,γ',e,⟨tA,-⟩,hk⟩:=h (w0.at d) (iw r0 (As γ w0 d));exact⟨fr',lC,w',es,(),e,trivial,hk tA w' (iP _ _)⟩
 idle:=(Bw (aa:=aa) (main:=true) hP).idle
 rely:=λγ g w w1 r h hb w2 r2=>by obtain⟨p,γ⟩:=γ;exact h hb w2 (iw (Yw (by simp only at hb;subst hb;simp) r) r2)
theorem aaH{c:Code}{Q:Gm->Exit->Act->World->Prop}{Q':Exit->Act->World->Prop}(hq:∀γ' e a w w1,Q γ' e a w->jo γ'.2 w w1->γ'.1=.bad->Q' e a w1)(h:KJ (QZ P aa) fn (.bad,γ) c (λγ' e a w=>γ'.1=.bad/\Q γ' e a w) a w):KJ (jf P aa) fn () c (λ_=>Q') a w:=by
 intro b k cs hb hk hc;refine h b k cs hb hk (λγ' e a' w' q=>?_) rfl w (iP _ _);have fL:∀w1,jo γ'.2 w' w1->CA (jf P aa) b k cs () e a' w1:=λw1 r=>hc () e a' w1 (hq _ _ _ _ _ q.2 r q.1);cases e with
 |normal=>exactλ_ w1 r=>fL w1 r
 |exit id=>obtain⟨k',h1,-⟩:=fL w' (iP _ _);refine⟨k',h1,λ_ w1 r=>?_⟩;obtain⟨k2,h2,h3⟩:=fL w1 r;rw[h1]at h2;cases h2;exact h3
 |ret=>exactλtodo _ w1 r=>fL w1 r todo
 |goto l=>exact(fL w' (iP _ _)).elim
 |panic ch=>exact(fL w' (iP _ _)).elim
 |outgrown=>exact(fL w' (iP _ _)).elim
theorem tQ{es:Array Event}(ts:Array TypeId)(t:TypeId)(k k':IntKind)(x y:Int):(Builtin.max_ ts t #[.int k x,.int k' y]).events P w es=es:=by simp[Builtin.max_,Builtin.max2]
theorem tO{es:Array Event}(ts:Array TypeId)(t:TypeId)(k k':IntKind)(x y:Int):(Builtin.min_ ts t #[.int k x,.int k' y]).events P w es=es:=by simp[Builtin.min_,Builtin.min2]
theorem eA(C:KC P main K CM HL){γ:Gm}{v:Value}(ho:ops[i]? =some o)(hw:Region.wanted o (yielded ops a.tmps)=true)(hrun:∀w,(execOp a.eval o).run P w=.ok (.value v) w)(wE:∀w,(execOp a.eval o).events P w #[]=#[])
  (h:KO K fn γ ops rest Q (a.put o.dst v) w):KO K fn γ ops (i::rest) Q a w:=
 yS C ho hw λw₁ r=>by rw[hrun w₁];exact⟨γ,by rw[listed_nil (wE w₁)];exact C.idle _ _,I6 C r h⟩
theorem av(C:KC P main K CM HL){γ:Gm}{v:Value}(h:KO K fn γ ops rest Q (a.put o.dst v) w)(ho:ops[i]? =some o:=by rfl)(hw:Region.wanted o (yielded ops a.tmps)=true:=by rfl)(hrun:∀w,(execOp a.eval o).run P w=.ok (.value v) w:=by exactλw=>run_eq_of λK hK=>(by go_simp;exact hK))(wE:∀w,(execOp a.eval o).events P w #[]=#[]:=by intro w;first|(simp[go_sem];done)|(simp[go_sem, *];done)):KO K fn γ ops (i::rest) Q a w:=eA C ho hw hrun wE h
theorem Ng(C:KC P main K CM HL)(hp:p≠.ret)(ho:ops[i]? =some o)(hw:Region.wanted o (yielded ops a.tmps)=true)
  (h:∀w₁,jo γ w w₁->∃v w' s,(execOp a.eval o).run P w₁=.ok (.value v) w'/\JF γ w₁ s w' (listed P fn a o w₁)/\KO K fn (p,s) ops rest Q (a.put o.dst v) w'):KO K fn (p,γ) ops (i::rest) Q a w:=
 yS C ho hw λw₁ r=>by obtain⟨v,w',s,h1,h2,h3⟩:=h w₁ (Yw hp r);rw[h1];exact⟨(p,s),stg hp h2,h3⟩
theorem qX(C:KC P main K CM HL)(hp:p≠.ret){v:Value}(ho:ops[i]? =some o)(hw:Region.wanted o (yielded ops a.tmps)=true)
  (hrun:∀w₁,jo γ w w₁->(execOp a.eval o).run P w₁=.ok (.value v) w₁/\∀e∈(execOp a.eval o).events P w₁ #[],YN γ.1 γ.2 e) (h:KO K fn (p,γ) ops rest Q (a.put o.dst v) w):KO K fn (p,γ) ops (i::rest) Q a w:=
 Ng C hp ho hw λw₁ r=>⟨v,w₁,γ,(hrun w₁ r).1,⟨rfl,Ky λe he=>(hrun w₁ r).2 e (mem_listed he)⟩,I6 C (by unfold CM;cases p<;>first|exact r|exact absurd rfl hp) h⟩
def So.more (γ:So)(n:Nat):So:=(γ.1,λb=>γ.2 b\/b=n)
theorem ZR(ob:Obj):JF γ w (γ.more w.heap.size) (w.alloc ob) #[]:=by
 have hsz:(w.alloc ob).heap.size=w.heap.size+1:=by simp
 refine⟨rfl,λb=>?_,by omega,λb hb _=>RowKit.Below.heap_alloc _ _ _ hb,rfl,rfl,rfl,by simp⟩;show γ.2 b\/b=w.heap.size↔_;rw[hsz];refine or_congr_right ?_;omega
theorem Im(C:KC P main K CM HL)(hp:p≠.ret){f:Nat->Value}{ob:Obj}(ho:ops[i]? =some o)(hw:Region.wanted o (yielded ops a.tmps)=true)
  (hrun:∀w,(execOp a.eval o).run P w=.ok (.value (f w.heap.size)) (w.alloc ob)) (wE:∀w,(execOp a.eval o).events P w #[]=#[])
  (h:∀w₁,jo γ w w₁->KO K fn (p,γ.more w₁.heap.size) ops rest Q (a.put o.dst (f w₁.heap.size)) (w₁.alloc ob)):KO K fn (p,γ) ops (i::rest) Q a w:=
 Ng C hp ho hw λw₁ r=>⟨_,_,_,hrun w₁,by rw[listed_nil (wE w₁)];exact ZR ob,h w₁ r⟩
theorem qY(C:KC P main K CM HL)(hp:p≠.ret){ob:Obj}(ho:ops[i]? =some o)(hw:Region.wanted o (yielded ops a.tmps)=true)
  (hrun:∀w,(execOp a.eval o).run P w=.ok (.value (.pointer (some ⟨w.heap.size,0,none⟩))) (w.alloc ob)) (wE:∀w,(execOp a.eval o).events P w #[]=#[])
  (h:∀w₁,jo γ w w₁->KO K fn (p,γ.more w₁.heap.size) ops rest Q (a.put o.dst (.pointer (some ⟨w₁.heap.size,0,none⟩))) (w₁.alloc ob)):KO K fn (p,γ) ops (i::rest) Q a w:=
 Im C hp (f:=λn=>.pointer (some ⟨n,0,none⟩)) ho hw hrun wE h
theorem Vm(C:KC P main K CM HL)(hp:p≠.ret){ob:Obj}{n:Nat}(ho:ops[i]? =some o)(hw:Region.wanted o (yielded ops a.tmps)=true)
  (hrun:∀w,(execOp a.eval o).run P w=.ok (.value (.slice (some ⟨w.heap.size,0,none⟩) n n)) (w.alloc ob)) (wE:∀w,(execOp a.eval o).events P w #[]=#[])
  (h:∀w₁,jo γ w w₁->KO K fn (p,γ.more w₁.heap.size) ops rest Q (a.put o.dst (.slice (some ⟨w₁.heap.size,0,none⟩) n n)) (w₁.alloc ob)):KO K fn (p,γ) ops (i::rest) Q a w:=
 Im C hp (f:=λm=>.slice (some ⟨m,0,none⟩) n n) ho hw hrun wE h
theorem ZQ{ad:Addr}{v:Value}{es:Array Event}(hO:γ.2 ad.block)(hes:∀e∈es,YN γ.1 γ.2 e):JF γ w γ (w.setCell ad v) es:=by have hsz:(w.setCell ad v).heap.size=w.heap.size:=World.size_setCell ..;refine⟨rfl,λb=>⟨.inl,λh=>h.elim id λh=>absurd h.2 (by omega)⟩,by omega,λb _ hn=>?_,rfl,rfl,rfl,hes⟩;exact heap_setCell_other _ _ _ _ (λe=>hn (e▸hO))
theorem Nf(C:KC P main K CM HL)(hp:p≠.ret){ad:Addr}{v:Value}(ho:ops[i]? =some o)(hw:Region.wanted o (yielded ops a.tmps)=true)(hO:γ.2 ad.block)
  (hrun:∀w₁,jo γ w w₁->(execOp a.eval o).run P w₁=.ok .skip (w₁.setCell ad v)/\∀e∈(execOp a.eval o).events P w₁ #[],e=⟨.cell ad,true,false⟩)
  (h:∀w₁,jo γ w w₁->KO K fn (p,γ) ops rest Q (a.put o.dst undef) (w₁.setCell ad v)):KO K fn (p,γ) ops (i::rest) Q a w:=
 yS C ho hw λw₁ r=>by obtain⟨h1,h2⟩:=hrun w₁ (Yw hp r);rw[h1];refine⟨(p,γ),stg hp (ZQ hO λe he=>?_),h w₁ (Yw hp r)⟩;rw[h2 e (mem_listed he)];exact .inl ⟨ad,true,false,rfl,λ_=>hO,.inr hO⟩
theorem qg{Γ:Type}{K:Γ->Goroutine->World->Prop}{Rl:Γ->World->World->Prop}{St:Γ->World->Γ->World->Array Event->Prop}{γ:Γ}{Q:Γ->Exit->Act->World->Prop}(C:KC P main K Rl St){c:Code}(I:Nat->Γ->Act->World->Prop){n:Nat}(h₀:I n γ a w)
  (round:∀n γ a w,I n γ a w->KJ K fn γ c (λγ'=>Exit.then (λa' w'=>∃m,m<n/\I m γ' a' w') (Q γ')) a w):KJ K fn γ (.loop c) Q a w:=by
 intro b k cs hb hk hc;have key:∀n γ a w,I n γ a w->K γ (G (b.at a (.code c::.inLoop c::k)) cs) w:=by
  intro n;induction n using Nat.strongRecOn with
  |ind n ih=>
   intro γ a w hI;refine round n γ a w hI b (.inLoop c::k) cs hb hk λγ' e a' w' q=>?_;cases e with
   |normal=>obtain⟨m,hm,q⟩:=q;exact C.go (λ_=>stepG_inLoop) (ih m hm γ' a' w' q)
   |exit id=>exact(hc _ _ _ _ q).push rfl (by simp)
   |ret=>exact CA.push (x:=.inLoop c) rfl (by simp) (hc _ _ _ _ q)
   |goto l=>exact hc _ _ _ _ q
   |panic ch=>exact hc _ _ _ _ q
   |outgrown=>exact hc _ _ _ _ q
 exact C.go (λ_=>stepG_loop) (key n γ a w h₀)
theorem qn{F:(Nat->Value)->Act}(h:a=F λn=>a.tmps.getD n undef):∃u,a=F u:=⟨_,h⟩
theorem eN{N:Act->World->Prop}{R:Exit->Act->World->Prop}(h:N a w):Exit.then N R .normal a w:=h
def bK(γ:So)(w:World)(ad:Addr)(v:Value):Prop:=γ.all ad.block/\w.cell? ad=some v
theorem bK.rely {ad:Addr}{v:Value}{w1:World}(h:bK γ w ad v)(r:jo γ w w1):bK γ w1 ad v:=
 ⟨h.1,(World.cell?_of_block (r.2.1 ad.block h.1)).trans h.2⟩
theorem bK.lt {ad:Addr}{v:Value}(h:bK γ w ad v):ad.block<w.heap.size:=World.block_lt_of_cell? w ad h.2
theorem bK.alloc {ad:Addr}{v:Value}(h:bK γ w ad v)(n:Nat)(ob:Obj):bK (γ.more n) (w.alloc ob) ad v:=
 ⟨h.1.imp id .inl,(World.cell?_alloc_lt w ob ad h.lt).trans h.2⟩
theorem bK.put {ad ad':Addr}{v v':Value}(h:bK γ w ad v)(hne:ad'≠ad):bK γ (w.setCell ad' v') ad v:=
 ⟨h.1,(World.cell?_setCell_other w ad' ad v' hne).trans h.2⟩
theorem bK.JD {ad:Addr}{v:Value}(h:bK γ w ad v):YN γ.1 γ.2 ⟨.cell ad,false,false⟩:=.inl ⟨ad,false,false,rfl,λh=>(by cases h),h.1⟩
theorem bK.fresh {w:World}{n j:Nat}{cs:Array Value}{t:TypeId}{v:Value}(hn:n=w.heap.size)(h:cs[j]? =some v):bK (γ.more n) (w.alloc (.cells cs t)) ⟨n,j,none⟩ v:=by subst hn;exact⟨.inr (.inr rfl),by rw[World.cell?_alloc_new,h]⟩
theorem jx(C:KC P main K CM HL)(hp:p≠.ret){v:Value}{ad:Addr}{x:Value}(hs:bK γ w ad x)(h:KO K fn (p,γ) ops rest Q (a.put o.dst v) w)(ho:ops[i]? =some o:=by rfl)(hw:Region.wanted o (yielded ops a.tmps)=true:=by rfl)(hrun:∀w₁:World,w₁.cell? ad=some x->(execOp a.eval o).run P w₁=.ok (.value v) w₁:=by exactλw₁ hc=>run_eq_of λK hK=>(by go_simp;exact hK))(wE:∀w₁:World,w₁.cell? ad=some x->YN γ.1 γ.2 ⟨.cell ad,false,false⟩->∀e∈(execOp a.eval o).events P w₁ #[],YN γ.1 γ.2 e:=by intro w₁ hc hv e he;simp[go_sem,hc]at he;subst he;exact hv):KO K fn (p,γ) ops (i::rest) Q a w:=
 qX C hp ho hw (λw₁ r=>⟨hrun w₁ (hs.rely r).2,wE w₁ (hs.rely r).2 (hs.rely r).JD⟩) h
theorem cC{Γ:Type}{K:Γ->Goroutine->World->Prop}{Rl:Γ->World->World->Prop}{St:Γ->World->Γ->World->Array Event->Prop}{γ:Γ}{Q:Γ->Exit->Act->World->Prop}(C:KC P main K Rl St){id:Nat}{L:List Nat}(h:KO K fn γ ops L Q a w)(hL:List.range ops.size=L:=by conv=>lhs;simp only[mB,dN,mz,Nat.reduceAdd,jk,List.range,List.range.loop]):KJ K fn γ (.region id ops false) Q a w:=A8 C (hL▸h)
def Af(γ:So)(w:World)(v:Value)(l:List Int):Prop:=∃A cap,v=.slice A l.length cap/\∀i x,l[i]? =some x->∃ad,A=some ad/\bK γ w (ad.add i) (.int .i64 x)
theorem Af.rely {v:Value}{l:List Int}{w1:World}(h:Af γ w v l)(r:jo γ w w1):Af γ w1 v l:=by obtain⟨A,cap,rfl,h⟩:=h;exact⟨A,cap,rfl,λi x hx=>by obtain⟨ad,h1,h2⟩:=h i x hx;exact⟨ad,h1,h2.rely r⟩⟩
theorem Af.alloc {v:Value}{l:List Int}(h:Af γ w v l)(n:Nat)(ob:Obj):Af (γ.more n) (w.alloc ob) v l:=by obtain⟨A,cap,rfl,h⟩:=h;exact⟨A,cap,rfl,λi x hx=>by obtain⟨ad,h1,h2⟩:=h i x hx;exact⟨ad,h1,h2.alloc n ob⟩⟩
structure Kept (γ:So) (w:World) (γ':So) (w':World):Prop where
 shr:γ'.1=γ.1
 own:∀b,γ.2 b->γ'.2 b
 blk:∀b,γ.all b->b<w.heap.size->w'.heap[b]? =w.heap[b]?
 size:w.heap.size<=w'.heap.size
 env:w'.os=w.os/\w'.output=w.output
theorem Kept.all {γ':So}{w':World}(h:Kept γ w γ' w'){b:Nat}(hb:γ.all b):γ'.all b:=hb.imp (by rw[h.shr];exact id) (h.own b)
theorem Kept.refl (γ:So)(w:World):Kept γ w γ w:=⟨rfl,λ_ h=>h,λ_ _ _=>rfl,ak _,rfl,rfl⟩
theorem Kept.trans {γ' γ'':So}{w' SY:World}(h:Kept γ w γ' w')(k:Kept γ' w' γ'' SY):Kept γ w γ'' SY:=
 ⟨k.shr.trans h.shr,λb hb=>k.own b (h.own b hb),λb hb hlt=>(k.blk b (h.all hb) (dH hlt h.size)).trans (h.blk b hb hlt),bD h.size k.size,k.env.1.trans h.env.1,k.env.2.trans h.env.2⟩
theorem Kept.rely {w1:World}(r:jo γ w w1):Kept γ w γ w1:=⟨rfl,λ_ h=>h,λb hb _=>r.2.1 b hb,r.1,r.2.2.2⟩
theorem Kept.alloc (γ:So)(w:World)(n:Nat)(ob:Obj):Kept γ w (γ.more n) (w.alloc ob):=⟨rfl,λ_ h=>.inl h,λb _ hlt=>RowKit.Below.heap_alloc _ _ _ hlt,by simp,rfl,rfl⟩
theorem Kept.sees {γ':So}{w':World}(h:Kept γ w γ' w'){ad:Addr}{v:Value}(s:bK γ w ad v):bK γ' w' ad v:=
 ⟨h.all s.1,(World.cell?_of_block (h.blk ad.block s.1 s.lt)).trans s.2⟩
theorem Kept.HB {γ':So}{w':World}(h:Kept γ w γ' w'){v:Value}{l:List Int}(s:Af γ w v l):Af γ' w' v l:=by obtain⟨A,cap,rfl,s⟩:=s;exact⟨A,cap,rfl,λi x hx=>by obtain⟨ad,h1,h2⟩:=s i x hx;exact⟨ad,h1,h.sees h2⟩⟩
end Go.Co
namespace Go.Co
open Go Go.Conc
variable {P:Program} {aa:Machine->Trace->Prop} {fn:FuncId} {γ:So} {a:Act} {w:World} {ops:Array Oper} {i:Nat} {rest:List Nat} {o:Oper}
theorem LW(hP:Plain P){b:Frame}{k:List Item}{cs:List Frame}(hk:b.kind≠.early){f:FuncId}{args:Array Operand}{ats:Array TypeId}{R:Value->World->Prop}
  (ho:ops[i]? =some o) (hw:Region.wanted o (yielded ops a.tmps)=true) (hop:o.op=.call {callee:=.value (.func f),args,argTypes:=ats}) {vr:Func} {c:Code} (hf:P.funcs[f]? =some vr) (hb:vr.body=some c)
  (lZ:∀τ,Calls P f (args.map a.eval) (w.re τ 0) λe w'=>∃v,e=.returned v/\R v w') (eX:∀v w',R v w'->∀τ d,jf P aa () (G (b.at (a.put o.dst v) (.inRegion ops rest::k)) cs) (w'.re τ d)):jf P aa () (G (b.at a (.inRegion ops (i::rest)::k)) cs) w:=by
 refine PZ hP λ_ τ=>?_;obtain⟨e,w',fr,⟨v,rfl,hR⟩,Nk,Tj,lz⟩:=lZ τ (b.at a (.inRegion ops (i::rest)::k)::cs);have agD:=eX v w' hR;have yD:=hP.count f vr hf;have hstep:step P (lone (b.at a (.inRegion ops (i::rest)::k)) cs (w.re τ 0))=.next (lone (Frame.enter P f (args.map a.eval) .normal) (b.at a (.inRegion ops (i::rest)::k)::cs) (w.re τ 0)):=by
  refine step_lone_go ?_;have:=goes_call (P:=P) (main:=true) (b:=b) (k:=k) (cs:=cs) (w:=w.re τ 0) (K:=λg w' es=>g=G ((base f).at {tmps:=args.map a.eval++Array.replicate (vr.ntmps-(args.map a.eval).size) undef,defers:=[]} [.code c]) (b.at a (.inRegion ops (i::rest)::k)::cs)/\w'=w.re τ 0/\es=#[]) ho hw hk hop hf yD hb ⟨rfl,rfl,rfl⟩;obtain⟨g',w2,es,e1,e2,e3,e4⟩:=goes_elim this;subst e2 e3 e4;have Nj:Frame.enter P f (args.map a.eval) .normal=(base f).at {tmps:=args.map a.eval++Array.replicate (vr.ntmps-(args.map a.eval).size) undef,defers:=[]} [.code c]:=by simp[Frame.enter,Frame.at,hf,hb,base]
  rw[Nj];show(stepG P true (G (b.at a (.inRegion ops (i::rest)::k)) cs) (w.re τ 0)).bare=_;rw[e1];rfl
 have UG:step P (lone fr (b.at a (.inRegion ops (i::rest)::k)::cs) w')=.next (lone (b.at (a.put o.dst v) (.inRegion ops rest::k)) cs w'):=by rw[step_leave_returned lz,Frame.finish_at,ho];rfl
 have aeC:Steps P (lone (b.at a (.inRegion ops (i::rest)::k)) cs (w.re τ 0)) (lone (b.at (a.put o.dst v) (.inRegion ops rest::k)) cs w'):=
  (Steps.one hstep).trans (Steps.trans Nk (Steps.one UG))
 obtain⟨n,hn⟩:=aeC;exact⟨n,_,w',hn,rfl,rfl,λτ d=>agD τ d⟩
theorem aar(hP:Plain P){Q:Unit->Exit->Act->World->Prop}{f:FuncId}{args:Array Operand}{ats:Array TypeId}{R:Value->World->Prop}
  (ho:ops[i]? =some o) (hw:Region.wanted o (yielded ops a.tmps)=true) (hop:o.op=.call {callee:=.value (.func f),args,argTypes:=ats}) {vr:Func} {c:Code} (hf:P.funcs[f]? =some vr) (hb:vr.body=some c)
  (lZ:∀τ,Calls P f (args.map a.eval) (w.re τ 0) λe w'=>∃v,e=.returned v/\R v w') (eX:∀v w',R v w'->∀τ d,KO (jf P aa) fn () ops rest Q (a.put o.dst v) (w'.re τ d)):KO (jf P aa) fn () ops (i::rest) Q a w:=
 λb k cs hbf hk hc=>LW hP hk ho hw hop hf hb lZ λv w' hR τ d=>eX v w' hR τ d b k cs hbf hk hc
theorem NZ{f:FuncId}{args:Array Value}{Post:Gm->Value->World->Prop}{Post':Value->World->Prop}(hq:∀γ' v w w1,Post γ' v w->γ'.1=.bad->jo γ'.2 w w1->Post' v w1)
  (h:yK (QZ P aa) P (.bad,γ) f args w (λγ' v w=>γ'.1=.bad/\Post γ' v w)):yK (jf P aa) P () f args w (λ_=>Post'):=by
 obtain⟨vr,c,h1,h2,h3,h4⟩:=h;refine⟨vr,c,h1,h2,h3,?_⟩;refine aaH (Q:=λγ'=>OT P vr Post γ') (λγ' e a w w1 q r hb=>?_) (yT h4 λγ' e a w q=>?_)
 .cases e with
  |normal=>obtain⟨hd,v,hr,hp⟩:=q;exact⟨hd,v,hr,hq _ _ _ _ hp hb r⟩
  |ret=>obtain⟨hd,v,hr,hp⟩:=q;exact⟨hd,v,hr,hq _ _ _ _ hp hb r⟩
  |exit id=>exact q
  |goto l=>exact q
  |panic ch=>exact q
  |outgrown=>exact q
 cases e with
 |normal=>obtain⟨hd,v,hr,hb,hp⟩:=q;exact⟨hb,hd,v,hr,hp⟩
 |ret=>obtain⟨hd,v,hr,hb,hp⟩:=q;exact⟨hb,hd,v,hr,hp⟩
 |exit id=>exact q.elim
 |goto l=>exact q.elim
 |panic ch=>exact q.elim
 |outgrown=>exact q.elim
end Go.Co
namespace Go.Di
open Go Go.Conc Go.Co
variable {P:Program} {aa:Machine->Trace->Prop} {ty:fR} {x:Cx} {aK:bR} {call:bt} {yf:ej}
theorem jj(hP:Plain P){fr:Frame}{cs:List Frame}{w:World}(h:∀d,∃fr' lC w' es,stepG P true (G fr cs) (w.at d)=.go (G fr' lC) w' es/\jf P aa () (G fr' lC) w'):jf P aa () (G fr cs) w:=
 (yU hP).step () fr cs w λw1 h1=>by obtain⟨d,rfl⟩:=h1;obtain⟨fr',lC,w',es,e,hk⟩:=h d;exact⟨fr',lC,w',es,(),e,trivial,hk⟩
theorem JZ{g:Goroutine}{w:World}(h:jf P aa () g w)(d:Nat):jf P aa () g (w.at d):=λd'=>h d'
theorem gd(hP:Plain P){fr fr':Frame}{cs lC:List Frame}{w:World}(h:∀w,∃es,stepG P true (G fr cs) w=.go (G fr' lC) w es)(hk:jf P aa () (G fr' lC) w):jf P aa () (G fr cs) w:=
 jj hP λd=>by obtain⟨es,e⟩:=h (w.at d);exact⟨fr',lC,_,es,e,JZ hk d⟩
section ago
variable {b:Frame} {a:Act} {k:List Item} {cs:List Frame} {w:World}
theorem Z8:stepG P true (G (b.atR a (.code .skip::k)) cs) w=.go (G (b.atR a k) cs) w #[]:=by simp[G,stepG,stepG.exec,Frame.atR]
theorem WK{l:Nat}:stepG P true (G (b.atR a (.code (.label l)::k)) cs) w=.go (G (b.atR a k) cs) w #[]:=by simp[G,stepG,stepG.exec,Frame.atR]
theorem NN{id:Nat}:stepG P true (G (b.atR a (.inBlock id::k)) cs) w=.go (G (b.atR a k) cs) w #[]:=by simp[G,stepG,stepG.exec,Frame.atR]
theorem NM{c:Code}:stepG P true (G (b.atR a (.inScope c::k)) cs) w=.go (G (b.atR a k) cs) w #[]:=by simp[G,stepG,stepG.exec,Frame.atR]
theorem aeg{x y:Code}:stepG P true (G (b.atR a (.code (.seq x y)::k)) cs) w=.go (G (b.atR a (.code x::.code y::k)) cs) w #[]:=by simp[G,stepG,stepG.exec,Frame.atR]
theorem Pt{c:Operand}{x y:Code}{t:Bool}(h:a.eval c=.bool t):stepG P true (G (b.atR a (.code (.cond c x y)::k)) cs) w=.go (G (b.atR a (.code (if t then x else y)::k)) cs) w #[]:=by have:=congrFun (Frame.eval_atR b a (.code (.cond c x y)::k)) c;simp only[Frame.atR]at this;simp[G,stepG,stepG.exec,Frame.atR,this,h]
theorem WM{id:Nat}{c:Code}:stepG P true (G (b.atR a (.code (.block id c)::k)) cs) w=.go (G (b.atR a (.code c::.inBlock id::k)) cs) w #[]:=by simp[G,stepG,stepG.exec,Frame.atR]
theorem WH{c:Code}:stepG P true (G (b.atR a (.code (.scope c)::k)) cs) w=.go (G (b.atR a (.code c::.inScope c::k)) cs) w #[]:=by simp[G,stepG,stepG.exec,Frame.atR]
theorem Z9{c:Code}:stepG P true (G (b.atR a (.code (.loop c)::k)) cs) w=.go (G (b.atR a (.code c::.inLoop c::k)) cs) w #[]:=by simp[G,stepG,stepG.exec,Frame.atR]
theorem RD{c:Code}:stepG P true (G (b.atR a (.inLoop c::k)) cs) w=.go (G (b.atR a (.code c::.inLoop c::k)) cs) w #[]:=by simp[G,stepG,stepG.exec,Frame.atR]
theorem aaa{id:Nat}{k':List Item}(h:exitTo id k=some k'):stepG P true (G (b.atR a (.code (.exit id)::k)) cs) w=.go (G (b.atR a k') cs) w #[]:=by simp[G,stepG,stepG.exec,Frame.atR,h]
theorem RB{id:Nat}{ops:Array Oper}:stepG P true (G (b.atR a (.code (.region id ops false)::k)) cs) w=.go (G (b.atR a (.inRegion ops (List.range ops.size)::k)) cs) w #[]:=by simp[G,stepG,stepG.exec,Frame.atR]
theorem NL{id:Nat}{ops:Array Oper}(hm:P.follows .mixedOrders=true):stepG P true (G (b.atR a (.code (.region id ops true)::k)) cs) w=.go (G (b.atR a (.inRegion ops (Region.linearise .any ops (w.tape w.drawn (.order b.fn id)))::k)) cs) (w.at (w.drawn+1)) #[]:=by simp[G,stepG,stepG.exec,Frame.atR,choose,Sem.run,Question.forced,Question.cut,Region.schedule,hm,World.at]
theorem ry{ops:Array Oper}:stepG P true (G (b.atR a (.inRegion ops []::k)) cs) w=.go (G (b.atR a k) cs) w #[]:=by simp[G,stepG,stepG.exec,Frame.atR]
def PG(o:Op):Bool:=match o with|.defer _=>false|_=>true
theorem IQ{ops:Array Oper}{i:Nat}{rest:List Nat}{o:Oper}(ho:ops[i]? =some o)(hw:Region.wanted o (yielded ops a.tmps)=true)(hd:PG o.op=true):
  stepG P true (G (b.atR a (.inRegion ops (i::rest)::k)) cs) w=stepG.apply P true (b.atR a (.inRegion ops (i::rest)::k)) cs none (execOp a.eval o) w:=by
 have he:=Frame.eval_atR b a (.inRegion ops (i::rest)::k);simp only[Frame.atR]at he;have h1:stepG P true (G (b.atR a (.inRegion ops (i::rest)::k)) cs) w=stepG.oper P true (b.atR a (.inRegion ops (i::rest)::k)) cs none w:=by simp[G,stepG,stepG.exec,Frame.atR,ho,hw]
 rw[h1];unfold stepG.oper;have hop:(b.atR a (.inRegion ops (i::rest)::k)).oper?=some o:=by simp[Frame.oper?,Frame.atR,ho]
 simp only[hop];have wE:(b.atR a (.inRegion ops (i::rest)::k)).eval=a.eval:=Frame.eval_atR b a _;split;.rename_i l c h2 h3;rw[h3]at hd;cases hd
 rw[wE]
theorem u6{ops:Array Oper}{i:Nat}{rest:List Nat}{o:Oper}(ho:ops[i]? =some o)(hw:Region.wanted o (yielded ops a.tmps)=false):
  stepG P true (G (b.atR a (.inRegion ops (i::rest)::k)) cs) w=.go (G (b.atR (a.put o.dst undef) (.inRegion ops rest::k)) cs) w #[]:=by
 have hf:=Frame.finish_atR b a ops i rest k undef;simp only[ho,cn]at hf;rw[<-hf];simp[G,stepG,stepG.exec,Frame.atR,ho,hw]
end ago
theorem R5(hP:Plain P){b:Frame}{a:Act}{k:List Item}{cs:List Frame}{ops:Array Oper}{i:Nat}{rest:List Nat}{o:Oper}{d:DV}{S':ai}(hk:b.kind≠.early)
  (ho:ops[i]? =some o) (hw:Region.wanted o (yielded ops a.tmps)=true) (hd:PG o.op=true) (hy:∀n,Yields (x.dr n) ((execOp a.eval o).run P (x.w.at n)) d S')
  (eX:∀y v,y.S=S'->Rel y->bV x y->RV y d v->jf P aa () (G (b.atR (a.put o.dst v) (.inRegion ops rest::k)) cs) y.w):jf P aa () (G (b.atR a (.inRegion ops (i::rest)::k)) cs) x.w:=by
 refine jj hP λn=>?_;obtain⟨v,y,h1,h2,h3,h4,h5⟩:=hy n;have hf:=Frame.finish_atR b a ops i rest k;simp only[ho,cn]at hf;have pG:(b.kind==CallKind.early)=false:=by simpa using hk
 rw[IQ ho hw hd];rcases h1 with h1|⟨h1,rfl⟩;.refine⟨b.atR (a.put o.dst v) (.inRegion ops rest::k),cs,y.w,seen P b.fn ((execOp a.eval o).events P (x.w.at n) #[]),?_,eX y v h2 h3 ((fE x n).trans h4) h5⟩;rw[<-hf];simp[stepG.apply,h1,G,Frame.atR,pG,GStep.after]
 refine⟨b.atR (a.put o.dst undef) (.inRegion ops rest::k),cs,y.w,seen P b.fn ((execOp a.eval o).events P (x.w.at n) #[]),?_,eX y undef h2 h3 ((fE x n).trans h4) h5⟩;rw[<-hf];simp[stepG.apply,h1,G,Frame.atR,pG,GStep.after]
end Go.Di
namespace Go.Di
open Go Go.Conc Go.Co
variable {P:Program} {aa:Machine->Trace->Prop} {ty:fR} {x:Cx} {aK:bR} {call:bt} {yf:ej}
theorem xC{env:List DV}{a:Act}(h:ia x env a.tmps):yy x (jr env) a.eval:=by
 intro o d ho;cases o with
 |tmp t=>
  simp only[jr,aB]at ho;subst ho;by_cases ht:t<env.length;.have:=h.2 t env[t] (bP ht);simpa [Act.eval,aP,ht]using this
  have h1:env[t]? =none:=fI (y8 ht);have h2:a.tmps[t]? =none:=mD (by rw[h.1];exact y8 ht);have:a.eval (.tmp t)=undef:=by simp[Act.eval,bz,h2]
  rw[this,aP,h1];exact .val rfl
 |const v=>exact zn ho
 |func f=>simp only[jr,aB]at ho;subst ho;exact .fn rfl rfl (by simp) (by simp)
 |global g=>cases ho
theorem Pb{env:List DV}{arr:Array Value}(h:ia x env arr){t:Nat}{d:DV}{v:Value}(hd:RV x d v):ia x (env.set t d) (arr.setIfInBounds t v):=by
 refine⟨by simpa using h.1,λj c hc=>?_⟩;rw[aH]at hc;by_cases hj:t=j
 .subst hj;rw[if_pos rfl]at hc;split at hc
  .rename_i hlt;simp only[aB]at hc;subst hc;have:t<arr.size:=by rw[h.1];exact hlt
   simpa [bz,this]using hd
  cases hc
 rw[if_neg hj]at hc;have:=h.2 j c hc;simpa [bz,Array.getElem?_setIfInBounds,hj]using this
theorem Au{env:List DV}{a:Act}(h:ia x env a.tmps){dst:Option Tmp}{d:DV}{v:Value}(hd:RV x d v):ia x (ku env dst d) (a.put dst v).tmps/\(a.put dst v).defers=a.defers:=by
 cases dst with
 |none=>exact⟨h,rfl⟩
 |some t=>exact⟨Pb h hd,rfl⟩
theorem AH{env:List DV}{a:Act}(h:ia x env a.tmps)(ops:Array Oper)(o:Oper):Region.wanted o (yielded ops a.tmps)=cD ops env o:=by
 unfold Region.wanted cD;cases o.guard with
 |none=>rfl
 |some g=>
  obtain⟨j,want⟩:=g;simp only[yielded];cases hb:(ops[j]?).bind (·.dst)with
  |none=>rfl
  |some t=>
   simp only[cn];by_cases ht:t<env.length
   .have h1:=bP ht;have hr:=h.2 t env[t] h1;have h2:t<a.tmps.size:=by rw[h.1];exact ht
    rw[h1,ct h2];simp only[bz,ct h2,kU]at hr;generalize env[t]=d at hr;generalize a.tmps[t]=v at hr;cases hr with
    |@val v hv=>cases v<;>first|rfl|(simp only;cases want<;>rfl)|(rename_i b;cases b<;>cases want<;>rfl)
    |_=>cases want<;>rfl
   rw[fI (y8 ht),mD (by rw[h.1];exact y8 ht)];cases want<;>rfl
def fJ(P:Program)(aa:Machine->Trace->Prop)(x:Cx)(g:FuncId)(vals:Array Value)(Post:Cx->Value->Prop):Prop:=
 (∃fn c,P.funcs[g]? =some fn/\fn.body=some c)/\∀(fr:Frame)(cs:List Frame),(∀y v,Post y v->jf P aa () (G (fr.finish v) cs) y.w)->jf P aa () (G (Frame.enter P g vals .normal) (fr::cs)) x.w
theorem fJ.mono {g:FuncId}{vals:Array Value}{Post Post':Cx->Value->Prop}(h:fJ P aa x g vals Post)(hp:∀y v,Post y v->Post' y v):fJ P aa x g vals Post':=
 ⟨h.1,λfr cs hc=>h.2 fr cs λy v p=>hc y v (hp y v p)⟩
theorem fJ.at {g:FuncId}{vals:Array Value}{Post:Cx->Value->Prop}(h:fJ P aa x g vals Post)(n:Nat):fJ P aa (x.dr n) g vals Post:=
 ⟨h.1,λfr cs hc=>JZ (h.2 fr cs hc) n⟩
def ir(P:Program)(aa:Machine->Trace->Prop)(call:bt):Prop:=
 ∀f args S v S',call f args S=some (v,S')->∀x vals,Rel x->x.S=S->ia x args vals->fJ P aa x f vals λy u=>y.S=S'/\Rel y/\bV x y/\RV y v u
def BJ(P:Program)(aa:Machine->Trace->Prop)(aK:bR):Prop:=
 ∀f args v,aK f args=some v->args.all DV.pure=true->v.pure=true/\∀x vals,Rel x->ia x args vals->fJ P aa x f vals λy u=>y.S=x.S/\Rel y/\bV x y/\RV y v u
def BH(P:Program)(aa:Machine->Trace->Prop)(yf:ej):Prop:=
 ∀id args S v S',yf id args S=some (v,S')->∀x vals,Rel x->x.S=S->ia x args vals->∃lo:Loop,x.w.heap[x.μ id]? =some (.loop lo)/\vals.size=lo.params.size/\
  ∀(fr:Frame)(cs:List Frame),(∀y u,(y.S=S'/\Rel y/\bV x y/\RV y v u)->jf P aa () (G (fr.finish u) cs) y.w)->jf P aa () (G (Frame.round (x.μ id) lo.fn ((lo.params.zip vals).foldl (λtmps (t,a)=>tmps.setIfInBounds t a) lo.tmps) lo.assign lo.body .normal) (fr::cs)) x.w
theorem XV(hc:ir P aa call)(hi:BJ P aa aK){g:FuncId}{args:List DV}{S S':ai}{v:DV}(h:wO aK call g args S=some (v,S')){vals:Array Value}(hR:Rel x)(hS:x.S=S)(ha:ia x args vals):
  fJ P aa x g vals λy u=>y.S=S'/\Rel y/\bV x y/\RV y v u:=by
 unfold wO at h;split at h
 .rename_i hp;split at h;.rename_i v' h1;cases h;subst hS;refine(hi _ _ _ h1 hp).2 x vals hR ⟨by simpa using ha.1,λj c hj=>?_⟩;simp only[cM,af]at hj;obtain⟨c',h2,rfl⟩:=hj;exact(ha.2 j c' h2).strip
  exact hc _ _ _ _ _ h x vals hR hS ha
 exact hc _ _ _ _ _ h x vals hR hS ha
theorem nt{l m:List DV}{a b:Array Value}(h:ia x l a)(k:ia x m b):ia x (l++m) (a++b):=by
 refine⟨by simp[h.1,k.1],λj c hc=>?_⟩;simp only[bz];by_cases hj:j<l.length;.rw[ee hj]at hc;rw[zg (by rw[h.1];exact hj)];simpa [bz]using h.2 j c hc
 rw[iI (by omega)]at hc;rw[zi (by rw[h.1];omega),h.1];simpa [bz]using k.2 _ c hc
theorem K7(hP:Plain P){b:Frame}{a:Act}{k:List Item}{cs:List Frame}{ops:Array Oper}{i:Nat}{rest:List Nat}{o:Oper}{g:FuncId}{fs vs:Array Value}{c:Call}{f:Operand}{Post:Cx->Value->Prop}(hk:b.kind≠.early)
  (ho:ops[i]? =some o) (hw:Region.wanted o (yielded ops a.tmps)=true) (hop:o.op=.call c) (ac7:c.callee=.value f) (hf:a.eval f=.func (.func g) fs vs) (he:fJ P aa x g (fs++c.args.map a.eval++vs) Post)
  (eX:∀y v,Post y v->jf P aa () (G (b.atR (a.put o.dst v) (.inRegion ops rest::k)) cs) y.w):jf P aa () (G (b.atR a (.inRegion ops (i::rest)::k)) cs) x.w:=by
 refine jj hP λn=>?_;have xx:=Frame.finish_atR b a ops i rest k;simp only[ho,cn]at xx;have pG:(b.kind==CallKind.early)=false:=by simpa using hk
 rw[IQ ho hw (by rw[hop];rfl)];obtain⟨⟨fn,cd,h1,h2⟩,h3⟩:=he;have yD:=hP.count g fn h1;have hrun:(execOp a.eval o).run P (x.w.at n)=.ok (.enter g (fs++c.args.map a.eval++vs)) (x.w.at n):=by unfold execOp;simp only[hop,resolve,ac7,hf,Deferred.ofValue,Sem.run_bind,Sem.run_pure,Result.andThen_ok,invoke,callFunc,run_program,h1,yD,aI,if_false,h2,Option.isNone_some]
 refine⟨Frame.enter P g (fs++c.args.map a.eval++vs) .normal,b.atR a (.inRegion ops (i::rest)::k)::cs,x.w.at n,seen P b.fn ((execOp a.eval o).events P (x.w.at n) #[]),?_,JZ (h3 _ cs λy v hp=>?_) n⟩;.simp[stepG.apply,hrun,G,Frame.atR,pG,GStep.after]
 rw[xx];exact eX y v hp
theorem Xg(hP:Plain P){b:Frame}{a:Act}{k:List Item}{cs:List Frame}{ops:Array Oper}{i:Nat}{rest:List Nat}{o:Oper}{l:Nat}{lo:Loop}{c:Call}{f:Operand}{Post:Cx->Value->Prop}(hk:b.kind≠.early)
  (ho:ops[i]? =some o) (hw:Region.wanted o (yielded ops a.tmps)=true) (hop:o.op=.call c) (ac7:c.callee=.value f) (hf:a.eval f=.func (.yield l) #[] #[]) (hl:x.w.heap[l]? =some (.loop lo)) (hsz:(c.args.map a.eval).size=lo.params.size)
  (he:∀(fr:Frame)(cs:List Frame),(∀y u,Post y u->jf P aa () (G (fr.finish u) cs) y.w)->jf P aa () (G (Frame.round l lo.fn ((lo.params.zip (c.args.map a.eval)).foldl (λtmps (t,a)=>tmps.setIfInBounds t a) lo.tmps) lo.assign lo.body .normal) (fr::cs)) x.w)
  (eX:∀y v,Post y v->jf P aa () (G (b.atR (a.put o.dst v) (.inRegion ops rest::k)) cs) y.w):jf P aa () (G (b.atR a (.inRegion ops (i::rest)::k)) cs) x.w:=by
 refine jj hP λn=>?_;have xx:=Frame.finish_atR b a ops i rest k;simp only[ho,cn]at xx;have pG:(b.kind==CallKind.early)=false:=by simpa using hk
 rw[IQ ho hw (by rw[hop];rfl)];have hg:=jI (P:=P) (w:=x.w.at n) (show(x.w.at n).heap[l]? =some (.loop lo)from hl) (by simp);have hrun:(execOp a.eval o).run P (x.w.at n)=.ok (.round l lo.fn ((lo.params.zip (c.args.map a.eval)).foldl (λtmps (t,a)=>tmps.setIfInBounds t a) lo.tmps) lo.assign lo.body) (x.w.at n):=by
  have hne:¬((#[]++c.args.map a.eval).size≠lo.params.size):=by simpa using hsz
  unfold execOp;simp only[hop,resolve,ac7,hf,Deferred.ofValue,Sem.run_bind,Sem.run_pure,Result.andThen_ok,invoke,Instr.yield,Instr.getLoop,hg,if_neg hne];simp
 refine⟨Frame.round l lo.fn _ lo.assign lo.body .normal,b.atR a (.inRegion ops (i::rest)::k)::cs,x.w.at n,seen P b.fn ((execOp a.eval o).events P (x.w.at n) #[]),?_,JZ (he _ cs λy v hp=>?_) n⟩;.simp[stepG.apply,hrun,G,Frame.atR,pG,GStep.after]
 rw[xx];exact eX y v hp
theorem Ur(hP:Plain P)(fu:kC P ty)(hc:ir P aa call)(hi:BJ P aa aK)(CI:BH P aa yf){b:Frame}{a:Act}{k:List Item}{cs:List Frame}{ops:Array Oper}{i:Nat}{rest:List Nat}{o:Oper}{d:DV}{S':ai}{env:List DV}{aF:Nat}(hk:b.kind≠.early)
  (ho:ops[i]? =some o) (hw:Region.wanted o (yielded ops a.tmps)=true) (hR:Rel x) (hn:Fi x.S aF) (he:ia x env a.tmps) (h:ah P ty aK call yf (jr env) o x.S aF=some (d,S'))
  (eX:∀y v,y.S=S'->Rel y->bV x y->RV y d v->jf P aa () (G (b.atR (a.put o.dst v) (.inRegion ops rest::k)) cs) y.w):jf P aa () (G (b.atR a (.inRegion ops (i::rest)::k)) cs) x.w:=by
 by_cases hl:Op.lone o.op=true;.refine R5 hP hk ho hw ?_ (λn=>Ri fu (hR.dr n) hn (xC (he.mono (fE x n))) hl h) eX;cases hop:o.op<;>first|rfl|(simp[ah,hop]at h)
 obtain⟨c,hop⟩:∃c,o.op=.call c:=by cases hop:o.op<;>first|(exact⟨_,rfl⟩)|(exact absurd (by rw[hop];rfl) hl)
 obtain⟨callee,args,ats⟩:=c;cases callee with
 |builtin bi=>exact absurd (by rw[hop];rfl) hl
 |invoke r m=>simp[ah,hop]at h
 |value f=>
  simp only[ah,hop]at h;have wE:=xC he;split at h
  .rename_i g fs lC xs hf Qy;have hfv:=wE f _ hf;have mS:=xB wE Qy;generalize hv:a.eval f=vf at hfv;cases hfv with
   |@fn _ _ _ vfs vcs h1 h2 h3 h4=>
    have fL:ia x (fs++xs++lC) (vfs++args.map a.eval++vcs):=by have e:(args.toList.map a.eval).toArray=args.map a.eval:=Array.toList_inj.1 (by simp);rw[e]at mS;exact nt (nt ⟨h1,h3⟩ mS) ⟨h2,h4⟩
    split at h;.exact K7 hP hk ho hw hop rfl hv (hc _ _ _ _ _ h x _ hR rfl fL) λy v hp=>eX y v hp.1 hp.2.1 hp.2.2.1 hp.2.2.2
    exact K7 hP hk ho hw hop rfl hv (XV hc hi h hR rfl fL) λy v hp=>eX y v hp.1 hp.2.1 hp.2.2.1 hp.2.2.2
  .rename_i id xs hf Qy;have hfv:=wE f _ hf;have mS:=xB wE Qy;generalize hv:a.eval f=vf at hfv;cases hfv with
   |od hS=>have e:(args.toList.map a.eval).toArray=args.map a.eval:=Array.toList_inj.1 (by simp);rw[e]at mS;obtain⟨lo,q1,q2,q3⟩:=CI _ _ _ _ _ h x _ hR rfl mS;exact Xg hP hk ho hw hop rfl hv q1 q2 q3 λy v hp=>eX y v hp.1 hp.2.1 hp.2.2.1 hp.2.2.2
  cases h
theorem IJ(hP:Plain P)(fu:kC P ty)(hc:ir P aa call)(hi:BJ P aa aK)(CI:BH P aa yf){ops:Array Oper}{b:Frame}{k:List Item}{cs:List Frame}(hk:b.kind≠.early):
  ∀(r pre:List Oper),ops.toList=pre++r->∀{env aL:List DV}{S':ai}{a:Act}{x:Cx},HM P ty aK call yf ops r env x.S=some (aL,S')->Rel x->ia x env a.tmps->
   (∀y a',y.S=S'->Rel y->bV x y->ia y aL a'.tmps->a'.defers=a.defers->jf P aa () (G (b.atR a' k) cs) y.w)->jf P aa () (G (b.atR a (.inRegion ops (List.range' pre.length r.length)::k)) cs) x.w
 |[],pre,_,env,aL,S',a,x,h,hR,he,hn=>by simp only[HM,aB,az]at h;obtain⟨rfl,rfl⟩:=h;exact gd hP (λw=>⟨_,ry⟩) (hn x a rfl hR (bV.refl x) he rfl)
 |o::r,pre,HU,env,aL,S',a,x,h,hR,he,hn=>by
  have ho:ops[pre.length]? =some o:=by rw[<-kV,HU];simp
  have abY:ops.toList=(pre++[o])++r:=by rw[HU];simp
  have hlen:(pre++[o]).length=pre.length+1:=by simp
  simp only[dN,List.range'_succ];unfold HM at h;have X6:=AH he ops o;by_cases hw:cD ops env o=true
  .rw[if_pos hw]at h;rw[hw]at X6;obtain⟨x1,k1,k2,k3,k4,k5⟩:=aej (ty:=ty) o hR he;rw[<-k1];split at h;rename_i qo S0 yo;rw[yo]at k2 k5;dsimp only at k2 k5;subst k2;split at h;.rename_i v S1 h1;refine Ur hP fu hc hi CI hk ho X6 k3 (.inl rfl) k5 h1 λy u hyS hyR hyM hyV=>?_;subst hyS;have pH:=Au (k5.mono hyM) (dst:=o.dst) hyV;have:=IJ hP fu hc hi CI hk r (pre++[o]) abY h hyR pH.1 λz a' z1 z2 z3 z4 z5=>hn z a' z1 z2 (k4.trans (hyM.trans z3)) z4 (z5.trans pH.2);rw[hlen]at this;exact this
   cases h
  rw[if_neg hw]at h;have hwf:cD ops env o=false:=by simpa using hw
  rw[hwf]at X6;refine gd hP (λw=>⟨_,u6 ho X6⟩) ?_;have pH:=Au he (dst:=o.dst) (d:=bF) (v:=undef) (.val rfl);have:=IJ hP fu hc hi CI hk r (pre++[o]) abY h hR pH.1 λz a' z1 z2 z3 z4 z5=>hn z a' z1 z2 z3 z4 (z5.trans pH.2);rw[hlen]at this;exact this
end Go.Di
