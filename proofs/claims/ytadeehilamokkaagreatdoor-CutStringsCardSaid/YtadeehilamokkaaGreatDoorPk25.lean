import Derived.Test.YtadeehilamokkaaGreatDoorPk24
import Derived.Conc.CompanyMem
import Derived.Conc.AppendWalk
import Derived.Laws.AppendOwn
import Derived.Below
import Derived.Test.YtadeehilamokkaaGreatDoorPk18
import Derived.AtR
import Derived.RangeFuncIn
namespace Go.Co
open Go Go.Conc
open Go.ConcN (sumTo upd upd_same upd_ne)
variable {P:Program} {aa:Machine->Trace->Prop} {Cs:Nat->Prop}
theorem TF(hP:Plain P){N:Net}(hW:Dp Cs N):∀(γ:Nat->So)(rk:Nat->Tr)(tp:Nat)(gs:Array Goroutine)(w:World)(sl:Option (Nat×Nat))(t:Trace),x8 P aa Cs N γ rk tp gs w t->Zy P aa (crowd gs w sl) t:=by
 induction hW with
 |done N h0 hd=>exactλγ rk tp gs w sl t h=>YB h h0 hd
 |step N hno h0 hsend hrecv hen ada ajA ahl ahq hstart ihm ihs ihh ihg=>
  intro γ rk tp gs w sl t h;have acc:=QO (Bz N.n rk);generalize hl:Bz N.n rk=l at acc;induction acc generalizing γ rk tp gs w sl t with
  |intro l _ ih=>
   subst hl;have Uw:∀g∈gs,awake g:=by intro x hx;obtain⟨i,hi,rfl⟩:=Array.mem_iff_getElem.1 hx;exact awake_of ((h.mem i _ (b7 hi)).awake)
   obtain⟨i,g,d,sl',hi,hg,hst⟩:=crowd_pick (P:=P) (w:=w) (sl:=sl) Uw (XM h hen);have nQ:i<N.n:=by rw[<-h.size];exact(aG.1 hi).1
   have hm:=h.mem i g hi;generalize hrk:rk i=r at hm;generalize UM:N.pr i=p at hm;have h2:=ND h hno d;cases hm with
   |stop n g h3 h4=>
    cases n with
    |zero=>rw[h4.1]at hg;cases hg
    |succ n=>
     rcases h4 with ⟨hf,_⟩|⟨_,g',es,hmu,Vj,hq⟩
     grind
     obtain⟨hrun,qL⟩:=XN (sl:=sl') h2 hi UM h3 hmu Vj hq hsend hrecv;rw[hrun]at hst;exact iz hst (ih _ (zo nQ (by rw[hrk];exact aa4 n)) _ _ _ _ _ sl' _ qL rfl)
   |ret r g h3 h4 h5=>exact absurd UM (hno i nQ).1
   |send c v k g z h3=>cases hg
   |recv c ok z k g h3 h4=>cases hg
   |run p r0 g nH hG=>
    subst UM;cases r0 with
    |node f=>obtain⟨g',w',es,γ',e1,hS,hG'⟩:=hG.2 (w.at d) (Au _ _ _);obtain⟨hrun,qL⟩:=XL (sl:=sl') hP h hno hsend hrecv hi nH e1 hS hG';rw[hrun]at hst;exact iz hst (ih _ (zo nQ (by rw[hrk];exact aeL f (w.at d))) _ _ _ _ _ sl' _ qL rfl)
    |leaf=>
     have hS:=hG (w.at d) (Au _ _ _);cases hp:N.pr i with
     |stop=>exact absurd hp nH.1
     |ret=>exact absurd hp nH.2.1
     |bad=>exact absurd hp nH.2.2
     |send c v k=>rw[hp]at hS;obtain⟨Dk,Ae⟩:=hsend i c v k nQ hp;rcases XP (sl:=sl') h hno hi hp Dk Ae hS.1 hS.2 (λj ok z kr hj hr=>ada i j c v k ok z kr nQ hj hp hr)with ⟨gs',hrun,qL⟩|⟨N',gs',w',ops,F6,hrun,-,⟨j,ok,z,kr,hj,hr,rfl⟩,qL⟩;rw[hrun]at hst;refine iz hst ?_;rw[Array.append_empty];exact ih _ (zo nQ (by rw[hrk];exact KQ)) _ _ _ _ _ sl' _ (ND qL hno d) rfl;rw[hrun]at hst;exact iz hst (ihm i j c v k ok z kr nQ hj hp hr _ _ _ _ _ sl' _ qL)
     |recv c ok z kr=>
      rw[hp]at hS hG;have nR:=hrecv i c ok z kr nQ hp;have hS0:=hG w (iy _ _);cases pU:N.cl c with
      |none=>rcases XQ (sl:=sl') h hno hi hp pU nR hS.1 (λw1 h1=>(hG w1 h1).1) hS0.2 (λj v k hj hs=>ada j i c v k ok z kr hj nQ hs hp)with ⟨gs',hrun,qL⟩|⟨N',gs',w',ops,F6,hrun,-,⟨j,v,k,hj,hs,rfl⟩,qL⟩;rw[hrun]at hst;refine iz hst ?_;rw[Array.append_empty];exact ih _ (zo nQ (by rw[hrk];exact KQ)) _ _ _ _ _ sl' _ (ND qL hno d) rfl;rw[hrun]at hst;exact iz hst (ihm j i c v k ok z kr hj nQ hs hp _ _ _ _ _ sl' _ qL)
      |some E=>obtain⟨gs',ops,F6,hrun,qL⟩:=XR (sl:=sl') (d:=d) h2 hsend hi hp pU nR hS.1 hS.2 (ahq i c ok z kr E nQ hp pU);have hrun:runT P (crowd gs (w.at d) sl') i=_:=hrun;rw[hrun]at hst;exact iz hst (ihh i c ok z kr E nQ hp pU _ _ _ _ _ sl' _ qL)
     |close c k=>
      rw[hp]at hS;obtain⟨-,hmw,g',F7,hstep,hk⟩:=hS;obtain⟨Dk,Ae⟩:=ajA i c k nQ hp;have hw:=ahl i c k nQ hp;have HY:∀j v k',j<N.n->N.pr j≠.send c v k':=by
       intro j v k' hj e;have iW:j≠i:=by rintro rfl;rw[hp]at e;cases e
       have e':(N.shut i c k).pr j=.send c v k':=(upd_ne _ _ iW).trans e;have pU:(N.shut i c k).cl c≠none:=by show upd N.cl c _ c≠none;rw[upd_same];simp
       cases hw with
       |done _ h3 h4=>
        by_cases UO:j=0
        grind
        rw[(h4 j ab hj).1]at e';cases e'
       |step _ _ _ h5=>exact pU (h5 j c v k' hj e').1
      obtain⟨gs',w',ops,F6,hrun,qL⟩:=XO (sl:=sl') (d:=d) hP h2 hno hsend hrecv hi hp Dk Ae hmw F7 hstep hk HY hw;have hrun:runT P (crowd gs (w.at d) sl') i=_:=hrun;rw[hrun]at hst;exact iz hst (ihs i c k nQ hp _ _ _ _ _ sl' _ qL)
     |go ch k=>rw[hp]at hS;obtain⟨Ad,g',x0,F7,e1,Pq,hch,hk⟩:=hS;obtain⟨gs',ops,F6,hrun,qL⟩:=SC (sl:=sl') (d:=d) hP h2 hi hp e1 F7 Pq hch hk (hstart i ch k nQ hp);have hrun:runT P (crowd gs (w.at d) sl') i=_:=hrun;rw[hrun]at hst;exact iz hst (ihg i ch k nQ hp _ _ _ _ _ sl' _ qL)
end Go.Co
namespace Go.Co
open Go Go.Conc
open Go.ConcN (sumTo upd upd_same upd_ne)
variable {P:Program} {aa:Machine->Trace->Prop} {Cs:Nat->Prop}
def entry(n:Nat)(p:Pc):Net:=⟨n,λj=>if j=0 then p else .stop,λ_ j=>0<j/\j<n,λ_=>none⟩
theorem afk(hP:Plain P){p:Pc}{S O:Nat->Prop}{g:Goroutine}{w:World}(hp:p.live)(tj:Pr P aa true p (S,O) g w)
  (hSO:∀b,O b->¬S b) (RU:∀b,S b\/O b->b<w.heap.size)
  (hc:∀c,Cs c->(∃s tm,w.heap[c]? =some (.chan 0 #[] false s s tm))/\¬S c/\¬O c)
  (hW:∀n,0<n->Dp Cs (entry n p)):iI P aa () g w:=by
 intro d hf hr hd gs sl t q h0 hL Kr;have hlt:0<gs.size:=(aG.1 h0).1;obtain⟨r,hG⟩:=Qu hp tj;have hG:=Ew Gh hG (Au (S,O) w d);have hno:∀i a,t.size<=i->touchAt t i=some a->False:=by intro i a hi ha;obtain⟨x,hx,-⟩:=touch_of ha;have:=(aG.1 hx).1;omega
 have nH:∀j,(entry gs.size p).pr j≠.stop->j=0:=by intro j hj;by_cases h:j=0;exact h;exact absurd (by simp[entry,h]) hj
 have akr:(entry gs.size p).pr 0=p:=rfl;have hγ:∀j b,((if j=0 then((S,O):So)else(λ_=>False,λ_=>False)).1 b->j=0/\S b)/\((if j=0 then((S,O):So)else(λ_=>False,λ_=>False)).2 b->j=0/\O b):=by intro j b;by_cases h:j=0<;>simp[h]
 refine TF hP (hW gs.size hlt) (λj=>if j=0 then(S,O)else(λ_=>False,λ_=>False)) (λj=>if j=0 then r.up else Tr.nat (q j)) t.size gs (w.at d) sl t
  ⟨rfl,hlt,λj x hx=>?_,⟨Kr.clean,λj hj=>?_,λi a j hi ha hm hj ov=>?_,λi a b j hi ha=>(hno i a hi ha).elim,λi a b j hi ha=>(hno i a hi ha).elim,λi a b hi ha=>(hno i a hi ha).elim,λi a hi ha=>(hno i a hi ha).elim,λi j hi hg=>?_,λi a j x hi ha=>(hno i a hi ha).elim,λc E hE=>(by cases hE),λj j' b hb=>?_,λj b hb=>?_,λc E j hE=>(by cases hE),λx j hj=>?_,ai _⟩,λc hcc=>?_,λj c ok z k x hx hb J4=>rfl,λi j c v k ok z k' x y hx hy Zs=>?_,λx hx=>?_⟩
 by_cases h:j=0;subst h;rw[h0]at hx;cases hx;have:=Mem.run (P:=P) (aa:=aa) (j:=0) (d:=Deaf t 0) (γ:=(S,O)) (w:=w.at d) p r g hp hG;simpa [entry]using this;have:=Mem.stop (P:=P) (aa:=aa) (j:=j) (d:=Deaf t j) (γ:=((λ_=>False,λ_=>False):So)) (w:=w.at d) (q j) x h (hL.old j x ab hx);simpa [entry,h]using this;rcases hj with hj|hj;rw[nH j hj];exact Kr.hears
 exact hL.above j hj;rw[nH j hj];exact Kr.known i a ha hm;unfold Trace.g? at hg;obtain⟨z,hz,-⟩:=af.1 hg;have:=(aG.1 hz).1;omega;obtain⟨rfl,hO⟩:=(hγ j b).2 hb;refine⟨λhS=>hSO b hO ((hγ j' b).1 hS).2,λhne rQ=>hne ((hγ j' b).2 rQ).1.symm⟩;rcases hb with hb|hb;exact RU b (.inl ((hγ j b).1 hb).2);exact RU b (.inr ((hγ j b).2 hb).2);refine⟨hj.2,?_⟩;have:j≠0:=by have:=hj.1;omega
 simp[entry,this];obtain⟨h1,h2,h3⟩:=hc c hcc;refine⟨h1,λj=>⟨λh=>h2 ((hγ j c).1 h).2,λh=>h3 ((hγ j c).2 h).2⟩⟩
 grind
 grind
variable {fn:FuncId} {γ:So} {c:Code} {a:Act} {w:World}
theorem IE{g:Goroutine}(hd:g.dying=none)(h:iI P aa () g w):KG P aa true (.ret,γ) g w:=λ_ _=>⟨hd,h⟩
theorem VX{g:Goroutine}(h:KG P aa true (.ret,γ) g w):iI P aa () g w:=(h (λh=>ar) ae).2
theorem afS{b:Frame}{k:List Item}{cs:List Frame}{e:Exit}{a:Act}{w:World}(h:CD (KG P aa true) b k cs (.ret,γ) e a w):CD (iI P aa) b k cs () e a w:=by
 cases e with
 |normal=>exact VX h
 |exit id=>obtain⟨k',h1,h2⟩:=h;exact⟨k',h1,VX h2⟩
 |ret=>exactλtodo=>VX (h todo)
 |goto l=>exact h
 |panic ch=>exact h
 |outgrown=>exact h
theorem acw{b:Frame}{k:List Item}{cs:List Frame}{e:Exit}{a:Act}{w:World}(h:CD (iI P aa) b k cs () e a w):CD (KG P aa true) b k cs (.ret,γ) e a w:=by
 cases e with
 |normal=>exact IE rfl h
 |exit id=>obtain⟨k',h1,h2⟩:=h;exact⟨k',h1,IE rfl h2⟩
 |ret=>exactλtodo=>IE rfl (h todo)
 |goto l=>exact h
 |panic ch=>exact h
 |outgrown=>exact h
theorem YO{Q:Gm->Exit->Act->World->Prop}(h:KJ (iI P aa) fn () c (λ_=>Q (.ret,γ)) a w):KJ (KG P aa true) fn (.ret,γ) c Q a w:=
 λb k cs hb hk hc=>IE rfl (h b k cs hb hk λ_ e a' w' q=>afS (hc _ e a' w' q))
theorem YN(hP:Plain P){p:Pc}{S O:Nat->Prop}{Q:Exit->Act->World->Prop}(hp:p.live)
  (hSO:∀b,O b->¬S b) (RU:∀b,S b\/O b->b<w.heap.size)
  (hc:∀c,Cs c->(∃s tm,w.heap[c]? =some (.chan 0 #[] false s s tm))/\¬S c/\¬O c)
  (hW:∀n,0<n->Dp Cs (entry n p))
  (h:KJ (KG P aa true) fn (p,(S,O)) c (λγ' e a' w'=>γ'.1=.ret/\Q e a' w') a w):KJ (iI P aa) fn () c (λ_=>Q) a w:=by
 intro b k cs hb hk ajE;refine afk hP hp (h b k cs hb hk (λγ' e a' w' q=>?_) (λh=>ar) hp.1) hSO RU hc hW;obtain⟨p',γ'⟩:=γ';obtain⟨rfl,q⟩:=q;exact acw (ajE () e a' w' q)
end Go.Co
namespace Go.Co
open Go Go.Conc
variable {P:Program} {aa:Machine->Trace->Prop} {main:Bool} {K:Gm->Goroutine->World->Prop} {fn:FuncId} {p:Pc} {γ:So} {Q:Gm->Exit->Act->World->Prop} {a:Act} {w:World} {ops:Array Oper} {i:Nat} {rest:cy} {o:Oper}
theorem ZH(hp:p≠.ret){w1:World}(h:CQ (p,γ) w w1):iV γ w w1:=by unfold CQ at h;cases p<;>first|exact h|exact absurd rfl hp
theorem stg(hp:p≠.ret){s:So}{w':World}{es:Array Event}(h:JY γ w s w' es):H7 (p,γ) w (p,s) w' es:=by refine⟨rfl,?_⟩;cases p<;>first|exact h|exact absurd rfl hp
def RZ(P:Program)(aa:Machine->Trace->Prop)(γ:Gm)(g:Goroutine)(w:World):Prop:=γ.1=.bad->∀w1,iV γ.2 w w1->iI P aa () g w1
theorem abV(hP:Plain P):KC P true (RZ P aa) CQ H7 where
 step:=λγ fr cs w h hb w0 r0=>by obtain⟨p,γ⟩:=γ;simp only at hb;subst hb;refine(yQ hP).step () fr cs w0 λw1 h1=>?_;obtain⟨d,rfl⟩:=h1;obtain⟨fr',iB,w',es,γ',e,⟨sY,-⟩,hk⟩:=h (w0.at d) (gU r0 (Au γ w0 d));exact⟨fr',iB,w',es,(),e,trivial,hk sY w' (iy _ _)⟩
 idle:=(BA (aa:=aa) (main:=true) hP).idle
 rely:=λγ g w w1 r h hb w2 r2=>by obtain⟨p,γ⟩:=γ;exact h hb w2 (gU (ZH (by simp only at hb;subst hb;simp) r) r2)
theorem abT{c:Code}{Q:Gm->Exit->Act->World->Prop}{Q':Exit->Act->World->Prop}(hq:∀γ' e a w w1,Q γ' e a w->iV γ'.2 w w1->γ'.1=.bad->Q' e a w1)(h:KJ (RZ P aa) fn (.bad,γ) c (λγ' e a w=>γ'.1=.bad/\Q γ' e a w) a w):KJ (iI P aa) fn () c (λ_=>Q') a w:=by
 intro b k cs hb hk hc;refine h b k cs hb hk (λγ' e a' w' q=>?_) rfl w (iy _ _);have dX:∀w1,iV γ'.2 w' w1->CD (iI P aa) b k cs () e a' w1:=λw1 r=>hc () e a' w1 (hq _ _ _ _ _ q.2 r q.1);cases e with
 |normal=>exactλ_ w1 r=>dX w1 r
 |exit id=>obtain⟨k',h1,-⟩:=dX w' (iy _ _);refine⟨k',h1,λ_ w1 r=>?_⟩;obtain⟨k2,h2,h3⟩:=dX w1 r;rw[h1]at h2;cases h2;exact h3
 |ret=>exactλtodo _ w1 r=>dX w1 r todo
 |goto l=>exact(dX w' (iy _ _)).elim
 |panic ch=>exact(dX w' (iy _ _)).elim
 |outgrown=>exact(dX w' (iy _ _)).elim
theorem tg{es:Array Event}(ts:Array TypeId)(t:TypeId)(k k':IntKind)(x y:Int):(Builtin.max_ ts t #[.int k x,.int k' y]).events P w es=es:=by simp[Builtin.max_,Builtin.max2]
theorem tf{es:Array Event}(ts:Array TypeId)(t:TypeId)(k k':IntKind)(x y:Int):(Builtin.min_ ts t #[.int k x,.int k' y]).events P w es=es:=by simp[Builtin.min_,Builtin.min2]
theorem dO(C:KC P main K CQ H7){γ:Gm}{v:Value}(ho:ops[i]? =some o)(hw:Region.wanted o (yielded ops a.tmps)=true)(hrun:∀w,(execOp a.eval o).run P w=.ok (.value v) w)(wu:∀w,(execOp a.eval o).events P w #[]=#[])
  (h:KO K fn γ ops rest Q (a.put o.dst v) w):KO K fn γ ops (i::rest) Q a w:=
 yO C ho hw λw₁ r=>by rw[hrun w₁];exact⟨γ,by rw[listed_nil (wu w₁)];exact C.idle _ _,Ji C r h⟩
theorem av(C:KC P main K CQ H7){γ:Gm}{v:Value}(h:KO K fn γ ops rest Q (a.put o.dst v) w)(ho:ops[i]? =some o:=by rfl)(hw:Region.wanted o (yielded ops a.tmps)=true:=by rfl)(hrun:∀w,(execOp a.eval o).run P w=.ok (.value v) w:=by exactλw=>run_eq_of λK hK=>(by go_simp;exact hK))(wu:∀w,(execOp a.eval o).events P w #[]=#[]:=by intro w;first|(simp[go_sem];done)|(simp[go_sem, *];done)):KO K fn γ ops (i::rest) Q a w:=dO C ho hw hrun wu h
theorem NU(C:KC P main K CQ H7)(hp:p≠.ret)(ho:ops[i]? =some o)(hw:Region.wanted o (yielded ops a.tmps)=true)
  (h:∀w₁,iV γ w w₁->∃v w' s,(execOp a.eval o).run P w₁=.ok (.value v) w'/\JY γ w₁ s w' (listed P fn a o w₁)/\KO K fn (p,s) ops rest Q (a.put o.dst v) w'):KO K fn (p,γ) ops (i::rest) Q a w:=
 yO C ho hw λw₁ r=>by obtain⟨v,w',s,h1,h2,h3⟩:=h w₁ (ZH hp r);rw[h1];exact⟨(p,s),stg hp h2,h3⟩
theorem qM(C:KC P main K CQ H7)(hp:p≠.ret){v:Value}(ho:ops[i]? =some o)(hw:Region.wanted o (yielded ops a.tmps)=true)
  (hrun:∀w₁,iV γ w w₁->(execOp a.eval o).run P w₁=.ok (.value v) w₁/\∀e∈(execOp a.eval o).events P w₁ #[],Z6 γ.1 γ.2 e) (h:KO K fn (p,γ) ops rest Q (a.put o.dst v) w):KO K fn (p,γ) ops (i::rest) Q a w:=
 NU C hp ho hw λw₁ r=>⟨v,w₁,γ,(hrun w₁ r).1,⟨rfl,KX λe he=>(hrun w₁ r).2 e (mem_listed he)⟩,Ji C (by unfold CQ;cases p<;>first|exact r|exact absurd rfl hp) h⟩
def So.more (γ:So)(n:Nat):So:=(γ.1,λb=>γ.2 b\/b=n)
theorem abb(ob:Obj):JY γ w (γ.more w.heap.size) (w.alloc ob) #[]:=by
 have hsz:(w.alloc ob).heap.size=w.heap.size+1:=ae
 refine⟨rfl,λb=>?_,ab,λb hb _=>RowKit.Below.heap_alloc _ _ _ hb,rfl,rfl,rfl,ae⟩;show γ.2 b\/b=w.heap.size↔_;rw[hsz];refine or_congr_right ?_;omega
theorem IC(C:KC P main K CQ H7)(hp:p≠.ret){f:Nat->Value}{ob:Obj}(ho:ops[i]? =some o)(hw:Region.wanted o (yielded ops a.tmps)=true)
  (hrun:∀w,(execOp a.eval o).run P w=.ok (.value (f w.heap.size)) (w.alloc ob)) (wu:∀w,(execOp a.eval o).events P w #[]=#[])
  (h:∀w₁,iV γ w w₁->KO K fn (p,γ.more w₁.heap.size) ops rest Q (a.put o.dst (f w₁.heap.size)) (w₁.alloc ob)):KO K fn (p,γ) ops (i::rest) Q a w:=
 NU C hp ho hw λw₁ r=>⟨_,_,_,hrun w₁,by rw[listed_nil (wu w₁)];exact abb ob,h w₁ r⟩
theorem qN(C:KC P main K CQ H7)(hp:p≠.ret){ob:Obj}(ho:ops[i]? =some o)(hw:Region.wanted o (yielded ops a.tmps)=true)
  (hrun:∀w,(execOp a.eval o).run P w=.ok (.value (.pointer (some ⟨w.heap.size,0,none⟩))) (w.alloc ob)) (wu:∀w,(execOp a.eval o).events P w #[]=#[])
  (h:∀w₁,iV γ w w₁->KO K fn (p,γ.more w₁.heap.size) ops rest Q (a.put o.dst (.pointer (some ⟨w₁.heap.size,0,none⟩))) (w₁.alloc ob)):KO K fn (p,γ) ops (i::rest) Q a w:=
 IC C hp (f:=λn=>.pointer (some ⟨n,0,none⟩)) ho hw hrun wu h
theorem WS(C:KC P main K CQ H7)(hp:p≠.ret){ob:Obj}{n:Nat}(ho:ops[i]? =some o)(hw:Region.wanted o (yielded ops a.tmps)=true)
  (hrun:∀w,(execOp a.eval o).run P w=.ok (.value (.slice (some ⟨w.heap.size,0,none⟩) n n)) (w.alloc ob)) (wu:∀w,(execOp a.eval o).events P w #[]=#[])
  (h:∀w₁,iV γ w w₁->KO K fn (p,γ.more w₁.heap.size) ops rest Q (a.put o.dst (.slice (some ⟨w₁.heap.size,0,none⟩) n n)) (w₁.alloc ob)):KO K fn (p,γ) ops (i::rest) Q a w:=
 IC C hp (f:=λm=>.slice (some ⟨m,0,none⟩) n n) ho hw hrun wu h
theorem aba{ad:Addr}{v:Value}{es:Array Event}(hO:γ.2 ad.block)(hes:∀e∈es,Z6 γ.1 γ.2 e):JY γ w γ (w.setCell ad v) es:=by have hsz:(w.setCell ad v).heap.size=w.heap.size:=World.size_setCell ..;refine⟨rfl,λb=>⟨.inl,λh=>h.elim id λh=>absurd h.2 ab⟩,ab,λb _ hn=>?_,rfl,rfl,rfl,hes⟩;exact heap_setCell_other _ _ _ _ (λe=>hn (e▸hO))
theorem NT(C:KC P main K CQ H7)(hp:p≠.ret){ad:Addr}{v:Value}(ho:ops[i]? =some o)(hw:Region.wanted o (yielded ops a.tmps)=true)(hO:γ.2 ad.block)
  (hrun:∀w₁,iV γ w w₁->(execOp a.eval o).run P w₁=.ok .skip (w₁.setCell ad v)/\∀e∈(execOp a.eval o).events P w₁ #[],e=⟨.cell ad,true,false⟩)
  (h:∀w₁,iV γ w w₁->KO K fn (p,γ) ops rest Q (a.put o.dst undef) (w₁.setCell ad v)):KO K fn (p,γ) ops (i::rest) Q a w:=
 yO C ho hw λw₁ r=>by obtain⟨h1,h2⟩:=hrun w₁ (ZH hp r);rw[h1];refine⟨(p,γ),stg hp (aba hO λe he=>?_),h w₁ (ZH hp r)⟩;rw[h2 e (mem_listed he)];exact .inl ⟨ad,true,false,rfl,λ_=>hO,.inr hO⟩
theorem pM{Γ:Type}{K:Γ->Goroutine->World->Prop}{Rl:Γ->World->World->Prop}{St:Γ->World->Γ->World->Array Event->Prop}{γ:Γ}{Q:Γ->Exit->Act->World->Prop}(C:KC P main K Rl St){c:Code}(I:Nat->Γ->Act->World->Prop){n:Nat}(h₀:I n γ a w)
  (round:∀n γ a w,I n γ a w->KJ K fn γ c (λγ'=>Exit.then (λa' w'=>∃m,m<n/\I m γ' a' w') (Q γ')) a w):KJ K fn γ (.loop c) Q a w:=by
 intro b k cs hb hk hc;have key:∀n γ a w,I n γ a w->K γ (G (b.at a (.code c::.inLoop c::k)) cs) w:=by
  intro n;induction n using Nat.strongRecOn with
  |ind n ih=>
   intro γ a w hI;refine round n γ a w hI b (.inLoop c::k) cs hb hk λγ' e a' w' q=>?_;cases e with
   |normal=>obtain⟨m,hm,q⟩:=q;exact C.go (λ_=>stepG_inLoop) (ih m hm γ' a' w' q)
   |exit id=>exact(hc _ _ _ _ q).push rfl ae
   |ret=>exact CD.push (x:=.inLoop c) rfl ae (hc _ _ _ _ q)
   |goto l=>exact hc _ _ _ _ q
   |panic ch=>exact hc _ _ _ _ q
   |outgrown=>exact hc _ _ _ _ q
 exact C.go (λ_=>stepG_loop) (key n γ a w h₀)
theorem pY{F:(Nat->Value)->Act}(h:a=F λn=>a.tmps.getD n undef):∃u,a=F u:=⟨_,h⟩
theorem ey{N:Act->World->Prop}{R:Exit->Act->World->Prop}(h:N a w):Exit.then N R .normal a w:=h
def bF(γ:So)(w:World)(ad:Addr)(v:Value):Prop:=γ.all ad.block/\w.cell? ad=some v
theorem bF.rely {ad:Addr}{v:Value}{w1:World}(h:bF γ w ad v)(r:iV γ w w1):bF γ w1 ad v:=
 ⟨h.1,(World.cell?_of_block (r.2.1 ad.block h.1)).trans h.2⟩
theorem bF.lt {ad:Addr}{v:Value}(h:bF γ w ad v):ad.block<w.heap.size:=World.block_lt_of_cell? w ad h.2
theorem bF.alloc {ad:Addr}{v:Value}(h:bF γ w ad v)(n:Nat)(ob:Obj):bF (γ.more n) (w.alloc ob) ad v:=
 ⟨h.1.imp id .inl,(World.cell?_alloc_lt w ob ad h.lt).trans h.2⟩
theorem bF.put {ad ad':Addr}{v v':Value}(h:bF γ w ad v)(hne:ad'≠ad):bF γ (w.setCell ad' v') ad v:=
 ⟨h.1,(World.cell?_setCell_other w ad' ad v' hne).trans h.2⟩
theorem bF.JW {ad:Addr}{v:Value}(h:bF γ w ad v):Z6 γ.1 γ.2 ⟨.cell ad,false,false⟩:=.inl ⟨ad,false,false,rfl,λh=>ar,h.1⟩
theorem bF.fresh {w:World}{n j:Nat}{cs:Array Value}{t:TypeId}{v:Value}(hn:n=w.heap.size)(h:cs[j]? =some v):bF (γ.more n) (w.alloc (.cells cs t)) ⟨n,j,none⟩ v:=by subst hn;exact⟨.inr (.inr rfl),by rw[World.cell?_alloc_new,h]⟩
theorem iX(C:KC P main K CQ H7)(hp:p≠.ret){v:Value}{ad:Addr}{x:Value}(hs:bF γ w ad x)(h:KO K fn (p,γ) ops rest Q (a.put o.dst v) w)(ho:ops[i]? =some o:=by rfl)(hw:Region.wanted o (yielded ops a.tmps)=true:=by rfl)(hrun:∀w₁:World,w₁.cell? ad=some x->(execOp a.eval o).run P w₁=.ok (.value v) w₁:=by exactλw₁ hc=>run_eq_of λK hK=>(by go_simp;exact hK))(wu:∀w₁:World,w₁.cell? ad=some x->Z6 γ.1 γ.2 ⟨.cell ad,false,false⟩->∀e∈(execOp a.eval o).events P w₁ #[],Z6 γ.1 γ.2 e:=by intro w₁ hc hv e he;simp[go_sem,hc]at he;subst he;exact hv):KO K fn (p,γ) ops (i::rest) Q a w:=
 qM C hp ho hw (λw₁ r=>⟨hrun w₁ (hs.rely r).2,wu w₁ (hs.rely r).2 (hs.rely r).JW⟩) h
theorem ct{Γ:Type}{K:Γ->Goroutine->World->Prop}{Rl:Γ->World->World->Prop}{St:Γ->World->Γ->World->Array Event->Prop}{γ:Γ}{Q:Γ->Exit->Act->World->Prop}(C:KC P main K Rl St){id:Nat}{L:cy}(h:KO K fn γ ops L Q a w)(hL:List.range ops.size=L:=by conv=>lhs;simp only[iT,cT,gr,Nat.reduceAdd,eO,List.range,List.range.loop]):KJ K fn γ (.region id ops false) Q a w:=Bf C (hL▸h)
def Ag(γ:So)(w:World)(v:Value)(l:cj):Prop:=∃A cap,v=.slice A l.length cap/\∀i x,l[i]? =some x->∃ad,A=some ad/\bF γ w (ad.add i) (.int .i64 x)
theorem Ag.rely {v:Value}{l:cj}{w1:World}(h:Ag γ w v l)(r:iV γ w w1):Ag γ w1 v l:=by obtain⟨A,cap,rfl,h⟩:=h;exact⟨A,cap,rfl,λi x hx=>by obtain⟨ad,h1,h2⟩:=h i x hx;exact⟨ad,h1,h2.rely r⟩⟩
theorem Ag.alloc {v:Value}{l:cj}(h:Ag γ w v l)(n:Nat)(ob:Obj):Ag (γ.more n) (w.alloc ob) v l:=by obtain⟨A,cap,rfl,h⟩:=h;exact⟨A,cap,rfl,λi x hx=>by obtain⟨ad,h1,h2⟩:=h i x hx;exact⟨ad,h1,h2.alloc n ob⟩⟩
structure Kept (γ:So) (w:World) (γ':So) (w':World):Prop where
 shr:γ'.1=γ.1
 own:∀b,γ.2 b->γ'.2 b
 blk:∀b,γ.all b->b<w.heap.size->w'.heap[b]? =w.heap[b]?
 size:w.heap.size<=w'.heap.size
 env:w'.os=w.os/\w'.output=w.output
theorem Kept.all {γ':So}{w':World}(h:Kept γ w γ' w'){b:Nat}(hb:γ.all b):γ'.all b:=hb.imp (by rw[h.shr];exact id) (h.own b)
theorem Kept.refl (γ:So)(w:World):Kept γ w γ w:=⟨rfl,λ_ h=>h,λ_ _ _=>rfl,ai _,rfl,rfl⟩
theorem Kept.trans {γ' γ'':So}{w' UE:World}(h:Kept γ w γ' w')(k:Kept γ' w' γ'' UE):Kept γ w γ'' UE:=
 ⟨k.shr.trans h.shr,λb hb=>k.own b (h.own b hb),λb hb hlt=>(k.blk b (h.all hb) (cK hlt h.size)).trans (h.blk b hb hlt),bt h.size k.size,k.env.1.trans h.env.1,k.env.2.trans h.env.2⟩
theorem Kept.rely {w1:World}(r:iV γ w w1):Kept γ w γ w1:=⟨rfl,λ_ h=>h,λb hb _=>r.2.1 b hb,r.1,r.2.2.2⟩
theorem Kept.alloc (γ:So)(w:World)(n:Nat)(ob:Obj):Kept γ w (γ.more n) (w.alloc ob):=⟨rfl,λ_ h=>.inl h,λb _ hlt=>RowKit.Below.heap_alloc _ _ _ hlt,ae,rfl,rfl⟩
theorem Kept.sees {γ':So}{w':World}(h:Kept γ w γ' w'){ad:Addr}{v:Value}(s:bF γ w ad v):bF γ' w' ad v:=
 ⟨h.all s.1,(World.cell?_of_block (h.blk ad.block s.1 s.lt)).trans s.2⟩
theorem Kept.HT {γ':So}{w':World}(h:Kept γ w γ' w'){v:Value}{l:cj}(s:Ag γ w v l):Ag γ' w' v l:=by obtain⟨A,cap,rfl,s⟩:=s;exact⟨A,cap,rfl,λi x hx=>by obtain⟨ad,h1,h2⟩:=s i x hx;exact⟨ad,h1,h.sees h2⟩⟩
end Go.Co
namespace Go.Co
open Go Go.Conc
variable {P:Program} {aa:Machine->Trace->Prop} {fn:FuncId} {γ:So} {a:Act} {w:World} {ops:Array Oper} {i:Nat} {rest:cy} {o:Oper}
theorem My(hP:Plain P){b:Frame}{k:List Item}{cs:List Frame}(hk:b.kind≠.early){f:FuncId}{args:Array Operand}{ats:Array TypeId}{R:Value->World->Prop}
  (ho:ops[i]? =some o) (hw:Region.wanted o (yielded ops a.tmps)=true) (hop:o.op=.call {callee:=.value (.func f),args,argTypes:=ats}) {tF:Func} {c:Code} (hf:P.funcs[f]? =some tF) (hb:tF.body=some c)
  (nI:∀τ,Calls P f (args.map a.eval) (w.re τ 0) λe w'=>∃v,e=.returned v/\R v w') (eW:∀v w',R v w'->∀τ d,iI P aa () (G (b.at (a.put o.dst v) (.inRegion ops rest::k)) cs) (w'.re τ d)):iI P aa () (G (b.at a (.inRegion ops (i::rest)::k)) cs) w:=by
 refine QV hP λ_ τ=>?_;obtain⟨e,w',fr,⟨v,rfl,hR⟩,NY,UT,kU⟩:=nI τ (b.at a (.inRegion ops (i::rest)::k)::cs);have ahw:=eW v w' hR;have yw:=hP.count f tF hf;have hstep:step P (lone (b.at a (.inRegion ops (i::rest)::k)) cs (w.re τ 0))=.next (lone (Frame.enter P f (args.map a.eval) .normal) (b.at a (.inRegion ops (i::rest)::k)::cs) (w.re τ 0)):=by
  refine step_lone_go ?_;have:=goes_call (P:=P) (main:=true) (b:=b) (k:=k) (cs:=cs) (w:=w.re τ 0) (K:=λg w' es=>g=G ((base f).at {tmps:=args.map a.eval++Array.replicate (tF.ntmps-(args.map a.eval).size) undef,defers:=[]} [.code c]) (b.at a (.inRegion ops (i::rest)::k)::cs)/\w'=w.re τ 0/\es=#[]) ho hw hk hop hf yw hb ⟨rfl,rfl,rfl⟩;obtain⟨g',w2,es,e1,e2,e3,e4⟩:=goes_elim this;subst e2 e3 e4;have NX:Frame.enter P f (args.map a.eval) .normal=(base f).at {tmps:=args.map a.eval++Array.replicate (tF.ntmps-(args.map a.eval).size) undef,defers:=[]} [.code c]:=by simp[Frame.enter,Frame.at,hf,hb,base]
  rw[NX];show(stepG P true (G (b.at a (.inRegion ops (i::rest)::k)) cs) (w.re τ 0)).bare=_;rw[e1];rfl
 have V6:step P (lone fr (b.at a (.inRegion ops (i::rest)::k)::cs) w')=.next (lone (b.at (a.put o.dst v) (.inRegion ops rest::k)) cs w'):=by rw[step_leave_returned kU,Frame.finish_at,ho];rfl
 have afq:Steps P (lone (b.at a (.inRegion ops (i::rest)::k)) cs (w.re τ 0)) (lone (b.at (a.put o.dst v) (.inRegion ops rest::k)) cs w'):=
  (Steps.one hstep).trans (Steps.trans NY (Steps.one V6))
 obtain⟨n,hn⟩:=afq;exact⟨n,_,w',hn,rfl,rfl,λτ d=>ahw τ d⟩
theorem abI(hP:Plain P){Q:Unit->Exit->Act->World->Prop}{f:FuncId}{args:Array Operand}{ats:Array TypeId}{R:Value->World->Prop}
  (ho:ops[i]? =some o) (hw:Region.wanted o (yielded ops a.tmps)=true) (hop:o.op=.call {callee:=.value (.func f),args,argTypes:=ats}) {tF:Func} {c:Code} (hf:P.funcs[f]? =some tF) (hb:tF.body=some c)
  (nI:∀τ,Calls P f (args.map a.eval) (w.re τ 0) λe w'=>∃v,e=.returned v/\R v w') (eW:∀v w',R v w'->∀τ d,KO (iI P aa) fn () ops rest Q (a.put o.dst v) (w'.re τ d)):KO (iI P aa) fn () ops (i::rest) Q a w:=
 λb k cs hbf hk hc=>My hP hk ho hw hop hf hb nI λv w' hR τ d=>eW v w' hR τ d b k cs hbf hk hc
theorem OW{f:FuncId}{args:Array Value}{Post:Gm->Value->World->Prop}{Post':Value->World->Prop}(hq:∀γ' v w w1,Post γ' v w->γ'.1=.bad->iV γ'.2 w w1->Post' v w1)
  (h:yE (RZ P aa) P (.bad,γ) f args w (λγ' v w=>γ'.1=.bad/\Post γ' v w)):yE (iI P aa) P () f args w (λ_=>Post'):=by
 obtain⟨tF,c,h1,h2,h3,h4⟩:=h;refine⟨tF,c,h1,h2,h3,?_⟩;refine abT (Q:=λγ'=>PV P tF Post γ') (λγ' e a w w1 q r hb=>?_) (yP h4 λγ' e a w q=>?_);cases e with
 |normal=>obtain⟨hd,v,hr,hp⟩:=q;exact⟨hd,v,hr,hq _ _ _ _ hp hb r⟩
 |ret=>obtain⟨hd,v,hr,hp⟩:=q;exact⟨hd,v,hr,hq _ _ _ _ hp hb r⟩
 |exit id=>exact q
 |goto l=>exact q
 |panic ch=>exact q
 |outgrown=>exact q
 cases e with
 |normal=>obtain⟨hd,v,hr,hb,hp⟩:=q;exact⟨hb,hd,v,hr,hp⟩
 |ret=>obtain⟨hd,v,hr,hb,hp⟩:=q;exact⟨hb,hd,v,hr,hp⟩
 |exit id=>exact q.elim
 |goto l=>exact q.elim
 |panic ch=>exact q.elim
 |outgrown=>exact q.elim
end Go.Co
namespace Go.Di
open Go Go.Conc Go.Co
variable {P:Program} {aa:Machine->Trace->Prop} {ty:fo} {x:Cx} {aD:bT} {call:bg} {yf:dx}
theorem iN(hP:Plain P){fr:Frame}{cs:List Frame}{w:World}(h:∀d,∃fr' iB w' es,stepG P true (G fr cs) (w.at d)=.go (G fr' iB) w' es/\iI P aa () (G fr' iB) w'):iI P aa () (G fr cs) w:=
 (yQ hP).step () fr cs w λw1 h1=>by obtain⟨d,rfl⟩:=h1;obtain⟨fr',iB,w',es,e,hk⟩:=h d;exact⟨fr',iB,w',es,(),e,trivial,hk⟩
theorem Ko{g:Goroutine}{w:World}(h:iI P aa () g w)(d:Nat):iI P aa () g (w.at d):=λd'=>h d'
theorem fL(hP:Plain P){fr fr':Frame}{cs iB:List Frame}{w:World}(h:∀w,∃es,stepG P true (G fr cs) w=.go (G fr' iB) w es)(hk:iI P aa () (G fr' iB) w):iI P aa () (G fr cs) w:=
 iN hP λd=>by obtain⟨es,e⟩:=h (w.at d);exact⟨fr',iB,_,es,e,Ko hk d⟩
section ahe
variable {b:Frame} {a:Act} {k:List Item} {cs:List Frame} {w:World}
theorem abp:stepG P true (G (b.atR a (.code .skip::k)) cs) w=.go (G (b.atR a k) cs) w #[]:=by simp[G,stepG,stepG.exec,Frame.atR]
theorem Ye{l:Nat}:stepG P true (G (b.atR a (.code (.label l)::k)) cs) w=.go (G (b.atR a k) cs) w #[]:=by simp[G,stepG,stepG.exec,Frame.atR]
theorem Ou{id:Nat}:stepG P true (G (b.atR a (.inBlock id::k)) cs) w=.go (G (b.atR a k) cs) w #[]:=by simp[G,stepG,stepG.exec,Frame.atR]
theorem Ot{c:Code}:stepG P true (G (b.atR a (.inScope c::k)) cs) w=.go (G (b.atR a k) cs) w #[]:=by simp[G,stepG,stepG.exec,Frame.atR]
theorem ae2{x y:Code}:stepG P true (G (b.atR a (.code (.seq x y)::k)) cs) w=.go (G (b.atR a (.code x::.code y::k)) cs) w #[]:=by simp[G,stepG,stepG.exec,Frame.atR]
theorem Qt{c:Operand}{x y:Code}{t:Bool}(h:a.eval c=.bool t):stepG P true (G (b.atR a (.code (.cond c x y)::k)) cs) w=.go (G (b.atR a (.code (if t then x else y)::k)) cs) w #[]:=by have:=congrFun (Frame.eval_atR b a (.code (.cond c x y)::k)) c;simp only[Frame.atR]at this;simp[G,stepG,stepG.exec,Frame.atR,this,h]
theorem Yf{id:Nat}{c:Code}:stepG P true (G (b.atR a (.code (.block id c)::k)) cs) w=.go (G (b.atR a (.code c::.inBlock id::k)) cs) w #[]:=by simp[G,stepG,stepG.exec,Frame.atR]
theorem Yc{c:Code}:stepG P true (G (b.atR a (.code (.scope c)::k)) cs) w=.go (G (b.atR a (.code c::.inScope c::k)) cs) w #[]:=by simp[G,stepG,stepG.exec,Frame.atR]
theorem abq{c:Code}:stepG P true (G (b.atR a (.code (.loop c)::k)) cs) w=.go (G (b.atR a (.code c::.inLoop c::k)) cs) w #[]:=by simp[G,stepG,stepG.exec,Frame.atR]
theorem SX{c:Code}:stepG P true (G (b.atR a (.inLoop c::k)) cs) w=.go (G (b.atR a (.code c::.inLoop c::k)) cs) w #[]:=by simp[G,stepG,stepG.exec,Frame.atR]
theorem abr{id:Nat}{k':List Item}(h:exitTo id k=some k'):stepG P true (G (b.atR a (.code (.exit id)::k)) cs) w=.go (G (b.atR a k') cs) w #[]:=by simp[G,stepG,stepG.exec,Frame.atR,h]
theorem SV{id:Nat}{ops:Array Oper}:stepG P true (G (b.atR a (.code (.region id ops false)::k)) cs) w=.go (G (b.atR a (.inRegion ops (List.range ops.size)::k)) cs) w #[]:=by simp[G,stepG,stepG.exec,Frame.atR]
theorem Oq{id:Nat}{ops:Array Oper}(hm:P.follows .mixedOrders=true):stepG P true (G (b.atR a (.code (.region id ops true)::k)) cs) w=.go (G (b.atR a (.inRegion ops (Region.linearise .any ops (w.tape w.drawn (.order b.fn id)))::k)) cs) (w.at (w.drawn+1)) #[]:=by simp[G,stepG,stepG.exec,Frame.atR,choose,Sem.run,Question.forced,Question.cut,Region.schedule,hm,World.at]
theorem qR{ops:Array Oper}:stepG P true (G (b.atR a (.inRegion ops []::k)) cs) w=.go (G (b.atR a k) cs) w #[]:=by simp[G,stepG,stepG.exec,Frame.atR]
def QG(o:Op):Bool:=match o with|.defer _=>false|_=>true
theorem I8{ops:Array Oper}{i:Nat}{rest:cy}{o:Oper}(ho:ops[i]? =some o)(hw:Region.wanted o (yielded ops a.tmps)=true)(hd:QG o.op=true):
  stepG P true (G (b.atR a (.inRegion ops (i::rest)::k)) cs) w=stepG.apply P true (b.atR a (.inRegion ops (i::rest)::k)) cs none (execOp a.eval o) w:=by
 have he:=Frame.eval_atR b a (.inRegion ops (i::rest)::k);simp only[Frame.atR]at he;have h1:stepG P true (G (b.atR a (.inRegion ops (i::rest)::k)) cs) w=stepG.oper P true (b.atR a (.inRegion ops (i::rest)::k)) cs none w:=by simp[G,stepG,stepG.exec,Frame.atR,ho,hw]
 rw[h1];unfold stepG.oper;have hop:(b.atR a (.inRegion ops (i::rest)::k)).oper?=some o:=by simp[Frame.oper?,Frame.atR,ho]
 simp only[hop];have wu:(b.atR a (.inRegion ops (i::rest)::k)).eval=a.eval:=Frame.eval_atR b a _;split;rename_i l c h2 h3;rw[h3]at hd;cases hd;rw[wu]
theorem uI{ops:Array Oper}{i:Nat}{rest:cy}{o:Oper}(ho:ops[i]? =some o)(hw:Region.wanted o (yielded ops a.tmps)=false):
  stepG P true (G (b.atR a (.inRegion ops (i::rest)::k)) cs) w=.go (G (b.atR (a.put o.dst undef) (.inRegion ops rest::k)) cs) w #[]:=by
 have hf:=Frame.finish_atR b a ops i rest k undef;simp only[ho,bQ]at hf;rw[<-hf];simp[G,stepG,stepG.exec,Frame.atR,ho,hw]
end ahe
theorem TH(hP:Plain P){b:Frame}{a:Act}{k:List Item}{cs:List Frame}{ops:Array Oper}{i:Nat}{rest:cy}{o:Oper}{d:DV}{S':aj}(hk:b.kind≠.early)
  (ho:ops[i]? =some o) (hw:Region.wanted o (yielded ops a.tmps)=true) (hd:QG o.op=true) (hy:∀n,Yields (x.dr n) ((execOp a.eval o).run P (x.w.at n)) d S')
  (eW:∀y v,y.S=S'->Rel y->bE x y->RV y d v->iI P aa () (G (b.atR (a.put o.dst v) (.inRegion ops rest::k)) cs) y.w):iI P aa () (G (b.atR a (.inRegion ops (i::rest)::k)) cs) x.w:=by
 refine iN hP λn=>?_;obtain⟨v,y,h1,h2,h3,h4,h5⟩:=hy n;have hf:=Frame.finish_atR b a ops i rest k;simp only[ho,bQ]at hf;have oT:(b.kind==CallKind.early)=false:=by simpa using hk
 rw[I8 ho hw hd];rcases h1 with h1|⟨h1,rfl⟩;refine⟨b.atR (a.put o.dst v) (.inRegion ops rest::k),cs,y.w,seen P b.fn ((execOp a.eval o).events P (x.w.at n) #[]),?_,eW y v h2 h3 ((eN x n).trans h4) h5⟩;rw[<-hf];simp[stepG.apply,h1,G,Frame.atR,oT,GStep.after];refine⟨b.atR (a.put o.dst undef) (.inRegion ops rest::k),cs,y.w,seen P b.fn ((execOp a.eval o).events P (x.w.at n) #[]),?_,eW y undef h2 h3 ((eN x n).trans h4) h5⟩;rw[<-hf];simp[stepG.apply,h1,G,Frame.atR,oT,GStep.after]
end Go.Di
namespace Go.Di
open Go Go.Conc Go.Co
variable {P:Program} {aa:Machine->Trace->Prop} {ty:fo} {x:Cx} {aD:bT} {call:bg} {yf:dx}
theorem xA{env:cn}{a:Act}(h:gb x env a.tmps):xw x (ir env) a.eval:=by
 intro o d ho;cases o with
 |tmp t=>
  simp only[ir,aF]at ho;subst ho;by_cases ht:t<env.length;have:=h.2 t env[t] (aT ht);simpa [Act.eval,aK,ht]using this;have h1:env[t]? =none:=qD (yX ht);have h2:a.tmps[t]? =none:=vF (by rw[h.1];exact yX ht);have:a.eval (.tmp t)=undef:=by simp[Act.eval,aW,h2]
  rw[this,aK,h1];exact .val rfl
 |const v=>exact zf ho
 |func f=>simp only[ir,aF]at ho;subst ho;exact .fn rfl rfl ae ae
 |global g=>cases ho
theorem Qg{env:cn}{arr:Array Value}(h:gb x env arr){t:Nat}{d:DV}{v:Value}(hd:RV x d v):gb x (env.set t d) (arr.setIfInBounds t v):=by
 refine⟨by simpa using h.1,λj c hc=>?_⟩;rw[aN]at hc;by_cases hj:t=j;subst hj;rw[if_pos rfl]at hc;split at hc;rename_i hlt;simp only[aF]at hc;subst hc;have:t<arr.size:=by rw[h.1];exact hlt
 simpa [aW,this]using hd;cases hc;rw[if_neg hj]at hc;have:=h.2 j c hc;simpa [aW,Array.getElem?_setIfInBounds,hj]using this
theorem Av{env:cn}{a:Act}(h:gb x env a.tmps){dst:Option Tmp}{d:DV}{v:Value}(hd:RV x d v):gb x (j4 env dst d) (a.put dst v).tmps/\(a.put dst v).defers=a.defers:=by
 cases dst with
 |none=>exact⟨h,rfl⟩
 |some t=>exact⟨Qg h hd,rfl⟩
theorem AK{env:cn}{a:Act}(h:gb x env a.tmps)(ops:Array Oper)(o:Oper):Region.wanted o (yielded ops a.tmps)=cv ops env o:=by
 unfold Region.wanted cv;cases o.guard with
 |none=>rfl
 |some g=>
  obtain⟨j,want⟩:=g;simp only[yielded];cases hb:(ops[j]?).bind (·.dst)with
  |none=>rfl
  |some t=>
   simp only[bQ];by_cases ht:t<env.length;have h1:=aT ht;have hr:=h.2 t env[t] h1;have h2:t<a.tmps.size:=by rw[h.1];exact ht
   rw[h1,b7 h2];simp only[aW,b7 h2,sE]at hr;generalize env[t]=d at hr;generalize a.tmps[t]=v at hr;cases hr with
   |@val v hv=>cases v<;>first|rfl|(simp only;cases want<;>rfl)|(rename_i b;cases b<;>cases want<;>rfl)
   |_=>cases want<;>rfl
   rw[qD (yX ht),vF (by rw[h.1];exact yX ht)];cases want<;>rfl
def eP(P:Program)(aa:Machine->Trace->Prop)(x:Cx)(g:FuncId)(vals:Array Value)(Post:Cx->Value->Prop):Prop:=
 (∃fn c,P.funcs[g]? =some fn/\fn.body=some c)/\∀(fr:Frame)(cs:List Frame),(∀y v,Post y v->iI P aa () (G (fr.finish v) cs) y.w)->iI P aa () (G (Frame.enter P g vals .normal) (fr::cs)) x.w
theorem eP.mono {g:FuncId}{vals:Array Value}{Post Post':Cx->Value->Prop}(h:eP P aa x g vals Post)(hp:∀y v,Post y v->Post' y v):eP P aa x g vals Post':=
 ⟨h.1,λfr cs hc=>h.2 fr cs λy v p=>hc y v (hp y v p)⟩
theorem eP.at {g:FuncId}{vals:Array Value}{Post:Cx->Value->Prop}(h:eP P aa x g vals Post)(n:Nat):eP P aa (x.dr n) g vals Post:=
 ⟨h.1,λfr cs hc=>Ko (h.2 fr cs hc) n⟩
def gR(P:Program)(aa:Machine->Trace->Prop)(call:bg):Prop:=
 ∀f args S v S',call f args S=some (v,S')->∀x vals,Rel x->x.S=S->gb x args vals->eP P aa x f vals λy u=>y.S=S'/\Rel y/\bE x y/\RV y v u
def BL(P:Program)(aa:Machine->Trace->Prop)(aD:bT):Prop:=
 ∀f args v,aD f args=some v->args.all DV.pure=true->v.pure=true/\∀x vals,Rel x->gb x args vals->eP P aa x f vals λy u=>y.S=x.S/\Rel y/\bE x y/\RV y v u
def BJ(P:Program)(aa:Machine->Trace->Prop)(yf:dx):Prop:=
 ∀id args S v S',yf id args S=some (v,S')->∀x vals,Rel x->x.S=S->gb x args vals->∃lo:Loop,x.w.heap[x.μ id]? =some (.loop lo)/\vals.size=lo.params.size/\
  ∀(fr:Frame)(cs:List Frame),(∀y u,(y.S=S'/\Rel y/\bE x y/\RV y v u)->iI P aa () (G (fr.finish u) cs) y.w)->iI P aa () (G (Frame.round (x.μ id) lo.fn ((lo.params.zip vals).foldl (λtmps (t,a)=>tmps.setIfInBounds t a) lo.tmps) lo.assign lo.body .normal) (fr::cs)) x.w
theorem Zc(hc:gR P aa call)(hi:BL P aa aD){g:FuncId}{args:cn}{S S':aj}{v:DV}(h:wN aD call g args S=some (v,S')){vals:Array Value}(hR:Rel x)(hS:x.S=S)(ha:gb x args vals):
  eP P aa x g vals λy u=>y.S=S'/\Rel y/\bE x y/\RV y v u:=by
 unfold wN at h;split at h;rename_i hp;split at h;rename_i v' h1;cases h;subst hS;refine(hi _ _ _ h1 hp).2 x vals hR ⟨by simpa using ha.1,λj c hj=>?_⟩;simp only[cH,af]at hj;obtain⟨c',h2,rfl⟩:=hj;exact(ha.2 j c' h2).strip;exact hc _ _ _ _ _ h x vals hR hS ha;exact hc _ _ _ _ _ h x vals hR hS ha
theorem mN{l m:cn}{a b:Array Value}(h:gb x l a)(k:gb x m b):gb x (l++m) (a++b):=by refine⟨by simp[h.1,k.1],λj c hc=>?_⟩;simp only[aW];by_cases hj:j<l.length;rw[eD hj]at hc;rw[za (by rw[h.1];exact hj)];simpa [aW]using h.2 j c hc;rw[fT ab]at hc;rw[Rq (by rw[h.1];omega),h.1];simpa [aW]using k.2 _ c hc
theorem Lx(hP:Plain P){b:Frame}{a:Act}{k:List Item}{cs:List Frame}{ops:Array Oper}{i:Nat}{rest:cy}{o:Oper}{g:FuncId}{fs vs:Array Value}{c:Call}{f:Operand}{Post:Cx->Value->Prop}(hk:b.kind≠.early)
  (ho:ops[i]? =some o) (hw:Region.wanted o (yielded ops a.tmps)=true) (hop:o.op=.call c) (ad5:c.callee=.value f) (hf:a.eval f=.func (.func g) fs vs) (he:eP P aa x g (fs++c.args.map a.eval++vs) Post)
  (eW:∀y v,Post y v->iI P aa () (G (b.atR (a.put o.dst v) (.inRegion ops rest::k)) cs) y.w):iI P aa () (G (b.atR a (.inRegion ops (i::rest)::k)) cs) x.w:=by
 refine iN hP λn=>?_;have pW:=Frame.finish_atR b a ops i rest k;simp only[ho,bQ]at pW;have oT:(b.kind==CallKind.early)=false:=by simpa using hk
 rw[I8 ho hw (by rw[hop];rfl)];obtain⟨⟨fn,cd,h1,h2⟩,h3⟩:=he;have yw:=hP.count g fn h1;have hrun:(execOp a.eval o).run P (x.w.at n)=.ok (.enter g (fs++c.args.map a.eval++vs)) (x.w.at n):=by unfold execOp;simp only[hop,resolve,ad5,hf,Deferred.ofValue,Sem.run_bind,Sem.run_pure,Result.andThen_ok,invoke,callFunc,run_program,h1,yw,aJ,if_false,h2,Option.isNone_some]
 refine⟨Frame.enter P g (fs++c.args.map a.eval++vs) .normal,b.atR a (.inRegion ops (i::rest)::k)::cs,x.w.at n,seen P b.fn ((execOp a.eval o).events P (x.w.at n) #[]),?_,Ko (h3 _ cs λy v hp=>?_) n⟩;simp[stepG.apply,hrun,G,Frame.atR,oT,GStep.after]
 grind
theorem YC(hP:Plain P){b:Frame}{a:Act}{k:List Item}{cs:List Frame}{ops:Array Oper}{i:Nat}{rest:cy}{o:Oper}{l:Nat}{lo:Loop}{c:Call}{f:Operand}{Post:Cx->Value->Prop}(hk:b.kind≠.early)
  (ho:ops[i]? =some o) (hw:Region.wanted o (yielded ops a.tmps)=true) (hop:o.op=.call c) (ad5:c.callee=.value f) (hf:a.eval f=.func (.yield l) #[] #[]) (hl:x.w.heap[l]? =some (.loop lo)) (hsz:(c.args.map a.eval).size=lo.params.size)
  (he:∀(fr:Frame)(cs:List Frame),(∀y u,Post y u->iI P aa () (G (fr.finish u) cs) y.w)->iI P aa () (G (Frame.round l lo.fn ((lo.params.zip (c.args.map a.eval)).foldl (λtmps (t,a)=>tmps.setIfInBounds t a) lo.tmps) lo.assign lo.body .normal) (fr::cs)) x.w)
  (eW:∀y v,Post y v->iI P aa () (G (b.atR (a.put o.dst v) (.inRegion ops rest::k)) cs) y.w):iI P aa () (G (b.atR a (.inRegion ops (i::rest)::k)) cs) x.w:=by
 refine iN hP λn=>?_;have pW:=Frame.finish_atR b a ops i rest k;simp only[ho,bQ]at pW;have oT:(b.kind==CallKind.early)=false:=by simpa using hk
 rw[I8 ho hw (by rw[hop];rfl)];have hg:=jm (P:=P) (w:=x.w.at n) (show(x.w.at n).heap[l]? =some (.loop lo)from hl) ae;have hrun:(execOp a.eval o).run P (x.w.at n)=.ok (.round l lo.fn ((lo.params.zip (c.args.map a.eval)).foldl (λtmps (t,a)=>tmps.setIfInBounds t a) lo.tmps) lo.assign lo.body) (x.w.at n):=by
  have hne:¬((#[]++c.args.map a.eval).size≠lo.params.size):=by simpa using hsz
  unfold execOp;simp only[hop,resolve,ad5,hf,Deferred.ofValue,Sem.run_bind,Sem.run_pure,Result.andThen_ok,invoke,Instr.yield,Instr.getLoop,hg,if_neg hne];simp
 refine⟨Frame.round l lo.fn _ lo.assign lo.body .normal,b.atR a (.inRegion ops (i::rest)::k)::cs,x.w.at n,seen P b.fn ((execOp a.eval o).events P (x.w.at n) #[]),?_,Ko (he _ cs λy v hp=>?_) n⟩;simp[stepG.apply,hrun,G,Frame.atR,oT,GStep.after]
 grind
theorem VQ(hP:Plain P)(eV:j6 P ty)(hc:gR P aa call)(hi:BL P aa aD)(MW:BJ P aa yf){b:Frame}{a:Act}{k:List Item}{cs:List Frame}{ops:Array Oper}{i:Nat}{rest:cy}{o:Oper}{d:DV}{S':aj}{env:cn}{aB:Nat}(hk:b.kind≠.early)
  (ho:ops[i]? =some o) (hw:Region.wanted o (yielded ops a.tmps)=true) (hR:Rel x) (hn:FD x.S aB) (he:gb x env a.tmps) (h:ah P ty aD call yf (ir env) o x.S aB=some (d,S'))
  (eW:∀y v,y.S=S'->Rel y->bE x y->RV y d v->iI P aa () (G (b.atR (a.put o.dst v) (.inRegion ops rest::k)) cs) y.w):iI P aa () (G (b.atR a (.inRegion ops (i::rest)::k)) cs) x.w:=by
 by_cases hl:Op.lone o.op=true;refine TH hP hk ho hw ?_ (λn=>Sy eV (hR.dr n) hn (xA (he.mono (eN x n))) hl h) eW;cases hop:o.op<;>first|rfl|(simp[ah,hop]at h)
 obtain⟨c,hop⟩:∃c,o.op=.call c:=by cases hop:o.op<;>first|(exact⟨_,rfl⟩)|(exact absurd (by rw[hop];rfl) hl)
 obtain⟨callee,args,ats⟩:=c;cases callee with
 |builtin bi=>exact absurd (by rw[hop];rfl) hl
 |invoke r m=>simp[ah,hop]at h
 |value f=>
  simp only[ah,hop]at h;have wu:=xA he;split at h;rename_i g fs iB xs hf Rv;have hfv:=wu f _ hf;have qh:=xz wu Rv;generalize hv:a.eval f=vf at hfv;cases hfv with
  |@fn _ _ _ vfs vcs h1 h2 h3 h4=>
   have dX:gb x (fs++xs++iB) (vfs++args.map a.eval++vcs):=by have e:(args.toList.map a.eval).toArray=args.map a.eval:=Array.toList_inj.1 ae;rw[e]at qh;exact mN (mN ⟨h1,h3⟩ qh) ⟨h2,h4⟩
   split at h;exact Lx hP hk ho hw hop rfl hv (hc _ _ _ _ _ h x _ hR rfl dX) λy v hp=>eW y v hp.1 hp.2.1 hp.2.2.1 hp.2.2.2;exact Lx hP hk ho hw hop rfl hv (Zc hc hi h hR rfl dX) λy v hp=>eW y v hp.1 hp.2.1 hp.2.2.1 hp.2.2.2
  rename_i id xs hf Rv;have hfv:=wu f _ hf;have qh:=xz wu Rv;generalize hv:a.eval f=vf at hfv;cases hfv with
  |nN hS=>have e:(args.toList.map a.eval).toArray=args.map a.eval:=Array.toList_inj.1 ae;rw[e]at qh;obtain⟨lo,q1,q2,q3⟩:=MW _ _ _ _ _ h x _ hR rfl qh;exact YC hP hk ho hw hop rfl hv q1 q2 q3 λy v hp=>eW y v hp.1 hp.2.1 hp.2.2.1 hp.2.2.2
  cases h
theorem I2(hP:Plain P)(eV:j6 P ty)(hc:gR P aa call)(hi:BL P aa aD)(MW:BJ P aa yf){ops:Array Oper}{b:Frame}{k:List Item}{cs:List Frame}(hk:b.kind≠.early):
  ∀(r pre:List Oper),ops.toList=pre++r->∀{env aL:cn}{S':aj}{a:Act}{x:Cx},Ia P ty aD call yf ops r env x.S=some (aL,S')->Rel x->gb x env a.tmps->
   (∀y a',y.S=S'->Rel y->bE x y->gb y aL a'.tmps->a'.defers=a.defers->iI P aa () (G (b.atR a' k) cs) y.w)->iI P aa () (G (b.atR a (.inRegion ops (List.range' pre.length r.length)::k)) cs) x.w
 |[],pre,_,env,aL,S',a,x,h,hR,he,hn=>by simp only[Ia,aF,az]at h;obtain⟨rfl,rfl⟩:=h;exact fL hP (λw=>⟨_,qR⟩) (hn x a rfl hR (bE.refl x) he rfl)
 |o::r,pre,Il,env,aL,S',a,x,h,hR,he,hn=>by
  have ho:ops[pre.length]? =some o:=by rw[<-jL,Il];simp
  have ac8:ops.toList=(pre++[o])++r:=by rw[Il];simp
  have hlen:(pre++[o]).length=pre.length+1:=ae
  simp only[cT,List.range'_succ];unfold Ia at h;have Zn:=AK he ops o;by_cases hw:cv ops env o=true;rw[if_pos hw]at h;rw[hw]at Zn;obtain⟨x1,k1,k2,k3,k4,k5⟩:=ae5 (ty:=ty) o hR he;rw[<-k1];split at h;rename_i nW S0 wj;rw[wj]at k2 k5;dsimp only at k2 k5;subst k2;split at h;rename_i v S1 h1;refine VQ hP eV hc hi MW hk ho Zn k3 (.inl rfl) k5 h1 λy u hyS hyR hyM hyV=>?_;subst hyS;have oW:=Av (k5.mono hyM) (dst:=o.dst) hyV;have:=I2 hP eV hc hi MW hk r (pre++[o]) ac8 h hyR oW.1 λz a' z1 z2 z3 z4 z5=>hn z a' z1 z2 (k4.trans (hyM.trans z3)) z4 (z5.trans oW.2);rw[hlen]at this;exact this;cases h;rw[if_neg hw]at h;have hwf:cv ops env o=false:=by simpa using hw
  rw[hwf]at Zn;refine fL hP (λw=>⟨_,uI ho Zn⟩) ?_;have oW:=Av he (dst:=o.dst) (d:=bD) (v:=undef) (.val rfl);have:=I2 hP eV hc hi MW hk r (pre++[o]) ac8 h hR oW.1 λz a' z1 z2 z3 z4 z5=>hn z a' z1 z2 z3 z4 (z5.trans oW.2);rw[hlen]at this;exact this
end Go.Di
namespace Go.Di
open Go Go.Conc Go.Co
variable {P:Program} {aa:Machine->Trace->Prop} {ty:fo} {x:Cx} {aD:bT} {call:bg} {yf:dx}
def yD(P:Program)(aa:Machine->Trace->Prop)(ty:fo)(aD:bT)(call:bg)(yf:dx)(id:Nat)(ops:Array Oper)(draw:Bool):Prop:=
 ∀{env aL:cn}{S':aj}{x:Cx}{a:Act}{b:Frame}{k:List Item}{cs:List Frame},qp P ty aD call yf ops draw env x.S=some (aL,S')->b.kind≠.early->Rel x->gb x env a.tmps->
  (∀y a',y.S=S'->Rel y->bE x y->gb y aL a'.tmps->a'.defers=a.defers->iI P aa () (G (b.atR a' k) cs) y.w)->iI P aa () (G (b.atR a (.code (.region id ops draw)::k)) cs) x.w
def D5(P:Program)(aa:Machine->Trace->Prop)(ty:fo)(aD:bT)(call:bg)(yf:dx):Code->Prop
 |.region id ops draw=>yD P aa ty aD call yf id ops draw
 |.seq a b|.cond _ a b=>D5 P aa ty aD call yf a/\D5 P aa ty aD call yf b
 |.block _ c|.loop c|.scope c=>D5 P aa ty aD call yf c
 |_=>True
theorem SO(hP:Plain P)(eV:j6 P ty)(hc:gR P aa call)(hi:BL P aa aD)(MW:BJ P aa yf)(id:Nat)(ops:Array Oper):yD P aa ty aD call yf id ops false:=by intro env aL S' x a b k cs h hk hR he hn;simp only[qp,Bool.false_and,lY,aJ,if_false]at h;refine fL hP (λw=>⟨_,SV⟩) ?_;have:=I2 hP eV hc hi MW hk ops.toList [] rfl h hR he hn;rw[List.range_eq_range'];simpa using this
def Ki(P:Program)(aa:Machine->Trace->Prop)(b:Frame)(k:List Item)(cs:List Frame):DX->Act->World->Prop
 |.normal,a,w=>iI P aa () (G (b.atR a k) cs) w
 |.exit id,a,w=>∀k',exitTo id k'=exitTo id k->iI P aa () (G (b.atR a (.code (.exit id)::k')) cs) w
 |.ret,a,w=>∀k',iI P aa () (G (b.atR a (.code .ret::k')) cs) w
theorem Ki.push {b:Frame}{k:List Item}{cs:List Frame}{e:DX}{a:Act}{w:World}{i:Item}(hi:∀id,exitTo id (i::k)=exitTo id k)(he:e≠.normal)(h:Ki P aa b k cs e a w):Ki P aa b (i::k) cs e a w:=by
 cases e with
 |normal=>exact absurd rfl he
 |exit id=>exactλk' oT=>h k' (oT.trans (hi id))
 |ret=>exact h
def uh(n0:Nat)(x:Cx)(ds:cy)(l:List Deferred):Prop:=l=ds.map (λid=>{target:=.collected (x.μ id),args:=#[]})/\ds.Nodup/\∀id∈ds,n0<=id/\x.S[id]? =some .defer/\x.w.heap[x.μ id]? =some (.deferred (some []))
theorem uh.mono {n0:Nat}{y:Cx}(M:bE x y){ds:cy}{l:List Deferred}(h:uh n0 x ds l):uh n0 y ds l:=by
 obtain⟨h1,h2,h3⟩:=h;have hμ:∀id∈ds,y.μ id=x.μ id:=λid hid=>(M.dA id _ (h3 id hid).2.1 rfl).1;refine⟨?_,h2,λid hid=>?_⟩;rw[h1];exact List.map_congr_left λid hid=>by rw[hμ id hid]
 obtain⟨q1,q2,q3⟩:=h3 id hid;obtain⟨r1,⟨b',r2,r3⟩,r4⟩:=M.dA id _ q2 rfl;have:b'=.defer:=by cases b'<;>first|rfl|exact r3.elim
 subst this;exact⟨q1,r2,by rw[hμ id hid,r4 rfl];exact q3⟩
theorem Bj(n0:Nat)(x:Cx):uh n0 x [] []:=⟨rfl,List.nodup_nil,ae⟩
theorem JA{b:Frame}{a:Act}{k:List Item}{cs:List Frame}{w:World}{g:Operand}{ps:Array Tmp}{assign body:Code}{f:FuncId}{fs vs:Array Value}{fn:Func}{c:Code}(hk:b.kind≠.early)(hr:b.roundOf=none)(hg:a.eval g=.func (.func f) fs vs)(hf:P.funcs[f]? =some fn)(hb:fn.body=some c)(yw:(fn.name=="runtime.NumGoroutine")=false):
  ∃es,stepG P true (G (b.atR a (.code (.rangeFunc g ps assign body)::k)) cs) w=
   .go (G (Frame.enter P f (fs++#[.func (.yield (w.heap.size+1)) #[] #[]]++vs) .normal) (b.atR {a with defers:={target:=.collected w.heap.size,args:=#[]}::a.defers} (.inRangeFunc (w.heap.size+1)::k)::cs))
    ((w.alloc (.deferred (some []))).alloc (.loop {state:=.ready,pending:=none,fn:=b.fn,tmps:=a.tmps,params:=ps,assign,body,defers:=w.heap.size})) es:=by
 have oT:(b.kind==CallKind.early)=false:=by simpa using hk
 have wu:=Frame.eval_atR b {a with defers:={target:=.collected w.heap.size,args:=#[]}::a.defers} (.inRangeFunc (w.heap.size+1)::k);simp only[Frame.atR,hr]at wu;have ajF:({tmps:=a.tmps,defers:={target:=.collected w.heap.size,args:=#[]}::a.defers}:Act).eval g=.func (.func f) fs vs:=by rw[<-hg];cases g<;>rfl
 have Z2:∀(w2:World),(do let d<-resolve ({tmps:=a.tmps,defers:={target:=.collected w.heap.size,args:=#[]}::a.defers}:Act).eval {callee:=.value g,args:=#[.const (.func (.yield (w.heap.size+1)) #[] #[])],argTypes:=#[]} 0;invoke d.target d.args:Sem Next).run P w2=.ok (.enter f (fs++#[.func (.yield (w.heap.size+1)) #[] #[]]++vs)) w2:=by
  intro w2;have ajy:∀(a:Act)(v:Value),a.eval (.const v)=v:=λ_ _=>rfl;have hn2:¬fn.name="runtime.NumGoroutine":=by simpa using yw
  simp[resolve,ajF,ajy,Deferred.ofValue,invoke,callFunc,hf,hn2,hb]
 have NX:(Instr.enterLoop b.fn a.tmps ps assign body none).run P w=.ok (w.heap.size+1,[{target:=.collected w.heap.size,args:=#[]}])
   ((w.alloc (.deferred (some []))).alloc (.loop {state:=.ready,pending:=none,fn:=b.fn,tmps:=a.tmps,params:=ps,assign,body,defers:=w.heap.size})):=by
  simp[Instr.enterLoop]
 simp only[G,stepG,stepG.exec,Frame.atR,hr,Sem.runT_eq,NX,stepG.apply,wu,if_true,Z2,oT,List.singleton_append,GStep.after,aJ,if_false];exact⟨_,rfl⟩
end Go.Di
