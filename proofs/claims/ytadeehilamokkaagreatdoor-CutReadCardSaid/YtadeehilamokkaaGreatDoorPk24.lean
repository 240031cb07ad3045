import Derived.Test.YtadeehilamokkaaGreatDoorPk23
import Derived.Conc.CompanyMem
import Derived.Conc.AppendWalk
import Derived.Laws.AppendOwn
import Derived.Below
import Derived.Test.YtadeehilamokkaaGreatDoorPk17
import Derived.AtR
import Derived.RangeFuncIn
namespace Go.Co
open Go Go.Conc
open Go.ConcN (sumTo upd upd_same upd_ne)
variable {P:Program} {aa:Machine->Trace->Prop} {Cs:Nat->Prop}
theorem Sb(hP:Plain P){N:Net}(hW:CU Cs N):∀(γ:Nat->So)(rk:Nat->Tr)(tp:Nat)(gs:Array Goroutine)(w:World)(sl:Option (Nat×Nat))(t:Trace),xA P aa Cs N γ rk tp gs w t->Ye P aa (crowd gs w sl) t:=by
 induction hW with
 |done N h0 hd=>exactλγ rk tp gs w sl t h=>Xg h h0 hd
 |step N hno h0 hsend hrecv hen abC ahO afC afH hstart ihm ihs ihh ihg=>
  intro γ rk tp gs w sl t h;have acc:=PG (A6 N.n rk);generalize hl:A6 N.n rk=l at acc;induction acc generalizing γ rk tp gs w sl t with
  |intro l _ ih=>
   subst hl;have Ta:∀g∈gs,awake g:=by intro x hx;obtain⟨i,hi,rfl⟩:=Array.mem_iff_getElem.1 hx;exact awake_of ((h.mem i _ (bX hi)).awake)
   obtain⟨i,g,d,sl',hi,hg,hst⟩:=crowd_pick (P:=P) (w:=w) (sl:=sl) Ta (Wj h hen);have mo:i<N.n:=by rw[<-h.size];exact(aG.1 hi).1
   have hm:=h.mem i g hi;generalize hrk:rk i=r at hm;generalize TA:N.pr i=p at hm;have h2:=ME h hno d;cases hm with
   |stop n g h3 h4=>
    cases n with
    |zero=>rw[h4.1]at hg;cases hg
    |succ n=>
     rcases h4 with ⟨hf,_⟩|⟨_,g',es,hmu,T9,hq⟩
     grind
     obtain⟨hrun,qh⟩:=Wl (sl:=sl') h2 hi TA h3 hmu T9 hq hsend hrecv;rw[hrun]at hst;exact ig hst (ih _ (yJ mo (by rw[hrk];exact ZH n)) _ _ _ _ _ sl' _ qh rfl)
   |ret r g h3 h4 h5=>exact absurd TA (hno i mo).1
   |send c v k g z h3=>cases hg
   |recv c ok z k g h3 h4=>cases hg
   |run p r0 g mW hG=>
    subst TA;cases r0 with
    |node f=>obtain⟨g',w',es,γ',e1,hS,hG'⟩:=hG.2 (w.at d) (zL _ _ _);obtain⟨hrun,qh⟩:=Wi (sl:=sl') hP h hno hsend hrecv hi mW e1 hS hG';rw[hrun]at hst;exact ig hst (ih _ (yJ mo (by rw[hrk];exact adf f (w.at d))) _ _ _ _ _ sl' _ qh rfl)
    |leaf=>
     have hS:=hG (w.at d) (zL _ _ _);cases hp:N.pr i with
     |stop=>exact absurd hp mW.1
     |ret=>exact absurd hp mW.2.1
     |bad=>exact absurd hp mW.2.2
     |send c v k=>rw[hp]at hS;obtain⟨CP,zo⟩:=hsend i c v k mo hp;rcases Wn (sl:=sl') h hno hi hp CP zo hS.1 hS.2 (λj ok z kr hj hr=>abC i j c v k ok z kr mo hj hp hr)with ⟨gs',hrun,qh⟩|⟨N',gs',w',ops,FD,hrun,-,⟨j,ok,z,kr,hj,hr,rfl⟩,qh⟩;rw[hrun]at hst;refine ig hst ?_;rw[Array.append_empty];exact ih _ (yJ mo (by rw[hrk];exact J1)) _ _ _ _ _ sl' _ (ME qh hno d) rfl;rw[hrun]at hst;exact ig hst (ihm i j c v k ok z kr mo hj hp hr _ _ _ _ _ sl' _ qh)
     |recv c ok z kr=>
      rw[hp]at hS hG;have nK:=hrecv i c ok z kr mo hp;have hS0:=hG w (ic _ _);cases o6:N.cl c with
      |none=>rcases Wo (sl:=sl') h hno hi hp o6 nK hS.1 (λw1 h1=>(hG w1 h1).1) hS0.2 (λj v k hj hs=>abC j i c v k ok z kr hj mo hs hp)with ⟨gs',hrun,qh⟩|⟨N',gs',w',ops,FD,hrun,-,⟨j,v,k,hj,hs,rfl⟩,qh⟩;rw[hrun]at hst;refine ig hst ?_;rw[Array.append_empty];exact ih _ (yJ mo (by rw[hrk];exact J1)) _ _ _ _ _ sl' _ (ME qh hno d) rfl;rw[hrun]at hst;exact ig hst (ihm j i c v k ok z kr hj mo hs hp _ _ _ _ _ sl' _ qh)
      |some E=>obtain⟨gs',ops,FD,hrun,qh⟩:=Wp (sl:=sl') (d:=d) h2 hsend hi hp o6 nK hS.1 hS.2 (afH i c ok z kr E mo hp o6);have hrun:runT P (crowd gs (w.at d) sl') i=_:=hrun;rw[hrun]at hst;exact ig hst (ihh i c ok z kr E mo hp o6 _ _ _ _ _ sl' _ qh)
     |close c k=>
      rw[hp]at hS;obtain⟨-,hmw,g',FE,hstep,hk⟩:=hS;obtain⟨CP,zo⟩:=ahO i c k mo hp;have hw:=afC i c k mo hp;have Hh:∀j v k',j<N.n->N.pr j≠.send c v k':=by
       intro j v k' hj e;have iM:j≠i:=by rintro rfl;rw[hp]at e;cases e
       have e':(N.shut i c k).pr j=.send c v k':=(upd_ne _ _ iM).trans e;have o6:(N.shut i c k).cl c≠none:=by show upd N.cl c _ c≠none;rw[upd_same];simp
       cases hw with
       |done _ h3 h4=>
        by_cases TE:j=0
        grind
        rw[(h4 j U hj).1]at e';cases e'
       |step _ _ _ h5=>exact o6 (h5 j c v k' hj e').1
      obtain⟨gs',w',ops,FD,hrun,qh⟩:=Wm (sl:=sl') (d:=d) hP h2 hno hsend hrecv hi hp CP zo hmw FE hstep hk Hh hw;have hrun:runT P (crowd gs (w.at d) sl') i=_:=hrun;rw[hrun]at hst;exact ig hst (ihs i c k mo hp _ _ _ _ _ sl' _ qh)
     |go ch k=>rw[hp]at hS;obtain⟨zn,g',x0,FE,e1,SV,hch,hk⟩:=hS;obtain⟨gs',ops,FD,hrun,qh⟩:=Q9 (sl:=sl') (d:=d) hP h2 hi hp e1 FE SV hch hk (hstart i ch k mo hp);have hrun:runT P (crowd gs (w.at d) sl') i=_:=hrun;rw[hrun]at hst;exact ig hst (ihg i ch k mo hp _ _ _ _ _ sl' _ qh)
end Go.Co
namespace Go.Co
open Go Go.Conc
open Go.ConcN (sumTo upd upd_same upd_ne)
variable {P:Program} {aa:Machine->Trace->Prop} {Cs:Nat->Prop}
def entry(n:Nat)(p:Pc):Net:=⟨n,λj=>if j=0 then p else .stop,λ_ j=>0<j/\j<n,λ_=>none⟩
theorem adK(hP:Plain P){p:Pc}{S O:Nat->Prop}{g:Goroutine}{w:World}(hp:p.live)(sP:Pr P aa true p (S,O) g w)
  (hSO:∀b,O b->¬S b) (QI:∀b,S b\/O b->b<w.heap.size)
  (hc:∀c,Cs c->(∃s tm,w.heap[c]? =some (.chan 0 #[] false s s tm))/\¬S c/\¬O c)
  (hW:∀n,0<n->CU Cs (entry n p)):iB P aa () g w:=by
 intro d hf hr hd gs sl t q h0 hL JH;have hlt:0<gs.size:=(aG.1 h0).1;obtain⟨r,hG⟩:=Pj hp sP;have hG:=D1 FM hG (zL (S,O) w d);have hno:∀i a,t.size<=i->touchAt t i=some a->False:=by intro i a hi ha;obtain⟨x,hx,-⟩:=touch_of ha;have:=(aG.1 hx).1;omega
 have mW:∀j,(entry gs.size p).pr j≠.stop->j=0:=by intro j hj;by_cases h:j=0;exact h;exact absurd (by simp[entry,h]) hj
 have aiH:(entry gs.size p).pr 0=p:=rfl;have hγ:∀j b,((if j=0 then((S,O):So)else(λ_=>False,λ_=>False)).1 b->j=0/\S b)/\((if j=0 then((S,O):So)else(λ_=>False,λ_=>False)).2 b->j=0/\O b):=by intro j b;by_cases h:j=0<;>simp[h]
 refine Sb hP (hW gs.size hlt) (λj=>if j=0 then(S,O)else(λ_=>False,λ_=>False)) (λj=>if j=0 then r.up else Tr.nat (q j)) t.size gs (w.at d) sl t
  ⟨rfl,hlt,λj x hx=>?_,⟨JH.clean,λj hj=>?_,λi a j hi ha hm hj nJ=>?_,λi a b j hi ha=>(hno i a hi ha).elim,λi a b j hi ha=>(hno i a hi ha).elim,λi a b hi ha=>(hno i a hi ha).elim,λi a hi ha=>(hno i a hi ha).elim,λi j hi hg=>?_,λi a j x hi ha=>(hno i a hi ha).elim,λc E hE=>(by cases hE),λj j' b hb=>?_,λj b hb=>?_,λc E j hE=>(by cases hE),λx j hj=>?_,ai _⟩,λc hcc=>?_,λj c ok z k x hx hb Jn=>rfl,λi j c v k ok z k' x y hx hy X7=>?_,λx hx=>?_⟩
 by_cases h:j=0;subst h;rw[h0]at hx;cases hx;have:=Mem.run (P:=P) (aa:=aa) (j:=0) (d:=Deaf t 0) (γ:=(S,O)) (w:=w.at d) p r g hp hG;simpa [entry]using this;have:=Mem.stop (P:=P) (aa:=aa) (j:=j) (d:=Deaf t j) (γ:=((λ_=>False,λ_=>False):So)) (w:=w.at d) (q j) x h (hL.old j x U hx);simpa [entry,h]using this;rcases hj with hj|hj;rw[mW j hj];exact JH.hears
 exact hL.above j hj;rw[mW j hj];exact JH.known i a ha hm;unfold Trace.g? at hg;obtain⟨z,hz,-⟩:=af.1 hg;have:=(aG.1 hz).1;omega;obtain⟨rfl,hO⟩:=(hγ j b).2 hb;refine⟨λhS=>hSO b hO ((hγ j' b).1 hS).2,λhne qY=>hne ((hγ j' b).2 qY).1.symm⟩;rcases hb with hb|hb;exact QI b (.inl ((hγ j b).1 hb).2);exact QI b (.inr ((hγ j b).2 hb).2);refine⟨hj.2,?_⟩;have:j≠0:=by have:=hj.1;omega
 simp[entry,this];obtain⟨h1,h2,h3⟩:=hc c hcc;refine⟨h1,λj=>⟨λh=>h2 ((hγ j c).1 h).2,λh=>h3 ((hγ j c).2 h).2⟩⟩
 grind
 grind
variable {fn:FuncId} {γ:So} {c:Code} {a:Act} {w:World}
theorem HU{g:Goroutine}(hd:g.dying=none)(h:iB P aa () g w):KG P aa true (.ret,γ) g w:=λ_ _=>⟨hd,h⟩
theorem UE{g:Goroutine}(h:KG P aa true (.ret,γ) g w):iB P aa () g w:=(h (λh=>ao) ab).2
theorem aeg{b:Frame}{k:List Item}{cs:List Frame}{e:Exit}{a:Act}{w:World}(h:B5 (KG P aa true) b k cs (.ret,γ) e a w):B5 (iB P aa) b k cs () e a w:=by
 cases e with
 |normal=>exact UE h
 |exit id=>obtain⟨k',h1,h2⟩:=h;exact⟨k',h1,UE h2⟩
 |ret=>exactλtodo=>UE (h todo)
 |goto l=>exact h
 |panic ch=>exact h
 |outgrown=>exact h
theorem aaX{b:Frame}{k:List Item}{cs:List Frame}{e:Exit}{a:Act}{w:World}(h:B5 (iB P aa) b k cs () e a w):B5 (KG P aa true) b k cs (.ret,γ) e a w:=by
 cases e with
 |normal=>exact HU rfl h
 |exit id=>obtain⟨k',h1,h2⟩:=h;exact⟨k',h1,HU rfl h2⟩
 |ret=>exactλtodo=>HU rfl (h todo)
 |goto l=>exact h
 |panic ch=>exact h
 |outgrown=>exact h
theorem Xu{Q:Gm->Exit->Act->World->Prop}(h:KJ (iB P aa) fn () c (λ_=>Q (.ret,γ)) a w):KJ (KG P aa true) fn (.ret,γ) c Q a w:=
 λb k cs hb hk hc=>HU rfl (h b k cs hb hk λ_ e a' w' q=>aeg (hc _ e a' w' q))
theorem Xt(hP:Plain P){p:Pc}{S O:Nat->Prop}{Q:Exit->Act->World->Prop}(hp:p.live)
  (hSO:∀b,O b->¬S b) (QI:∀b,S b\/O b->b<w.heap.size)
  (hc:∀c,Cs c->(∃s tm,w.heap[c]? =some (.chan 0 #[] false s s tm))/\¬S c/\¬O c)
  (hW:∀n,0<n->CU Cs (entry n p))
  (h:KJ (KG P aa true) fn (p,(S,O)) c (λγ' e a' w'=>γ'.1=.ret/\Q e a' w') a w):KJ (iB P aa) fn () c (λ_=>Q) a w:=by
 intro b k cs hb hk ahS;refine adK hP hp (h b k cs hb hk (λγ' e a' w' q=>?_) (λh=>ao) hp.1) hSO QI hc hW;obtain⟨p',γ'⟩:=γ';obtain⟨rfl,q⟩:=q;exact aaX (ahS () e a' w' q)
end Go.Co
namespace Go.Co
open Go Go.Conc
variable {P:Program} {aa:Machine->Trace->Prop} {main:Bool} {K:Gm->Goroutine->World->Prop} {fn:FuncId} {p:Pc} {γ:So} {Q:Gm->Exit->Act->World->Prop} {a:Act} {w:World} {ops:Array Oper} {i:Nat} {rest:cx} {o:Oper}
theorem Yo(hp:p≠.ret){w1:World}(h:Ck (p,γ) w w1):iL γ w w1:=by unfold Ck at h;cases p<;>first|exact h|exact absurd rfl hp
theorem stg(hp:p≠.ret){s:So}{w':World}{es:Array Event}(h:Ji γ w s w' es):Hp (p,γ) w (p,s) w' es:=by refine⟨rfl,?_⟩;cases p<;>first|exact h|exact absurd rfl hp
def QL(P:Program)(aa:Machine->Trace->Prop)(γ:Gm)(g:Goroutine)(w:World):Prop:=γ.1=.bad->∀w1,iL γ.2 w w1->iB P aa () g w1
theorem aaw(hP:Plain P):KC P true (QL P aa) Ck Hp where
 step:=λγ fr cs w h hb w0 r0=>by obtain⟨p,γ⟩:=γ;simp only at hb;subst hb;refine(ye hP).step () fr cs w0 λw1 h1=>?_;obtain⟨d,rfl⟩:=h1;obtain⟨fr',iq,w',es,γ',e,⟨sD,-⟩,hk⟩:=h (w0.at d) (gL r0 (zL γ w0 d));exact⟨fr',iq,w',es,(),e,trivial,hk sD w' (ic _ _)⟩
 idle:=(A8 (aa:=aa) (main:=true) hP).idle
 rely:=λγ g w w1 r h hb w2 r2=>by obtain⟨p,γ⟩:=γ;exact h hb w2 (gL (Yo (by simp only at hb;subst hb;simp) r) r2)
theorem aau{c:Code}{Q:Gm->Exit->Act->World->Prop}{Q':Exit->Act->World->Prop}(hq:∀γ' e a w w1,Q γ' e a w->iL γ'.2 w w1->γ'.1=.bad->Q' e a w1)(h:KJ (QL P aa) fn (.bad,γ) c (λγ' e a w=>γ'.1=.bad/\Q γ' e a w) a w):KJ (iB P aa) fn () c (λ_=>Q') a w:=by
 intro b k cs hb hk hc;refine h b k cs hb hk (λγ' e a' w' q=>?_) rfl w (ic _ _);have dQ:∀w1,iL γ'.2 w' w1->B5 (iB P aa) b k cs () e a' w1:=λw1 r=>hc () e a' w1 (hq _ _ _ _ _ q.2 r q.1);cases e with
 |normal=>exactλ_ w1 r=>dQ w1 r
 |exit id=>obtain⟨k',h1,-⟩:=dQ w' (ic _ _);refine⟨k',h1,λ_ w1 r=>?_⟩;obtain⟨k2,h2,h3⟩:=dQ w1 r;rw[h1]at h2;cases h2;exact h3
 |ret=>exactλtodo _ w1 r=>dQ w1 r todo
 |goto l=>exact(dQ w' (ic _ _)).elim
 |panic ch=>exact(dQ w' (ic _ _)).elim
 |outgrown=>exact(dQ w' (ic _ _)).elim
theorem sN{es:Array Event}(ts:Array TypeId)(t:TypeId)(k k':IntKind)(x y:Int):(Builtin.max_ ts t #[.int k x,.int k' y]).events P w es=es:=by simp[Builtin.max_,Builtin.max2]
theorem sM{es:Array Event}(ts:Array TypeId)(t:TypeId)(k k':IntKind)(x y:Int):(Builtin.min_ ts t #[.int k x,.int k' y]).events P w es=es:=by simp[Builtin.min_,Builtin.min2]
theorem dK(C:KC P main K Ck Hp){γ:Gm}{v:Value}(ho:ops[i]? =some o)(hw:Region.wanted o (yielded ops a.tmps)=true)(hrun:∀w,(execOp a.eval o).run P w=.ok (.value v) w)(vD:∀w,(execOp a.eval o).events P w #[]=#[])
  (h:KO K fn γ ops rest Q (a.put o.dst v) w):KO K fn γ ops (i::rest) Q a w:=
 yc C ho hw λw₁ r=>by rw[hrun w₁];exact⟨γ,by rw[listed_nil (vD w₁)];exact C.idle _ _,Ix C r h⟩
theorem av(C:KC P main K Ck Hp){γ:Gm}{v:Value}(h:KO K fn γ ops rest Q (a.put o.dst v) w)(ho:ops[i]? =some o:=by rfl)(hw:Region.wanted o (yielded ops a.tmps)=true:=by rfl)(hrun:∀w,(execOp a.eval o).run P w=.ok (.value v) w:=by exactλw=>run_eq_of λK hK=>(by go_simp;exact hK))(vD:∀w,(execOp a.eval o).events P w #[]=#[]:=by intro w;first|(simp[go_sem];done)|(simp[go_sem, *];done)):KO K fn γ ops (i::rest) Q a w:=dK C ho hw hrun vD h
theorem MS(C:KC P main K Ck Hp)(hp:p≠.ret)(ho:ops[i]? =some o)(hw:Region.wanted o (yielded ops a.tmps)=true)
  (h:∀w₁,iL γ w w₁->∃v w' s,(execOp a.eval o).run P w₁=.ok (.value v) w'/\Ji γ w₁ s w' (listed P fn a o w₁)/\KO K fn (p,s) ops rest Q (a.put o.dst v) w'):KO K fn (p,γ) ops (i::rest) Q a w:=
 yc C ho hw λw₁ r=>by obtain⟨v,w',s,h1,h2,h3⟩:=h w₁ (Yo hp r);rw[h1];exact⟨(p,s),stg hp h2,h3⟩
theorem ql(C:KC P main K Ck Hp)(hp:p≠.ret){v:Value}(ho:ops[i]? =some o)(hw:Region.wanted o (yielded ops a.tmps)=true)
  (hrun:∀w₁,iL γ w w₁->(execOp a.eval o).run P w₁=.ok (.value v) w₁/\∀e∈(execOp a.eval o).events P w₁ #[],YO γ.1 γ.2 e) (h:KO K fn (p,γ) ops rest Q (a.put o.dst v) w):KO K fn (p,γ) ops (i::rest) Q a w:=
 MS C hp ho hw λw₁ r=>⟨v,w₁,γ,(hrun w₁ r).1,⟨rfl,J9 λe he=>(hrun w₁ r).2 e (mem_listed he)⟩,Ix C (by unfold Ck;cases p<;>first|exact r|exact absurd rfl hp) h⟩
def So.more (γ:So)(n:Nat):So:=(γ.1,λb=>γ.2 b\/b=n)
theorem ZO(ob:Obj):Ji γ w (γ.more w.heap.size) (w.alloc ob) #[]:=by
 have hsz:(w.alloc ob).heap.size=w.heap.size+1:=ab
 refine⟨rfl,λb=>?_,U,λb hb _=>RowKit.Below.heap_alloc _ _ _ hb,rfl,rfl,rfl,ab⟩;show γ.2 b\/b=w.heap.size↔_;rw[hsz];refine or_congr_right ?_;omega
theorem HS(C:KC P main K Ck Hp)(hp:p≠.ret){f:Nat->Value}{ob:Obj}(ho:ops[i]? =some o)(hw:Region.wanted o (yielded ops a.tmps)=true)
  (hrun:∀w,(execOp a.eval o).run P w=.ok (.value (f w.heap.size)) (w.alloc ob)) (vD:∀w,(execOp a.eval o).events P w #[]=#[])
  (h:∀w₁,iL γ w w₁->KO K fn (p,γ.more w₁.heap.size) ops rest Q (a.put o.dst (f w₁.heap.size)) (w₁.alloc ob)):KO K fn (p,γ) ops (i::rest) Q a w:=
 MS C hp ho hw λw₁ r=>⟨_,_,_,hrun w₁,by rw[listed_nil (vD w₁)];exact ZO ob,h w₁ r⟩
theorem qm(C:KC P main K Ck Hp)(hp:p≠.ret){ob:Obj}(ho:ops[i]? =some o)(hw:Region.wanted o (yielded ops a.tmps)=true)
  (hrun:∀w,(execOp a.eval o).run P w=.ok (.value (.pointer (some ⟨w.heap.size,0,none⟩))) (w.alloc ob)) (vD:∀w,(execOp a.eval o).events P w #[]=#[])
  (h:∀w₁,iL γ w w₁->KO K fn (p,γ.more w₁.heap.size) ops rest Q (a.put o.dst (.pointer (some ⟨w₁.heap.size,0,none⟩))) (w₁.alloc ob)):KO K fn (p,γ) ops (i::rest) Q a w:=
 HS C hp (f:=λn=>.pointer (some ⟨n,0,none⟩)) ho hw hrun vD h
theorem Vq(C:KC P main K Ck Hp)(hp:p≠.ret){ob:Obj}{n:Nat}(ho:ops[i]? =some o)(hw:Region.wanted o (yielded ops a.tmps)=true)
  (hrun:∀w,(execOp a.eval o).run P w=.ok (.value (.slice (some ⟨w.heap.size,0,none⟩) n n)) (w.alloc ob)) (vD:∀w,(execOp a.eval o).events P w #[]=#[])
  (h:∀w₁,iL γ w w₁->KO K fn (p,γ.more w₁.heap.size) ops rest Q (a.put o.dst (.slice (some ⟨w₁.heap.size,0,none⟩) n n)) (w₁.alloc ob)):KO K fn (p,γ) ops (i::rest) Q a w:=
 HS C hp (f:=λm=>.slice (some ⟨m,0,none⟩) n n) ho hw hrun vD h
theorem ZN{ad:Addr}{v:Value}{es:Array Event}(hO:γ.2 ad.block)(hes:∀e∈es,YO γ.1 γ.2 e):Ji γ w γ (w.setCell ad v) es:=by have hsz:(w.setCell ad v).heap.size=w.heap.size:=World.size_setCell ..;refine⟨rfl,λb=>⟨.inl,λh=>h.elim id λh=>absurd h.2 U⟩,U,λb _ hn=>?_,rfl,rfl,rfl,hes⟩;exact heap_setCell_other _ _ _ _ (λe=>hn (e▸hO))
theorem MR(C:KC P main K Ck Hp)(hp:p≠.ret){ad:Addr}{v:Value}(ho:ops[i]? =some o)(hw:Region.wanted o (yielded ops a.tmps)=true)(hO:γ.2 ad.block)
  (hrun:∀w₁,iL γ w w₁->(execOp a.eval o).run P w₁=.ok .skip (w₁.setCell ad v)/\∀e∈(execOp a.eval o).events P w₁ #[],e=⟨.cell ad,true,false⟩)
  (h:∀w₁,iL γ w w₁->KO K fn (p,γ) ops rest Q (a.put o.dst undef) (w₁.setCell ad v)):KO K fn (p,γ) ops (i::rest) Q a w:=
 yc C ho hw λw₁ r=>by obtain⟨h1,h2⟩:=hrun w₁ (Yo hp r);rw[h1];refine⟨(p,γ),stg hp (ZN hO λe he=>?_),h w₁ (Yo hp r)⟩;rw[h2 e (mem_listed he)];exact .inl ⟨ad,true,false,rfl,λ_=>hO,.inr hO⟩
theorem oS{Γ:Type}{K:Γ->Goroutine->World->Prop}{Rl:Γ->World->World->Prop}{St:Γ->World->Γ->World->Array Event->Prop}{γ:Γ}{Q:Γ->Exit->Act->World->Prop}(C:KC P main K Rl St){c:Code}(I:Nat->Γ->Act->World->Prop){n:Nat}(h₀:I n γ a w)
  (round:∀n γ a w,I n γ a w->KJ K fn γ c (λγ'=>Exit.then (λa' w'=>∃m,m<n/\I m γ' a' w') (Q γ')) a w):KJ K fn γ (.loop c) Q a w:=by
 intro b k cs hb hk hc;have key:∀n γ a w,I n γ a w->K γ (G (b.at a (.code c::.inLoop c::k)) cs) w:=by
  intro n;induction n using Nat.strongRecOn with
  |ind n ih=>
   intro γ a w hI;refine round n γ a w hI b (.inLoop c::k) cs hb hk λγ' e a' w' q=>?_;cases e with
   |normal=>obtain⟨m,hm,q⟩:=q;exact C.go (λ_=>stepG_inLoop) (ih m hm γ' a' w' q)
   |exit id=>exact(hc _ _ _ _ q).push rfl ab
   |ret=>exact B5.push (x:=.inLoop c) rfl ab (hc _ _ _ _ q)
   |goto l=>exact hc _ _ _ _ q
   |panic ch=>exact hc _ _ _ _ q
   |outgrown=>exact hc _ _ _ _ q
 exact C.go (λ_=>stepG_loop) (key n γ a w h₀)
theorem pg{F:(Nat->Value)->Act}(h:a=F λn=>a.tmps.getD n undef):∃u,a=F u:=⟨_,h⟩
theorem ei{N:Act->World->Prop}{R:Exit->Act->World->Prop}(h:N a w):Exit.then N R .normal a w:=h
def bF(γ:So)(w:World)(ad:Addr)(v:Value):Prop:=γ.all ad.block/\w.cell? ad=some v
theorem bF.rely {ad:Addr}{v:Value}{w1:World}(h:bF γ w ad v)(r:iL γ w w1):bF γ w1 ad v:=
 ⟨h.1,(World.cell?_of_block (r.2.1 ad.block h.1)).trans h.2⟩
theorem bF.lt {ad:Addr}{v:Value}(h:bF γ w ad v):ad.block<w.heap.size:=World.block_lt_of_cell? w ad h.2
theorem bF.alloc {ad:Addr}{v:Value}(h:bF γ w ad v)(n:Nat)(ob:Obj):bF (γ.more n) (w.alloc ob) ad v:=
 ⟨h.1.imp id .inl,(World.cell?_alloc_lt w ob ad h.lt).trans h.2⟩
theorem bF.put {ad ad':Addr}{v v':Value}(h:bF γ w ad v)(hne:ad'≠ad):bF γ (w.setCell ad' v') ad v:=
 ⟨h.1,(World.cell?_setCell_other w ad' ad v' hne).trans h.2⟩
theorem bF.Jg {ad:Addr}{v:Value}(h:bF γ w ad v):YO γ.1 γ.2 ⟨.cell ad,false,false⟩:=.inl ⟨ad,false,false,rfl,λh=>ao,h.1⟩
theorem bF.fresh {w:World}{n j:Nat}{cs:Array Value}{t:TypeId}{v:Value}(hn:n=w.heap.size)(h:cs[j]? =some v):bF (γ.more n) (w.alloc (.cells cs t)) ⟨n,j,none⟩ v:=by subst hn;exact⟨.inr (.inr rfl),by rw[World.cell?_alloc_new,h]⟩
theorem iP(C:KC P main K Ck Hp)(hp:p≠.ret){v:Value}{ad:Addr}{x:Value}(hs:bF γ w ad x)(h:KO K fn (p,γ) ops rest Q (a.put o.dst v) w)(ho:ops[i]? =some o:=by rfl)(hw:Region.wanted o (yielded ops a.tmps)=true:=by rfl)(hrun:∀w₁:World,w₁.cell? ad=some x->(execOp a.eval o).run P w₁=.ok (.value v) w₁:=by exactλw₁ hc=>run_eq_of λK hK=>(by go_simp;exact hK))(vD:∀w₁:World,w₁.cell? ad=some x->YO γ.1 γ.2 ⟨.cell ad,false,false⟩->∀e∈(execOp a.eval o).events P w₁ #[],YO γ.1 γ.2 e:=by intro w₁ hc hv e he;simp[go_sem,hc]at he;subst he;exact hv):KO K fn (p,γ) ops (i::rest) Q a w:=
 ql C hp ho hw (λw₁ r=>⟨hrun w₁ (hs.rely r).2,vD w₁ (hs.rely r).2 (hs.rely r).Jg⟩) h
theorem b7{Γ:Type}{K:Γ->Goroutine->World->Prop}{Rl:Γ->World->World->Prop}{St:Γ->World->Γ->World->Array Event->Prop}{γ:Γ}{Q:Γ->Exit->Act->World->Prop}(C:KC P main K Rl St){id:Nat}{L:cx}(h:KO K fn γ ops L Q a w)(hL:List.range ops.size=L:=by conv=>lhs;simp only[iK,dA,j8,Nat.reduceAdd,eN,List.range,List.range.loop]):KJ K fn γ (.region id ops false) Q a w:=Az C (hL▸h)
def zu(γ:So)(w:World)(v:Value)(l:br):Prop:=∃A cap,v=.slice A l.length cap/\∀i x,l[i]? =some x->∃ad,A=some ad/\bF γ w (ad.add i) (.int .i64 x)
theorem zu.rely {v:Value}{l:br}{w1:World}(h:zu γ w v l)(r:iL γ w w1):zu γ w1 v l:=by obtain⟨A,cap,rfl,h⟩:=h;exact⟨A,cap,rfl,λi x hx=>by obtain⟨ad,h1,h2⟩:=h i x hx;exact⟨ad,h1,h2.rely r⟩⟩
theorem zu.alloc {v:Value}{l:br}(h:zu γ w v l)(n:Nat)(ob:Obj):zu (γ.more n) (w.alloc ob) v l:=by obtain⟨A,cap,rfl,h⟩:=h;exact⟨A,cap,rfl,λi x hx=>by obtain⟨ad,h1,h2⟩:=h i x hx;exact⟨ad,h1,h2.alloc n ob⟩⟩
structure Kept (γ:So) (w:World) (γ':So) (w':World):Prop where
 shr:γ'.1=γ.1
 own:∀b,γ.2 b->γ'.2 b
 blk:∀b,γ.all b->b<w.heap.size->w'.heap[b]? =w.heap[b]?
 size:w.heap.size<=w'.heap.size
 env:w'.os=w.os/\w'.output=w.output
theorem Kept.all {γ':So}{w':World}(h:Kept γ w γ' w'){b:Nat}(hb:γ.all b):γ'.all b:=hb.imp (by rw[h.shr];exact id) (h.own b)
theorem Kept.refl (γ:So)(w:World):Kept γ w γ w:=⟨rfl,λ_ h=>h,λ_ _ _=>rfl,ai _,rfl,rfl⟩
theorem Kept.trans {γ' γ'':So}{w' Tl:World}(h:Kept γ w γ' w')(k:Kept γ' w' γ'' Tl):Kept γ w γ'' Tl:=
 ⟨k.shr.trans h.shr,λb hb=>k.own b (h.own b hb),λb hb hlt=>(k.blk b (h.all hb) (cG hlt h.size)).trans (h.blk b hb hlt),bz h.size k.size,k.env.1.trans h.env.1,k.env.2.trans h.env.2⟩
theorem Kept.rely {w1:World}(r:iL γ w w1):Kept γ w γ w1:=⟨rfl,λ_ h=>h,λb hb _=>r.2.1 b hb,r.1,r.2.2.2⟩
theorem Kept.alloc (γ:So)(w:World)(n:Nat)(ob:Obj):Kept γ w (γ.more n) (w.alloc ob):=⟨rfl,λ_ h=>.inl h,λb _ hlt=>RowKit.Below.heap_alloc _ _ _ hlt,ab,rfl,rfl⟩
theorem Kept.sees {γ':So}{w':World}(h:Kept γ w γ' w'){ad:Addr}{v:Value}(s:bF γ w ad v):bF γ' w' ad v:=
 ⟨h.all s.1,(World.cell?_of_block (h.blk ad.block s.1 s.lt)).trans s.2⟩
theorem Kept.G7 {γ':So}{w':World}(h:Kept γ w γ' w'){v:Value}{l:br}(s:zu γ w v l):zu γ' w' v l:=by obtain⟨A,cap,rfl,s⟩:=s;exact⟨A,cap,rfl,λi x hx=>by obtain⟨ad,h1,h2⟩:=s i x hx;exact⟨ad,h1,h.sees h2⟩⟩
end Go.Co
namespace Go.Co
open Go Go.Conc
variable {P:Program} {aa:Machine->Trace->Prop} {fn:FuncId} {γ:So} {a:Act} {w:World} {ops:Array Oper} {i:Nat} {rest:cx} {o:Oper}
theorem LI(hP:Plain P){b:Frame}{k:List Item}{cs:List Frame}(hk:b.kind≠.early){f:FuncId}{args:Array Operand}{ats:Array TypeId}{R:Value->World->Prop}
  (ho:ops[i]? =some o) (hw:Region.wanted o (yielded ops a.tmps)=true) (hop:o.op=.call {callee:=.value (.func f),args,argTypes:=ats}) {sW:Func} {c:Code} (hf:P.funcs[f]? =some sW) (hb:sW.body=some c)
  (mX:∀τ,Calls P f (args.map a.eval) (w.re τ 0) λe w'=>∃v,e=.returned v/\R v w') (eW:∀v w',R v w'->∀τ d,iB P aa () (G (b.at (a.put o.dst v) (.inRegion ops rest::k)) cs) (w'.re τ d)):iB P aa () (G (b.at a (.inRegion ops (i::rest)::k)) cs) w:=by
 refine PK hP λ_ τ=>?_;obtain⟨e,w',fr,⟨v,rfl,hR⟩,MW,TH,kz⟩:=mX τ (b.at a (.inRegion ops (i::rest)::k)::cs);have afN:=eW v w' hR;have xP:=hP.count f sW hf;have hstep:step P (lone (b.at a (.inRegion ops (i::rest)::k)) cs (w.re τ 0))=.next (lone (Frame.enter P f (args.map a.eval) .normal) (b.at a (.inRegion ops (i::rest)::k)::cs) (w.re τ 0)):=by
  refine step_lone_go ?_;have:=goes_call (P:=P) (main:=true) (b:=b) (k:=k) (cs:=cs) (w:=w.re τ 0) (K:=λg w' es=>g=G ((base f).at {tmps:=args.map a.eval++Array.replicate (sW.ntmps-(args.map a.eval).size) undef,defers:=[]} [.code c]) (b.at a (.inRegion ops (i::rest)::k)::cs)/\w'=w.re τ 0/\es=#[]) ho hw hk hop hf xP hb ⟨rfl,rfl,rfl⟩;obtain⟨g',w2,es,e1,e2,e3,e4⟩:=goes_elim this;subst e2 e3 e4;have MV:Frame.enter P f (args.map a.eval) .normal=(base f).at {tmps:=args.map a.eval++Array.replicate (sW.ntmps-(args.map a.eval).size) undef,defers:=[]} [.code c]:=by simp[Frame.enter,Frame.at,hf,hb,base]
  rw[MV];show(stepG P true (G (b.at a (.inRegion ops (i::rest)::k)) cs) (w.re τ 0)).bare=_;rw[e1];rfl
 have UN:step P (lone fr (b.at a (.inRegion ops (i::rest)::k)::cs) w')=.next (lone (b.at (a.put o.dst v) (.inRegion ops rest::k)) cs w'):=by rw[step_leave_returned kz,Frame.finish_at,ho];rfl
 have adP:Steps P (lone (b.at a (.inRegion ops (i::rest)::k)) cs (w.re τ 0)) (lone (b.at (a.put o.dst v) (.inRegion ops rest::k)) cs w'):=
  (Steps.one hstep).trans (Steps.trans MW (Steps.one UN))
 obtain⟨n,hn⟩:=adP;exact⟨n,_,w',hn,rfl,rfl,λτ d=>afN τ d⟩
theorem aaj(hP:Plain P){Q:Unit->Exit->Act->World->Prop}{f:FuncId}{args:Array Operand}{ats:Array TypeId}{R:Value->World->Prop}
  (ho:ops[i]? =some o) (hw:Region.wanted o (yielded ops a.tmps)=true) (hop:o.op=.call {callee:=.value (.func f),args,argTypes:=ats}) {sW:Func} {c:Code} (hf:P.funcs[f]? =some sW) (hb:sW.body=some c)
  (mX:∀τ,Calls P f (args.map a.eval) (w.re τ 0) λe w'=>∃v,e=.returned v/\R v w') (eW:∀v w',R v w'->∀τ d,KO (iB P aa) fn () ops rest Q (a.put o.dst v) (w'.re τ d)):KO (iB P aa) fn () ops (i::rest) Q a w:=
 λb k cs hbf hk hc=>LI hP hk ho hw hop hf hb mX λv w' hR τ d=>eW v w' hR τ d b k cs hbf hk hc
theorem NU{f:FuncId}{args:Array Value}{Post:Gm->Value->World->Prop}{Post':Value->World->Prop}(hq:∀γ' v w w1,Post γ' v w->γ'.1=.bad->iL γ'.2 w w1->Post' v w1)
  (h:xY (QL P aa) P (.bad,γ) f args w (λγ' v w=>γ'.1=.bad/\Post γ' v w)):xY (iB P aa) P () f args w (λ_=>Post'):=by
 obtain⟨sW,c,h1,h2,h3,h4⟩:=h;refine⟨sW,c,h1,h2,h3,?_⟩;refine aau (Q:=λγ'=>OO P sW Post γ') (λγ' e a w w1 q r hb=>?_) (yd h4 λγ' e a w q=>?_);cases e with
 |normal=>obtain⟨hd,v,hr,hp⟩:=q;exact⟨hd,v,hr,hq _ _ _ _ hp hb r⟩
 |ret=>obtain⟨hd,v,hr,hp⟩:=q;exact⟨hd,v,hr,hq _ _ _ _ hp hb r⟩
 |exit id=>exact q
 |goto l=>exact q
 |panic ch=>exact q
 |outgrown=>exact q
 cases e with
 |normal=>obtain⟨hd,v,hr,hb,hp⟩:=q;exact⟨hb,hd,v,hr,hp⟩
 |ret=>obtain⟨hd,v,hr,hb,hp⟩:=q;exact⟨hb,hd,v,hr,hp⟩
 |exit id=>exact q.elim
 |goto l=>exact q.elim
 |panic ch=>exact q.elim
 |outgrown=>exact q.elim
end Go.Co
namespace Go.Di
open Go Go.Conc Go.Co
variable {P:Program} {aa:Machine->Trace->Prop} {ty:fo} {x:Cx} {aD:bR} {call:aY} {yf:di}
theorem iG(hP:Plain P){fr:Frame}{cs:List Frame}{w:World}(h:∀d,∃fr' iq w' es,stepG P true (G fr cs) (w.at d)=.go (G fr' iq) w' es/\iB P aa () (G fr' iq) w'):iB P aa () (G fr cs) w:=
 (ye hP).step () fr cs w λw1 h1=>by obtain⟨d,rfl⟩:=h1;obtain⟨fr',iq,w',es,e,hk⟩:=h d;exact⟨fr',iq,w',es,(),e,trivial,hk⟩
theorem JE{g:Goroutine}{w:World}(h:iB P aa () g w)(d:Nat):iB P aa () g (w.at d):=λd'=>h d'
theorem fI(hP:Plain P){fr fr':Frame}{cs iq:List Frame}{w:World}(h:∀w,∃es,stepG P true (G fr cs) w=.go (G fr' iq) w es)(hk:iB P aa () (G fr' iq) w):iB P aa () (G fr cs) w:=
 iG hP λd=>by obtain⟨es,e⟩:=h (w.at d);exact⟨fr',iq,_,es,e,JE hk d⟩
section afv
variable {b:Frame} {a:Act} {k:List Item} {cs:List Frame} {w:World}
theorem Z2:stepG P true (G (b.atR a (.code .skip::k)) cs) w=.go (G (b.atR a k) cs) w #[]:=by simp[G,stepG,stepG.exec,Frame.atR]
theorem WR{l:Nat}:stepG P true (G (b.atR a (.code (.label l)::k)) cs) w=.go (G (b.atR a k) cs) w #[]:=by simp[G,stepG,stepG.exec,Frame.atR]
theorem Nw{id:Nat}:stepG P true (G (b.atR a (.inBlock id::k)) cs) w=.go (G (b.atR a k) cs) w #[]:=by simp[G,stepG,stepG.exec,Frame.atR]
theorem Nv{c:Code}:stepG P true (G (b.atR a (.inScope c::k)) cs) w=.go (G (b.atR a k) cs) w #[]:=by simp[G,stepG,stepG.exec,Frame.atR]
theorem adu{x y:Code}:stepG P true (G (b.atR a (.code (.seq x y)::k)) cs) w=.go (G (b.atR a (.code x::.code y::k)) cs) w #[]:=by simp[G,stepG,stepG.exec,Frame.atR]
theorem Ph{c:Operand}{x y:Code}{t:Bool}(h:a.eval c=.bool t):stepG P true (G (b.atR a (.code (.cond c x y)::k)) cs) w=.go (G (b.atR a (.code (if t then x else y)::k)) cs) w #[]:=by have:=congrFun (Frame.eval_atR b a (.code (.cond c x y)::k)) c;simp only[Frame.atR]at this;simp[G,stepG,stepG.exec,Frame.atR,this,h]
theorem WS{id:Nat}{c:Code}:stepG P true (G (b.atR a (.code (.block id c)::k)) cs) w=.go (G (b.atR a (.code c::.inBlock id::k)) cs) w #[]:=by simp[G,stepG,stepG.exec,Frame.atR]
theorem WN{c:Code}:stepG P true (G (b.atR a (.code (.scope c)::k)) cs) w=.go (G (b.atR a (.code c::.inScope c::k)) cs) w #[]:=by simp[G,stepG,stepG.exec,Frame.atR]
theorem Z3{c:Code}:stepG P true (G (b.atR a (.code (.loop c)::k)) cs) w=.go (G (b.atR a (.code c::.inLoop c::k)) cs) w #[]:=by simp[G,stepG,stepG.exec,Frame.atR]
theorem Ru{c:Code}:stepG P true (G (b.atR a (.inLoop c::k)) cs) w=.go (G (b.atR a (.code c::.inLoop c::k)) cs) w #[]:=by simp[G,stepG,stepG.exec,Frame.atR]
theorem Z4{id:Nat}{k':List Item}(h:exitTo id k=some k'):stepG P true (G (b.atR a (.code (.exit id)::k)) cs) w=.go (G (b.atR a k') cs) w #[]:=by simp[G,stepG,stepG.exec,Frame.atR,h]
theorem Rt{id:Nat}{ops:Array Oper}:stepG P true (G (b.atR a (.code (.region id ops false)::k)) cs) w=.go (G (b.atR a (.inRegion ops (List.range ops.size)::k)) cs) w #[]:=by simp[G,stepG,stepG.exec,Frame.atR]
theorem Nu{id:Nat}{ops:Array Oper}(hm:P.follows .mixedOrders=true):stepG P true (G (b.atR a (.code (.region id ops true)::k)) cs) w=.go (G (b.atR a (.inRegion ops (Region.linearise .any ops (w.tape w.drawn (.order b.fn id)))::k)) cs) (w.at (w.drawn+1)) #[]:=by simp[G,stepG,stepG.exec,Frame.atR,choose,Sem.run,Question.forced,Question.cut,Region.schedule,hm,World.at]
theorem qq{ops:Array Oper}:stepG P true (G (b.atR a (.inRegion ops []::k)) cs) w=.go (G (b.atR a k) cs) w #[]:=by simp[G,stepG,stepG.exec,Frame.atR]
def Px(o:Op):Bool:=match o with|.defer _=>false|_=>true
theorem Io{ops:Array Oper}{i:Nat}{rest:cx}{o:Oper}(ho:ops[i]? =some o)(hw:Region.wanted o (yielded ops a.tmps)=true)(hd:Px o.op=true):
  stepG P true (G (b.atR a (.inRegion ops (i::rest)::k)) cs) w=stepG.apply P true (b.atR a (.inRegion ops (i::rest)::k)) cs none (execOp a.eval o) w:=by
 have he:=Frame.eval_atR b a (.inRegion ops (i::rest)::k);simp only[Frame.atR]at he;have h1:stepG P true (G (b.atR a (.inRegion ops (i::rest)::k)) cs) w=stepG.oper P true (b.atR a (.inRegion ops (i::rest)::k)) cs none w:=by simp[G,stepG,stepG.exec,Frame.atR,ho,hw]
 rw[h1];unfold stepG.oper;have hop:(b.atR a (.inRegion ops (i::rest)::k)).oper?=some o:=by simp[Frame.oper?,Frame.atR,ho]
 simp only[hop];have vD:(b.atR a (.inRegion ops (i::rest)::k)).eval=a.eval:=Frame.eval_atR b a _;split;rename_i l c h2 h3;rw[h3]at hd;cases hd;rw[vD]
theorem ud{ops:Array Oper}{i:Nat}{rest:cx}{o:Oper}(ho:ops[i]? =some o)(hw:Region.wanted o (yielded ops a.tmps)=false):
  stepG P true (G (b.atR a (.inRegion ops (i::rest)::k)) cs) w=.go (G (b.atR (a.put o.dst undef) (.inRegion ops rest::k)) cs) w #[]:=by
 have hf:=Frame.finish_atR b a ops i rest k undef;simp only[ho,cF]at hf;rw[<-hf];simp[G,stepG,stepG.exec,Frame.atR,ho,hw]
end afv
theorem Sd(hP:Plain P){b:Frame}{a:Act}{k:List Item}{cs:List Frame}{ops:Array Oper}{i:Nat}{rest:cx}{o:Oper}{d:DV}{S':aj}(hk:b.kind≠.early)
  (ho:ops[i]? =some o) (hw:Region.wanted o (yielded ops a.tmps)=true) (hd:Px o.op=true) (hy:∀n,Yields (x.dr n) ((execOp a.eval o).run P (x.w.at n)) d S')
  (eW:∀y v,y.S=S'->Rel y->bE x y->RV y d v->iB P aa () (G (b.atR (a.put o.dst v) (.inRegion ops rest::k)) cs) y.w):iB P aa () (G (b.atR a (.inRegion ops (i::rest)::k)) cs) x.w:=by
 refine iG hP λn=>?_;obtain⟨v,y,h1,h2,h3,h4,h5⟩:=hy n;have hf:=Frame.finish_atR b a ops i rest k;simp only[ho,cF]at hf;have ox:(b.kind==CallKind.early)=false:=by simpa using hk
 rw[Io ho hw hd];rcases h1 with h1|⟨h1,rfl⟩;refine⟨b.atR (a.put o.dst v) (.inRegion ops rest::k),cs,y.w,seen P b.fn ((execOp a.eval o).events P (x.w.at n) #[]),?_,eW y v h2 h3 ((eM x n).trans h4) h5⟩;rw[<-hf];simp[stepG.apply,h1,G,Frame.atR,ox,GStep.after];refine⟨b.atR (a.put o.dst undef) (.inRegion ops rest::k),cs,y.w,seen P b.fn ((execOp a.eval o).events P (x.w.at n) #[]),?_,eW y undef h2 h3 ((eM x n).trans h4) h5⟩;rw[<-hf];simp[stepG.apply,h1,G,Frame.atR,ox,GStep.after]
end Go.Di
namespace Go.Di
open Go Go.Conc Go.Co
variable {P:Program} {aa:Machine->Trace->Prop} {ty:fo} {x:Cx} {aD:bR} {call:aY} {yf:di}
theorem wK{env:cj}{a:Act}(h:fZ x env a.tmps):wF x (iN env) a.eval:=by
 intro o d ho;cases o with
 |tmp t=>
  simp only[iN,aF]at ho;subst ho;by_cases ht:t<env.length;have:=h.2 t env[t] (bn ht);simpa [Act.eval,aP,ht]using this;have h1:env[t]? =none:=pZ (yo ht);have h2:a.tmps[t]? =none:=uU (by rw[h.1];exact yo ht);have:a.eval (.tmp t)=undef:=by simp[Act.eval,aU,h2]
  rw[this,aP,h1];exact .val rfl
 |const v=>exact yE ho
 |func f=>simp only[iN,aF]at ho;subst ho;exact .fn rfl rfl ab ab
 |global g=>cases ho
theorem O2{env:cj}{arr:Array Value}(h:fZ x env arr){t:Nat}{d:DV}{v:Value}(hd:RV x d v):fZ x (env.set t d) (arr.setIfInBounds t v):=by
 refine⟨by simpa using h.1,λj c hc=>?_⟩;rw[aM]at hc;by_cases hj:t=j;subst hj;rw[if_pos rfl]at hc;split at hc;rename_i hlt;simp only[aF]at hc;subst hc;have:t<arr.size:=by rw[h.1];exact hlt
 simpa [aU,this]using hd;cases hc;rw[if_neg hj]at hc;have:=h.2 j c hc;simpa [aU,Array.getElem?_setIfInBounds,hj]using this
theorem zN{env:cj}{a:Act}(h:fZ x env a.tmps){dst:Option Tmp}{d:DV}{v:Value}(hd:RV x d v):fZ x (jN env dst d) (a.put dst v).tmps/\(a.put dst v).defers=a.defers:=by
 cases dst with
 |none=>exact⟨h,rfl⟩
 |some t=>exact⟨O2 h hd,rfl⟩
theorem z8{env:cj}{a:Act}(h:fZ x env a.tmps)(ops:Array Oper)(o:Oper):Region.wanted o (yielded ops a.tmps)=b9 ops env o:=by
 unfold Region.wanted b9;cases o.guard with
 |none=>rfl
 |some g=>
  obtain⟨j,want⟩:=g;simp only[yielded];cases hb:(ops[j]?).bind (·.dst)with
  |none=>rfl
  |some t=>
   simp only[cF];by_cases ht:t<env.length;have h1:=bn ht;have hr:=h.2 t env[t] h1;have h2:t<a.tmps.size:=by rw[h.1];exact ht
   rw[h1,bX h2];simp only[aU,bX h2,rO]at hr;generalize env[t]=d at hr;generalize a.tmps[t]=v at hr;cases hr with
   |@val v hv=>cases v<;>first|rfl|(simp only;cases want<;>rfl)|(rename_i b;cases b<;>cases want<;>rfl)
   |_=>cases want<;>rfl
   rw[pZ (yo ht),uU (by rw[h.1];exact yo ht)];cases want<;>rfl
def eR(P:Program)(aa:Machine->Trace->Prop)(x:Cx)(g:FuncId)(vals:Array Value)(Post:Cx->Value->Prop):Prop:=
 (∃fn c,P.funcs[g]? =some fn/\fn.body=some c)/\∀(fr:Frame)(cs:List Frame),(∀y v,Post y v->iB P aa () (G (fr.finish v) cs) y.w)->iB P aa () (G (Frame.enter P g vals .normal) (fr::cs)) x.w
theorem eR.mono {g:FuncId}{vals:Array Value}{Post Post':Cx->Value->Prop}(h:eR P aa x g vals Post)(hp:∀y v,Post y v->Post' y v):eR P aa x g vals Post':=
 ⟨h.1,λfr cs hc=>h.2 fr cs λy v p=>hc y v (hp y v p)⟩
theorem eR.at {g:FuncId}{vals:Array Value}{Post:Cx->Value->Prop}(h:eR P aa x g vals Post)(n:Nat):eR P aa (x.dr n) g vals Post:=
 ⟨h.1,λfr cs hc=>JE (h.2 fr cs hc) n⟩
def gJ(P:Program)(aa:Machine->Trace->Prop)(call:aY):Prop:=
 ∀f args S v S',call f args S=some (v,S')->∀x vals,Rel x->x.S=S->fZ x args vals->eR P aa x f vals λy u=>y.S=S'/\Rel y/\bE x y/\RV y v u
def Bi(P:Program)(aa:Machine->Trace->Prop)(aD:bR):Prop:=
 ∀f args v,aD f args=some v->args.all DV.pure=true->v.pure=true/\∀x vals,Rel x->fZ x args vals->eR P aa x f vals λy u=>y.S=x.S/\Rel y/\bE x y/\RV y v u
def Bh(P:Program)(aa:Machine->Trace->Prop)(yf:di):Prop:=
 ∀id args S v S',yf id args S=some (v,S')->∀x vals,Rel x->x.S=S->fZ x args vals->∃lo:Loop,x.w.heap[x.μ id]? =some (.loop lo)/\vals.size=lo.params.size/\
  ∀(fr:Frame)(cs:List Frame),(∀y u,(y.S=S'/\Rel y/\bE x y/\RV y v u)->iB P aa () (G (fr.finish u) cs) y.w)->iB P aa () (G (Frame.round (x.μ id) lo.fn ((lo.params.zip vals).foldl (λtmps (t,a)=>tmps.setIfInBounds t a) lo.tmps) lo.assign lo.body .normal) (fr::cs)) x.w
theorem XR(hc:gJ P aa call)(hi:Bi P aa aD){g:FuncId}{args:cj}{S S':aj}{v:DV}(h:vO aD call g args S=some (v,S')){vals:Array Value}(hR:Rel x)(hS:x.S=S)(ha:fZ x args vals):
  eR P aa x g vals λy u=>y.S=S'/\Rel y/\bE x y/\RV y v u:=by
 unfold vO at h;split at h;rename_i hp;split at h;rename_i v' h1;cases h;subst hS;refine(hi _ _ _ h1 hp).2 x vals hR ⟨by simpa using ha.1,λj c hj=>?_⟩;simp only[cI,af]at hj;obtain⟨c',h2,rfl⟩:=hj;exact(ha.2 j c' h2).strip;exact hc _ _ _ _ _ h x vals hR hS ha;exact hc _ _ _ _ _ h x vals hR hS ha
theorem lZ{l m:cj}{a b:Array Value}(h:fZ x l a)(k:fZ x m b):fZ x (l++m) (a++b):=by refine⟨by simp[h.1,k.1],λj c hc=>?_⟩;simp only[aU];by_cases hj:j<l.length;rw[eC hj]at hc;rw[yA (by rw[h.1];exact hj)];simpa [aU]using h.2 j c hc;rw[fP U]at hc;rw[Qi (by rw[h.1];omega),h.1];simpa [aU]using k.2 _ c hc
theorem KH(hP:Plain P){b:Frame}{a:Act}{k:List Item}{cs:List Frame}{ops:Array Oper}{i:Nat}{rest:cx}{o:Oper}{g:FuncId}{fs vs:Array Value}{c:Call}{f:Operand}{Post:Cx->Value->Prop}(hk:b.kind≠.early)
  (ho:ops[i]? =some o) (hw:Region.wanted o (yielded ops a.tmps)=true) (hop:o.op=.call c) (acB:c.callee=.value f) (hf:a.eval f=.func (.func g) fs vs) (he:eR P aa x g (fs++c.args.map a.eval++vs) Post)
  (eW:∀y v,Post y v->iB P aa () (G (b.atR (a.put o.dst v) (.inRegion ops rest::k)) cs) y.w):iB P aa () (G (b.atR a (.inRegion ops (i::rest)::k)) cs) x.w:=by
 refine iG hP λn=>?_;have o8:=Frame.finish_atR b a ops i rest k;simp only[ho,cF]at o8;have ox:(b.kind==CallKind.early)=false:=by simpa using hk
 rw[Io ho hw (by rw[hop];rfl)];obtain⟨⟨fn,cd,h1,h2⟩,h3⟩:=he;have xP:=hP.count g fn h1;have hrun:(execOp a.eval o).run P (x.w.at n)=.ok (.enter g (fs++c.args.map a.eval++vs)) (x.w.at n):=by unfold execOp;simp only[hop,resolve,acB,hf,Deferred.ofValue,Sem.run_bind,Sem.run_pure,Result.andThen_ok,invoke,callFunc,run_program,h1,xP,aJ,if_false,h2,Option.isNone_some]
 refine⟨Frame.enter P g (fs++c.args.map a.eval++vs) .normal,b.atR a (.inRegion ops (i::rest)::k)::cs,x.w.at n,seen P b.fn ((execOp a.eval o).events P (x.w.at n) #[]),?_,JE (h3 _ cs λy v hp=>?_) n⟩;simp[stepG.apply,hrun,G,Frame.atR,ox,GStep.after]
 grind
theorem Xh(hP:Plain P){b:Frame}{a:Act}{k:List Item}{cs:List Frame}{ops:Array Oper}{i:Nat}{rest:cx}{o:Oper}{l:Nat}{lo:Loop}{c:Call}{f:Operand}{Post:Cx->Value->Prop}(hk:b.kind≠.early)
  (ho:ops[i]? =some o) (hw:Region.wanted o (yielded ops a.tmps)=true) (hop:o.op=.call c) (acB:c.callee=.value f) (hf:a.eval f=.func (.yield l) #[] #[]) (hl:x.w.heap[l]? =some (.loop lo)) (hsz:(c.args.map a.eval).size=lo.params.size)
  (he:∀(fr:Frame)(cs:List Frame),(∀y u,Post y u->iB P aa () (G (fr.finish u) cs) y.w)->iB P aa () (G (Frame.round l lo.fn ((lo.params.zip (c.args.map a.eval)).foldl (λtmps (t,a)=>tmps.setIfInBounds t a) lo.tmps) lo.assign lo.body .normal) (fr::cs)) x.w)
  (eW:∀y v,Post y v->iB P aa () (G (b.atR (a.put o.dst v) (.inRegion ops rest::k)) cs) y.w):iB P aa () (G (b.atR a (.inRegion ops (i::rest)::k)) cs) x.w:=by
 refine iG hP λn=>?_;have o8:=Frame.finish_atR b a ops i rest k;simp only[ho,cF]at o8;have ox:(b.kind==CallKind.early)=false:=by simpa using hk
 rw[Io ho hw (by rw[hop];rfl)];have hg:=ja (P:=P) (w:=x.w.at n) (show(x.w.at n).heap[l]? =some (.loop lo)from hl) ab;have hrun:(execOp a.eval o).run P (x.w.at n)=.ok (.round l lo.fn ((lo.params.zip (c.args.map a.eval)).foldl (λtmps (t,a)=>tmps.setIfInBounds t a) lo.tmps) lo.assign lo.body) (x.w.at n):=by
  have hne:¬((#[]++c.args.map a.eval).size≠lo.params.size):=by simpa using hsz
  unfold execOp;simp only[hop,resolve,acB,hf,Deferred.ofValue,Sem.run_bind,Sem.run_pure,Result.andThen_ok,invoke,Instr.yield,Instr.getLoop,hg,if_neg hne];simp
 refine⟨Frame.round l lo.fn _ lo.assign lo.body .normal,b.atR a (.inRegion ops (i::rest)::k)::cs,x.w.at n,seen P b.fn ((execOp a.eval o).events P (x.w.at n) #[]),?_,JE (he _ cs λy v hp=>?_) n⟩;simp[stepG.apply,hrun,G,Frame.atR,ox,GStep.after]
 grind
theorem UA(hP:Plain P)(eV:jP P ty)(hc:gJ P aa call)(hi:Bi P aa aD)(Ma:Bh P aa yf){b:Frame}{a:Act}{k:List Item}{cs:List Frame}{ops:Array Oper}{i:Nat}{rest:cx}{o:Oper}{d:DV}{S':aj}{env:cj}{aB:Nat}(hk:b.kind≠.early)
  (ho:ops[i]? =some o) (hw:Region.wanted o (yielded ops a.tmps)=true) (hR:Rel x) (hn:E3 x.S aB) (he:fZ x env a.tmps) (h:ah P ty aD call yf (iN env) o x.S aB=some (d,S'))
  (eW:∀y v,y.S=S'->Rel y->bE x y->RV y d v->iB P aa () (G (b.atR (a.put o.dst v) (.inRegion ops rest::k)) cs) y.w):iB P aa () (G (b.atR a (.inRegion ops (i::rest)::k)) cs) x.w:=by
 by_cases hl:Op.lone o.op=true;refine Sd hP hk ho hw ?_ (λn=>Q5 eV (hR.dr n) hn (wK (he.mono (eM x n))) hl h) eW;cases hop:o.op<;>first|rfl|(simp[ah,hop]at h)
 obtain⟨c,hop⟩:∃c,o.op=.call c:=by cases hop:o.op<;>first|(exact⟨_,rfl⟩)|(exact absurd (by rw[hop];rfl) hl)
 obtain⟨callee,args,ats⟩:=c;cases callee with
 |builtin bi=>exact absurd (by rw[hop];rfl) hl
 |invoke r m=>simp[ah,hop]at h
 |value f=>
  simp only[ah,hop]at h;have vD:=wK he;split at h;rename_i g fs iq xs hf Qn;have hfv:=vD f _ hf;have pG:=wJ vD Qn;generalize hv:a.eval f=vf at hfv;cases hfv with
  |@fn _ _ _ vfs vcs h1 h2 h3 h4=>
   have dQ:fZ x (fs++xs++iq) (vfs++args.map a.eval++vcs):=by have e:(args.toList.map a.eval).toArray=args.map a.eval:=Array.toList_inj.1 ab;rw[e]at pG;exact lZ (lZ ⟨h1,h3⟩ pG) ⟨h2,h4⟩
   split at h;exact KH hP hk ho hw hop rfl hv (hc _ _ _ _ _ h x _ hR rfl dQ) λy v hp=>eW y v hp.1 hp.2.1 hp.2.2.1 hp.2.2.2;exact KH hP hk ho hw hop rfl hv (XR hc hi h hR rfl dQ) λy v hp=>eW y v hp.1 hp.2.1 hp.2.2.1 hp.2.2.2
  rename_i id xs hf Qn;have hfv:=vD f _ hf;have pG:=wJ vD Qn;generalize hv:a.eval f=vf at hfv;cases hfv with
  |nj hS=>have e:(args.toList.map a.eval).toArray=args.map a.eval:=Array.toList_inj.1 ab;rw[e]at pG;obtain⟨lo,q1,q2,q3⟩:=Ma _ _ _ _ _ h x _ hR rfl pG;exact Xh hP hk ho hw hop rfl hv q1 q2 q3 λy v hp=>eW y v hp.1 hp.2.1 hp.2.2.1 hp.2.2.2
  cases h
theorem Ii(hP:Plain P)(eV:jP P ty)(hc:gJ P aa call)(hi:Bi P aa aD)(Ma:Bh P aa yf){ops:Array Oper}{b:Frame}{k:List Item}{cs:List Frame}(hk:b.kind≠.early):
  ∀(r pre:List Oper),ops.toList=pre++r->∀{env aK:cj}{S':aj}{a:Act}{x:Cx},Hr P ty aD call yf ops r env x.S=some (aK,S')->Rel x->fZ x env a.tmps->
   (∀y a',y.S=S'->Rel y->bE x y->fZ y aK a'.tmps->a'.defers=a.defers->iB P aa () (G (b.atR a' k) cs) y.w)->iB P aa () (G (b.atR a (.inRegion ops (List.range' pre.length r.length)::k)) cs) x.w
 |[],pre,_,env,aK,S',a,x,h,hR,he,hn=>by simp only[Hr,aF,ay]at h;obtain⟨rfl,rfl⟩:=h;exact fI hP (λw=>⟨_,qq⟩) (hn x a rfl hR (bE.refl x) he rfl)
 |o::r,pre,HB,env,aK,S',a,x,h,hR,he,hn=>by
  have ho:ops[pre.length]? =some o:=by rw[<-jx,HB];simp
  have abA:ops.toList=(pre++[o])++r:=by rw[HB];simp
  have hlen:(pre++[o]).length=pre.length+1:=ab
  simp only[dA,List.range'_succ];unfold Hr at h;have X1:=z8 he ops o;by_cases hw:b9 ops env o=true;rw[if_pos hw]at h;rw[hw]at X1;obtain⟨x1,k1,k2,k3,k4,k5⟩:=adx (ty:=ty) o hR he;rw[<-k1];split at h;rename_i nw S0 vz;rw[vz]at k2 k5;dsimp only at k2 k5;subst k2;split at h;rename_i v S1 h1;refine UA hP eV hc hi Ma hk ho X1 k3 (.inl rfl) k5 h1 λy u hyS hyR hyM hyV=>?_;subst hyS;have oy:=zN (k5.mono hyM) (dst:=o.dst) hyV;have:=Ii hP eV hc hi Ma hk r (pre++[o]) abA h hyR oy.1 λz a' z1 z2 z3 z4 z5=>hn z a' z1 z2 (k4.trans (hyM.trans z3)) z4 (z5.trans oy.2);rw[hlen]at this;exact this;cases h;rw[if_neg hw]at h;have hwf:b9 ops env o=false:=by simpa using hw
  rw[hwf]at X1;refine fI hP (λw=>⟨_,ud ho X1⟩) ?_;have oy:=zN he (dst:=o.dst) (d:=bD) (v:=undef) (.val rfl);have:=Ii hP eV hc hi Ma hk r (pre++[o]) abA h hR oy.1 λz a' z1 z2 z3 z4 z5=>hn z a' z1 z2 z3 z4 (z5.trans oy.2);rw[hlen]at this;exact this
end Go.Di
namespace Go.Di
open Go Go.Conc Go.Co
variable {P:Program} {aa:Machine->Trace->Prop} {ty:fo} {x:Cx} {aD:bR} {call:aY} {yf:di}
def xX(P:Program)(aa:Machine->Trace->Prop)(ty:fo)(aD:bR)(call:aY)(yf:di)(id:Nat)(ops:Array Oper)(draw:Bool):Prop:=
 ∀{env aK:cj}{S':aj}{x:Cx}{a:Act}{b:Frame}{k:List Item}{cs:List Frame},pN P ty aD call yf ops draw env x.S=some (aK,S')->b.kind≠.early->Rel x->fZ x env a.tmps->
  (∀y a',y.S=S'->Rel y->bE x y->fZ y aK a'.tmps->a'.defers=a.defers->iB P aa () (G (b.atR a' k) cs) y.w)->iB P aa () (G (b.atR a (.code (.region id ops draw)::k)) cs) x.w
def Ds(P:Program)(aa:Machine->Trace->Prop)(ty:fo)(aD:bR)(call:aY)(yf:di):Code->Prop
 |.region id ops draw=>xX P aa ty aD call yf id ops draw
 |.seq a b|.cond _ a b=>Ds P aa ty aD call yf a/\Ds P aa ty aD call yf b
 |.block _ c|.loop c|.scope c=>Ds P aa ty aD call yf c
 |_=>True
theorem Rm(hP:Plain P)(eV:jP P ty)(hc:gJ P aa call)(hi:Bi P aa aD)(Ma:Bh P aa yf)(id:Nat)(ops:Array Oper):xX P aa ty aD call yf id ops false:=by intro env aK S' x a b k cs h hk hR he hn;simp only[pN,Bool.false_and,lB,aJ,if_false]at h;refine fI hP (λw=>⟨_,Rt⟩) ?_;have:=Ii hP eV hc hi Ma hk ops.toList [] rfl h hR he hn;rw[List.range_eq_range'];simpa using this
def Jy(P:Program)(aa:Machine->Trace->Prop)(b:Frame)(k:List Item)(cs:List Frame):DX->Act->World->Prop
 |.normal,a,w=>iB P aa () (G (b.atR a k) cs) w
 |.exit id,a,w=>∀k',exitTo id k'=exitTo id k->iB P aa () (G (b.atR a (.code (.exit id)::k')) cs) w
 |.ret,a,w=>∀k',iB P aa () (G (b.atR a (.code .ret::k')) cs) w
theorem Jy.push {b:Frame}{k:List Item}{cs:List Frame}{e:DX}{a:Act}{w:World}{i:Item}(hi:∀id,exitTo id (i::k)=exitTo id k)(he:e≠.normal)(h:Jy P aa b k cs e a w):Jy P aa b (i::k) cs e a w:=by
 cases e with
 |normal=>exact absurd rfl he
 |exit id=>exactλk' ox=>h k' (ox.trans (hi id))
 |ret=>exact h
def tF(n0:Nat)(x:Cx)(ds:cx)(l:List Deferred):Prop:=l=ds.map (λid=>{target:=.collected (x.μ id),args:=#[]})/\ds.Nodup/\∀id∈ds,n0<=id/\x.S[id]? =some .defer/\x.w.heap[x.μ id]? =some (.deferred (some []))
theorem tF.mono {n0:Nat}{y:Cx}(M:bE x y){ds:cx}{l:List Deferred}(h:tF n0 x ds l):tF n0 y ds l:=by
 obtain⟨h1,h2,h3⟩:=h;have hμ:∀id∈ds,y.μ id=x.μ id:=λid hid=>(M.dn id _ (h3 id hid).2.1 rfl).1;refine⟨?_,h2,λid hid=>?_⟩;rw[h1];exact List.map_congr_left λid hid=>by rw[hμ id hid]
 obtain⟨q1,q2,q3⟩:=h3 id hid;obtain⟨r1,⟨b',r2,r3⟩,r4⟩:=M.dn id _ q2 rfl;have:b'=.defer:=by cases b'<;>first|rfl|exact r3.elim
 subst this;exact⟨q1,r2,by rw[hμ id hid,r4 rfl];exact q3⟩
theorem AG(n0:Nat)(x:Cx):tF n0 x [] []:=⟨rfl,List.nodup_nil,ab⟩
theorem IV{b:Frame}{a:Act}{k:List Item}{cs:List Frame}{w:World}{g:Operand}{ps:Array Tmp}{assign body:Code}{f:FuncId}{fs vs:Array Value}{fn:Func}{c:Code}(hk:b.kind≠.early)(hr:b.roundOf=none)(hg:a.eval g=.func (.func f) fs vs)(hf:P.funcs[f]? =some fn)(hb:fn.body=some c)(xP:(fn.name=="runtime.NumGoroutine")=false):
  ∃es,stepG P true (G (b.atR a (.code (.rangeFunc g ps assign body)::k)) cs) w=
   .go (G (Frame.enter P f (fs++#[.func (.yield (w.heap.size+1)) #[] #[]]++vs) .normal) (b.atR {a with defers:={target:=.collected w.heap.size,args:=#[]}::a.defers} (.inRangeFunc (w.heap.size+1)::k)::cs))
    ((w.alloc (.deferred (some []))).alloc (.loop {state:=.ready,pending:=none,fn:=b.fn,tmps:=a.tmps,params:=ps,assign,body,defers:=w.heap.size})) es:=by
 have ox:(b.kind==CallKind.early)=false:=by simpa using hk
 have vD:=Frame.eval_atR b {a with defers:={target:=.collected w.heap.size,args:=#[]}::a.defers} (.inRangeFunc (w.heap.size+1)::k);simp only[Frame.atR,hr]at vD;have ahT:({tmps:=a.tmps,defers:={target:=.collected w.heap.size,args:=#[]}::a.defers}:Act).eval g=.func (.func f) fs vs:=by rw[<-hg];cases g<;>rfl
 have YJ:∀(w2:World),(do let d<-resolve ({tmps:=a.tmps,defers:={target:=.collected w.heap.size,args:=#[]}::a.defers}:Act).eval {callee:=.value g,args:=#[.const (.func (.yield (w.heap.size+1)) #[] #[])],argTypes:=#[]} 0;invoke d.target d.args:Sem Next).run P w2=.ok (.enter f (fs++#[.func (.yield (w.heap.size+1)) #[] #[]]++vs)) w2:=by
  intro w2;have ahM:∀(a:Act)(v:Value),a.eval (.const v)=v:=λ_ _=>rfl;have hn2:¬fn.name="runtime.NumGoroutine":=by simpa using xP
  simp[resolve,ahT,ahM,Deferred.ofValue,invoke,callFunc,hf,hn2,hb]
 have MV:(Instr.enterLoop b.fn a.tmps ps assign body none).run P w=.ok (w.heap.size+1,[{target:=.collected w.heap.size,args:=#[]}])
   ((w.alloc (.deferred (some []))).alloc (.loop {state:=.ready,pending:=none,fn:=b.fn,tmps:=a.tmps,params:=ps,assign,body,defers:=w.heap.size})):=by
  simp[Instr.enterLoop]
 simp only[G,stepG,stepG.exec,Frame.atR,hr,Sem.runT_eq,MV,stepG.apply,vD,if_true,YJ,ox,List.singleton_append,GStep.after,aJ,if_false];exact⟨_,rfl⟩
end Go.Di
