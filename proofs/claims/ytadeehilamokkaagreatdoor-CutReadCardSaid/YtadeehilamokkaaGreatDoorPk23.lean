import Derived.Test.YtadeehilamokkaaGreatDoorPk22
namespace Go.Co
open Go Go.Conc
open Go.ConcN (sumTo upd upd_same upd_ne)
variable {P:Program} {aa:Machine->Trace->Prop}
def Dr(P:Program)(aa:Machine->Trace->Prop)(main:Bool):Pc->So->Goroutine->World->Prop
 |.send c v k=>λγ g w=>AtSend P main c v g w/\∀w1,iL γ w w1->Pr P aa main k γ (Conc.served g undef) w1
 |.recv c ok z k=>λγ g w=>AtRecv P main c ok z g w/\∀x w1,iL γ w w1->Pr P aa main (k x) γ (Conc.served g (recvd ok (x.getD z) x.isSome)) w1
 |.close c k=>λγ g w=>g.status=.running/\mayWake P g=true/\∃g',g'.status=.running/\(∀s r tm,w.heap[c]? =some (.chan 0 #[] false s r tm)->stepG P main g w=.go g' (w.setChan c 0 #[] true s r tm) (closeEvents c))/\∀w1,iL γ w w1->Pr P aa main k γ g' w1
 |.go child k=>λγ g w=>g.status=.running/\∃g' ch,g'.status=.running/\stepG P main g w=.spawn g' ch w/\ch.status=.running/\(∀w1,iL γ.give w w1->Pr P aa false child γ.give ch w1)/\∀w1,iL γ.give w w1->Pr P aa main k γ.give g' w1
 |_=>λ_ _ _=>False
def Pc.live (p:Pc):Prop:=p≠.stop/\p≠.ret/\p≠.bad
theorem Pj{main:Bool}{p:Pc}(hp:p.live){γ:So}{g:Goroutine}{w:World}(h:Pr P aa main p γ g w):∃r,YN P main iL Ji (Dr P aa main p) r γ g w:=by
 cases p with
 |stop=>exact absurd rfl hp.1
 |ret=>exact absurd rfl hp.2.1
 |bad=>exact absurd rfl hp.2.2
 |send c v k=>exact h
 |recv c ok z k=>exact h
 |close c k=>exact h
 |go ch k=>exact h
theorem IK{main:Bool}{p:Pc}{γ:So}{g:Goroutine}{w:World}(h:Dr P aa main p γ g w):g.status=.running:=by
 cases p with
 |send c v k=>exact h.1.1
 |recv c ok z k=>exact h.1.1
 |close c k=>exact h.1
 |go ch k=>exact h.1
 |stop=>exact h.elim
 |ret=>exact h.elim
 |bad=>exact h.elim
theorem zL(γ:So)(w:World)(d:Nat):iL γ w (w.at d):=⟨ai _,λ_ _=>rfl,rfl,rfl,rfl⟩
theorem ic(γ:So)(w:World):iL γ w w:=Wy _ _ _
theorem dH{main:Bool}{p:Pc}{r:Tr}{γ:So}{g:Goroutine}{w:World}(h:YN P main iL Ji (Dr P aa main p) r γ g w):g.status=.running:=by
 cases r with
 |leaf=>exact IK (h w (ic _ _))
 |node f=>exact h.1
inductive Mem (P:Program) (aa:Machine->Trace->Prop) (j d:Nat) (γ:So) (w:World):Pc->Tr->Goroutine->Prop
 |stop (n:Nat) (g:Goroutine):j≠0->QuitsD P n d g->Mem P aa j d γ w .stop (Tr.nat n) g
 |ret (r:Tr) (g:Goroutine):g.status=.running->g.dying=none->iB P aa () g w->Mem P aa j d γ w .ret r g
 |run (p:Pc) (r:Tr) (g:Goroutine):p.live->YN P (j==0) iL Ji (Dr P aa (j==0) p) r γ g w->Mem P aa j d γ w p r.up g
 |send (c:Nat) (v:Value) (k:Pc) (g:Goroutine) (z:Value):(∀w1,iL γ w w1->Pr P aa (j==0) k γ (Conc.served g undef) w1)->Mem P aa j d γ w (.send c v k) .leaf (parked g #[scase c v z] .send)
 |recv (c:Nat) (ok:Bool) (z:Value) (k:Option Value->Pc) (g:Goroutine):(∀w1,iL γ w w1->AtRecv P (j==0) c ok z (core g) w1)->(∀x w1,iL γ w w1->Pr P aa (j==0) (k x) γ (Conc.served g (recvd ok (x.getD z) x.isSome)) w1)->Mem P aa j d γ w (.recv c ok z k) .leaf (parked g #[rcase c z] (.recv ok))
theorem ou{j:Nat}{γ:So}{w:World}{p:Pc}{g:Goroutine}(hs:g.status=.running)(hb:p≠.bad)(h0:p=.stop->j≠0)(h:Pr P aa (j==0) p γ g w):∃r,Mem P aa j 0 γ w p r g:=by by_cases h1:p=.stop;subst h1;obtain⟨n,hn⟩:=h;exact⟨_,.stop n g (h0 rfl) hn⟩;by_cases h2:p=.ret;subst h2;exact⟨.leaf,.ret _ _ hs h.1 h.2⟩;obtain⟨r,hr⟩:=Pj ⟨h1,h2,hb⟩ h;exact⟨_,.run p r g ⟨h1,h2,hb⟩ hr⟩
structure xA (P:Program) (aa:Machine->Trace->Prop) (Cs:Nat->Prop) (N:Net) (γ:Nat->So) (rk:Nat->Tr) (tp:Nat) (gs:Array Goroutine) (w:World) (t:Trace):Prop where
 size:gs.size=N.n
 pos:0<N.n
 mem:∀j g,gs[j]? =some g->Mem P aa j (Deaf t j) (γ j) w (N.pr j) (rk j) g
 ti:TI N γ w.heap.size tp t
 chan:∀c,Cs c->(∃s tm,w.heap[c]? =some (.chan 0 #[] (N.cl c).isSome s s tm))/\∀j,¬(γ j).1 c/\¬(γ j).2 c
 open_:∀j c ok z k g,gs[j]? =some g->g.status=.blocked->N.pr j=.recv c ok z k->N.cl c=none
 apart:∀i j c v k ok z k' g g',gs[i]? =some g->gs[j]? =some g'->g.status=.blocked->g'.status=.blocked->N.pr i=.send c v k->N.pr j=.recv c ok z k'->False
 frames:∀g,gs[0]? =some g->Fr g
theorem Mem.rely {j d:Nat}{γ:So}{w w1:World}{p:Pc}{r:Tr}{g:Goroutine}(hp:p≠.ret)(h:Mem P aa j d γ w p r g)(hr:iL γ w w1):Mem P aa j d γ w1 p r g:=by
 cases h with
 |stop n g h1 h2=>exact .stop n g h1 h2
 |ret r g h1 h2 h3=>exact absurd rfl hp
 |run p r g h1 h2=>exact .run p r g h1 (D1 FM h2 hr)
 |send c v k g z h1=>exact .send c v k g z λw2 h2=>h1 w2 (gL hr h2)
 |recv c ok z k g h1 h2=>exact .recv c ok z k g (λw2 h3=>h1 w2 (gL hr h3)) λx w2 h3=>h2 x w2 (gL hr h3)
theorem Lt{N:Net}{γ:Nat->So}{tp:Nat}{t:Trace}{w w':World}{i j:Nat}(h:TI N γ w.heap.size tp t)(YC:j≠i){O':Nat->Prop}{es:Array Event}(hs:Sto (γ i).1 (γ i).2 w O' w' es):iL (γ j) w w':=by
 obtain⟨-,h2,h3,h4,h5,h6,-⟩:=hs;refine⟨h2,λb hb=>h3 b (h.Ho j b hb) λhO=>?_,h4,h5,h6⟩;have:=h.xH i j b hO;rcases hb with hb|hb
 grind
 grind
theorem Mem.awake {j d:Nat}{γ:So}{w:World}{p:Pc}{r:Tr}{g:Goroutine}(h:Mem P aa j d γ w p r g):g.status=.running\/g.status=.blocked\/g.status=.finished:=by
 cases h with
 |stop n g h1 h2=>exact h2.status.imp id .inr
 |ret r g h1 h2 h3=>exact .inl h1
 |run p r g h1 h2=>exact .inl (dH h2)
 |send c v k g z h1=>exact .inr (.inl rfl)
 |recv c ok z k g h1 h2=>exact .inr (.inl rfl)
theorem Mem.woken {j d:Nat}{γ:So}{w w':World}{p:Pc}{r:Tr}{g:Goroutine}(h:Mem P aa j d γ w p r g)(hc:∀c,(∃v k,p=.send c v k)\/(∃ok z k,p=.recv c ok z k)->g.status=.blocked->∃s tm,w'.heap[c]? =some (.chan 0 #[] false s s tm))(a a':Goroutine):Conc.woken P a a' w' g=g:=by
 cases h with
 |stop n g h1 h2=>exact woken_quitsD h2
 |ret r g h1 h2 h3=>exact woken_run h1
 |run p r g h1 h2=>exact woken_run (dH h2)
 |send c v k g z h1=>obtain⟨s,tm,h⟩:=hc c (.inl ⟨v,k,rfl⟩) rfl;exact woken_send_open a a' h
 |recv c ok z k g h1 h2=>obtain⟨s,tm,h⟩:=hc c (.inr ⟨ok,z,k,rfl⟩) rfl;exact woken_recv_open a a' h
open Classical in
theorem Xg{Cs:Nat->Prop}{N:Net}{γ:Nat->So}{rk:Nat->Tr}{tp:Nat}{gs:Array Goroutine}{w:World}{sl:Option (Nat×Nat)}{t:Trace}(h:xA P aa Cs N γ rk tp gs w t)
  (h0:N.pr 0=.ret) (hd:∀j,0<j->j<N.n->N.pr j=.stop/\N.D 0 j):Ye P aa (crowd gs w sl) t:=by
 have hlt:0<gs.size:=by rw[h.size];exact h.pos
 obtain⟨g,hg⟩:∃g,gs[0]? =some g:=⟨gs[0],bX hlt⟩;have hm:=h.mem 0 g hg;rw[h0]at hm;generalize hrk:rk 0=r at hm;cases hm with
 |run p r g h1 h2=>exact absurd rfl h1.2.1
 |ret r g h1 h2 h3=>
  have hq:∀j,∃n,∀x,0<j->gs[j]? =some x->QuitsD P n (Deaf t j) x:=by
   intro j;by_cases hj:0<j/\∃x,gs[j]? =some x;obtain⟨hj,x,hx⟩:=hj;have nJ:j<N.n:=by rw[<-h.size];exact(aG.1 hx).1
   have hmj:=h.mem j x hx;rw[(hd j hj nJ).1]at hmj;generalize Jm:rk j=r2 at hmj;cases hmj with
   |stop n g h4 h5=>exact⟨n,λy _ hy=>by rw[hx]at hy;cases hy;exact h5⟩
   |run p r g h4 h5=>exact absurd rfl h4.1
   exact⟨0,λx h4 h5=>absurd ⟨h4,x,h5⟩ hj⟩
  have known:∀i a,touchAt t i=some a->a.loc.isMemory=true->Knows t 0 i:=by
   intro i a ha kR;rcases pR i tp with hi|hi;exact h.ti.pre i a 0 hi ha kR (by rw[h0];simp) h.pos;obtain⟨z,hz,-⟩:=touch_of ha;have hgz:t.g? i=some z.g:=by unfold Trace.g?;rw[hz];rfl
   by_cases G8:z.g=0;exact zX (G8▸hgz);have hn:=h.ti.num i z.g hi hgz;obtain⟨h4,h5⟩:=hd z.g U hn;exact h.ti.kn i a z.g 0 hi ha hgz h4 h5 (.inl rfl) h.pos
  have JH:oJ t:=by
   refine⟨h.ti.clean,known,λi g hg hne hc=>?_,h.ti.hears 0 (.inl (by rw[h0];simp))⟩;obtain⟨x,hx,hm,-⟩:=hc;obtain⟨q,z,hz,G8,hb⟩:=known i x hx hm;have hzg:t.g? q=some 0:=by unfold Trace.g?;rw[hz];simp[G8]
   rcases hb with rfl|hb
   grind
   grind
  exact h3 w.drawn (h.frames g hg) h1 h2 gs sl t (λj=>Classical.choose (hq j)) hg ⟨λj x hj hx=>uT (hq j) x hj hx,λj hj=>h.ti.hears j (.inr (by rw[<-h.size];exact hj))⟩ JH
theorem cW{gs:Array Goroutine}{i j:Nat}{g' x:Goroutine}(h:(gs.setIfInBounds i g')[j]? =some x):(j=i/\x=g')\/(j≠i/\gs[j]? =some x):=by grind
theorem GA{gs:Array Goroutine}{i:Nat}{f:Goroutine->Goroutine}{g':Goroutine}(h:∀(j:Nat)(x:Goroutine),j≠i->gs[j]? =some x->f x=x):(gs.map f).setIfInBounds i g'=gs.setIfInBounds i g':=by
 apply Array.ext_getElem?;intro j;by_cases hj:i=j
 grind
 grind
theorem xA.woken {Cs:Nat->Prop}{N:Net}{γ:Nat->So}{rk:Nat->Tr}{tp:Nat}{gs:Array Goroutine}{w w':World}{t:Trace}(h:xA P aa Cs N γ rk tp gs w t)
  (hsend:∀i c v k,i<N.n->N.pr i=.send c v k->N.cl c=none/\Cs c) (hrecv:∀j c ok z k,j<N.n->N.pr j=.recv c ok z k->Cs c) (hc:∀c,Cs c->w'.heap[c]? =w.heap[c]?) (a a':Goroutine):
  ∀(j:Nat)(x:Goroutine),gs[j]? =some x->Conc.woken P a a' w' x=x:=by
 intro j x hx;have nJ:j<N.n:=by rw[<-h.size];exact(aG.1 hx).1
 refine(h.mem j x hx).woken (λc hcc hbl=>?_) a a';rcases hcc with ⟨v,k,hp⟩|⟨ok,z,k,hp⟩;obtain⟨h1,h2⟩:=hsend j c v k nJ hp;obtain⟨⟨s,tm,h3⟩,-⟩:=h.chan c h2;rw[h1]at h3;exact⟨s,tm,(hc c h2).trans h3⟩;have h2:=hrecv j c ok z k nJ hp;have h1:=h.open_ j c ok z k x hx hbl hp;obtain⟨⟨s,tm,h3⟩,-⟩:=h.chan c h2;rw[h1]at h3;exact⟨s,tm,(hc c h2).trans h3⟩
theorem Wi(hP:Plain P){Cs:Nat->Prop}{N:Net}{γ:Nat->So}{rk:Nat->Tr}{tp:Nat}{gs:Array Goroutine}{w:World}{t:Trace}(h:xA P aa Cs N γ rk tp gs w t)
  (hno:∀j,j<N.n->N.pr j≠.ret/\N.pr j≠.bad) (hsend:∀i c v k,i<N.n->N.pr i=.send c v k->N.cl c=none/\Cs c) (hrecv:∀j c ok z k,j<N.n->N.pr j=.recv c ok z k->Cs c)
  {i:Nat} {g g':Goroutine} {d:Nat} {sl:Option (Nat×Nat)} {w':World} {es:Array Event} {γ':So} {r':Tr} (hi:gs[i]? =some g) (hl:(N.pr i).live)
  (hst:stepG P (i==0) g (w.at d)=.go g' w' es) (hS:Ji (γ i) (w.at d) γ' w' es) (hG:YN P (i==0) iL Ji (Dr P aa (i==0) (N.pr i)) r' γ' g' w'):
  runT P (crowd gs (w.at d) sl) i=(.next (crowd (gs.setIfInBounds i g') w' sl),MemOp.ofEvents i g.frame.fn g.frame.place es)/\
  xA P aa Cs N (upd γ i γ') (upd rk i r'.up) tp (gs.setIfInBounds i g') w' (t++MemOp.ofEvents i g.frame.fn g.frame.place es):=by
 obtain⟨hS1,Jf⟩:=hS;have mo:i<N.n:=by rw[<-h.size];exact(aG.1 hi).1
 have hlt:i<gs.size:=(aG.1 hi).1;have hγ:γ'=((γ i).1,γ'.2):=by rw[<-hS1]
 have OD:∀c,Cs c->w'.heap[c]? =w.heap[c]? :=by intro c hc;obtain⟨⟨s,tm,h3⟩,h4⟩:=h.chan c hc;refine Jf.2.2.1 c ?_ (h4 i).2;show c<w.heap.size;exact(aG.1 h3).1
 have hrun:=runT_crowd_go (P:=P) (sl:=sl) hi hst;rw[GA λj x _ hx=>h.woken hsend hrecv OD g g' j x hx]at hrun;refine⟨hrun,?_⟩;have hti:=h.ti.step mo hl.1 (O':=γ'.2) (es:=es) g.frame.fn g.frame.place (sz':=w'.heap.size) Jf.2.1 Jf.1 Jf.2.2.2.2.2.2;rw[<-hγ]at hti;have hrel:∀j,j≠i->iL (γ j) w w':=λj hj=>Lt h.ti hj (w:=w) (O':=γ'.2) (es:=es) ⟨Jf.1,Jf.2.1,Jf.2.2.1,Jf.2.2.2.1,Jf.2.2.2.2.1,Jf.2.2.2.2.2.1,Jf.2.2.2.2.2.2⟩;have q9:=dH hG;have hu:∀op∈MemOp.ofEvents i g.frame.fn g.frame.place es,op.g=i:=λop hop=>by rw[ofEvents_eq]at hop;obtain⟨e,_,rfl⟩:=gf.1 hop;rfl
 refine⟨by simpa using h.size,h.pos,λj x hx=>?_,hti,λc hc=>?_,λj c ok z k x hx hb hp=>?_,λj j' c v k ok z k' x x' hx jL hb qY hp sD=>?_,λx hx=>?_⟩;rcases cW hx with ⟨rfl,rfl⟩|⟨hj,jL⟩;rw[upd_same,upd_same];exact .run _ r' x hl hG;rw[upd_ne _ _ hj,upd_ne _ _ hj,Deaf_other t (Ne.symm hj) _ hu];have nJ:j<N.n:=by rw[<-h.size];exact(aG.1 jL).1
 exact(h.mem j x jL).rely (hno j nJ).1 (hrel j hj);obtain⟨⟨s,tm,h3⟩,h4⟩:=h.chan c hc;refine⟨⟨s,tm,(OD c hc).trans h3⟩,λj=>?_⟩;by_cases hj:j=i;subst hj;rw[upd_same];refine⟨by rw[hS1];exact(h4 j).1,λhO=>?_⟩;rcases(Jf.1 c).1 hO with h5|⟨h5,-⟩
 grind
 have:c<w.heap.size:=(aG.1 h3).1;have h5':w.heap.size<=c:=h5;omega;rw[upd_ne _ _ hj];exact h4 j;rcases cW hx with ⟨rfl,rfl⟩|⟨hj,jL⟩
 grind
 exact h.open_ j c ok z k x jL hb hp;rcases cW hx with ⟨rfl,rfl⟩|⟨hj,L0⟩
 grind
 rcases cW jL with ⟨rfl,rfl⟩|⟨Jd,G9⟩
 grind
 exact h.apart j j' c v k ok z k' x x' L0 G9 hb qY hp sD;rcases cW hx with ⟨FI,rfl⟩|⟨hj,jL⟩;subst FI;have jU:=qG (b:=False) hP true g (h.frames g hi) (w.at d);rw[show stepG P true g (w.at d)=_ from hst]at jU;exact jU.2.1;exact h.frames x jL
end Go.Co
namespace Go.Co
open Go Go.Conc
open Go.ConcN (sumTo upd upd_same upd_ne)
variable {P:Program} {aa:Machine->Trace->Prop} {Cs:Nat->Prop} {N:Net} {γ:Nat->So} {rk:Nat->Tr} {tp:Nat} {gs:Array Goroutine} {w:World} {t:Trace}
theorem ME(h:xA P aa Cs N γ rk tp gs w t)(hno:∀j,j<N.n->N.pr j≠.ret/\N.pr j≠.bad)(d:Nat):xA P aa Cs N γ rk tp gs (w.at d) t:=
 ⟨h.size,h.pos,λj x hx=>(h.mem j x hx).rely (hno j (by rw[<-h.size];exact(aG.1 hx).1)).1 (zL _ _ _),h.ti,h.chan,h.open_,h.apart,h.frames⟩
theorem Wl(h:xA P aa Cs N γ rk tp gs w t)
  {i n:Nat} {g g':Goroutine} {sl:Option (Nat×Nat)} {es:Array Event} (hi:gs[i]? =some g) (hp:N.pr i=.stop) (FI:i≠0)
  (hm:∀e∈es,Event.mute e=true) (hst:∀w,stepG P false g w=.go g' w es) (hq:QuitsD P n (deafBehind (Deaf t i) es) g')
  (hsend:∀i c v k,i<N.n->N.pr i=.send c v k->N.cl c=none/\Cs c) (hrecv:∀j c ok z k,j<N.n->N.pr j=.recv c ok z k->Cs c):
  runT P (crowd gs w sl) i=(.next (crowd (gs.setIfInBounds i g') w sl),MemOp.ofEvents i g.frame.fn g.frame.place es)/\
  xA P aa Cs N γ (upd rk i (Tr.nat n)) tp (gs.setIfInBounds i g') w (t++MemOp.ofEvents i g.frame.fn g.frame.place es):=by
 have hlt:i<gs.size:=(aG.1 hi).1;have mo:i<N.n:=by rw[<-h.size];exact hlt
 have hib:(i==0)=false:=by simpa using FI
 have hrun:=runT_crowd_go (P:=P) (sl:=sl) hi (by rw[hib];exact hst w);rw[GA λj x _ hx=>h.woken hsend hrecv (λ_ _=>rfl) g g' j x hx]at hrun;refine⟨hrun,?_⟩;have hu:∀op∈MemOp.ofEvents i g.frame.fn g.frame.place es,op.g=i/\op.act.touch?=none:=λop hop=>by rw[ofEvents_eq]at hop;obtain⟨e,he,rfl⟩:=gf.1 hop;exact⟨rfl,touch_mute (hm e he)⟩
 have hti:TI N γ w.heap.size tp (t++MemOp.ofEvents i g.frame.fn g.frame.place es):=by
  refine h.ti.move (λop hop=>(hu op hop).2) (λj hj=>?_) (ai _) (λop hop=>by rw[(hu op hop).1];exact mo) (λj hj nJ=>⟨j,nJ,hj,λx hx=>hx.app _,λb hb=>.inl hb⟩) (λ_ _ hb=>hb) ?_ ?_ h.ti.xH h.ti.Ho h.ti.Oq h.ti.dst;have iM:j≠i:=by
   rcases hj with h1|h1
   grind
   omega
  rw[Deaf_other t (Ne.symm iM) _ λop hop=>(hu op hop).1];exact h.ti.hears j hj;intro x y hD hy hx Jb q a Mb ha hg;exact(h.ti.kn q a y x Mb ha hg hy hD hx Jb).app _;intro c E hE;obtain⟨q,z,Mb,hz,hh,hk⟩:=h.ti.kc c E hE;exact⟨q,z,by rw[getElem?_append_old (lt_size_of_getElem? Mb)];exact Mb,hz,(heard_old (lt_size_of_getElem? Mb)).2 hh,λx a y hx ha hgx TP=>(hk x a y hx ha hgx TP).app _⟩
 refine⟨by simpa using h.size,h.pos,λj x hx=>?_,hti,h.chan,λj c ok z k x hx hb Jn=>?_,λj j' c v k ok z k' x x' hx jL hb qY Jn Mt=>?_,λx hx=>?_⟩;rcases cW hx with ⟨rfl,rfl⟩|⟨hj,jL⟩;rw[hp,upd_same,Deaf_own];exact .stop n x FI hq;rw[upd_ne _ _ hj,Deaf_other t (Ne.symm hj) _ λop hop=>(hu op hop).1];exact h.mem j x jL;rcases cW hx with ⟨rfl,rfl⟩|⟨hj,jL⟩
 grind
 exact h.open_ j c ok z k x jL hb Jn;rcases cW hx with ⟨rfl,rfl⟩|⟨hj,L0⟩
 grind
 rcases cW jL with ⟨rfl,rfl⟩|⟨Jd,G9⟩
 grind
 exact h.apart j j' c v k ok z k' x x' L0 G9 hb qY Jn Mt;rcases cW hx with ⟨aiL,rfl⟩|⟨hj,jL⟩
 grind
 exact h.frames x jL
theorem Kg(h:xA P aa Cs N γ rk tp gs w t){i:Nat}{g x0:Goroutine}(hi:gs[i]? =some g)(hf:x0.frame=g.frame)(hc:x0.callers=g.callers)(hd:x0.dying=g.dying)
  (hm:Mem P aa i (Deaf t i) (γ i) w (N.pr i) .leaf x0) (hop:∀c ok z k,N.pr i=.recv c ok z k->N.cl c=none)
  (YJ:∀j x c v k ok z k',j≠i->gs[j]? =some x->x.status=.blocked->(N.pr i=.send c v k->N.pr j=.recv c ok z k'->False)/\(N.pr j=.send c v k->N.pr i=.recv c ok z k'->False)):
  xA P aa Cs N γ (upd rk i .leaf) tp (gs.setIfInBounds i x0) w t:=by
 refine⟨by simpa using h.size,h.pos,λj x hx=>?_,h.ti,h.chan,λj c ok z k x hx hb Jn=>?_,λj j' c v k ok z k' x x' hx jL hb qY Jn Mt=>?_,λx hx=>?_⟩;rcases cW hx with ⟨rfl,rfl⟩|⟨hj,jL⟩;rw[upd_same];exact hm
 rw[upd_ne _ _ hj];exact h.mem j x jL;rcases cW hx with ⟨rfl,rfl⟩|⟨hj,jL⟩
 grind
 exact h.open_ j c ok z k x jL hb Jn;rcases cW hx with ⟨rfl,rfl⟩|⟨hj,L0⟩
 grind
 rcases cW jL with ⟨rfl,rfl⟩|⟨Jd,G9⟩
 grind
 exact h.apart j j' c v k ok z k' x x' L0 G9 hb qY Jn Mt;rcases cW hx with ⟨rfl,rfl⟩|⟨hj,jL⟩;have:=h.frames g hi;unfold Fr at*;rw[hf,hc,hd];exact this;exact h.frames x jL
end Go.Co
namespace Go.Co
open Go Go.Conc
open Go.ConcN (sumTo upd upd_same upd_ne)
variable {P:Program} {aa:Machine->Trace->Prop} {Cs:Nat->Prop} {N:Net} {γ:Nat->So} {rk:Nat->Tr} {tp:Nat} {gs:Array Goroutine} {w:World} {t:Trace}
theorem HJ{N:Net}(h:CU Cs N):N.pr 0≠.stop/\∀j,j<N.n->N.pr j≠.bad:=by
 cases h with
 |done _ h1 h2=>grind
 |step _ h1 h2=>exact⟨h2,λj hj=>(h1 j hj).2⟩
theorem Bt{γ:So}{c:Nat}(hc:¬γ.1 c/\¬γ.2 c)(w:World)(d cap:Nat)(buf:Array Value)(cl:Bool)(s r:Nat)(tm:Bool):iL γ w ((w.at d).setChan c cap buf cl s r tm):=by
 refine⟨by simp[World.setChan,World.at],λb hb=>?_,rfl,rfl,rfl⟩;have:c≠b:=by grind
 simp only[World.setChan,World.at];rw[fF this]
theorem Ke(h:xA P aa Cs N γ rk tp gs w t)(hno:∀j,j<N.n->N.pr j≠.ret/\N.pr j≠.bad){i j c s:Nat}{v:Value}{k:Pc}{ok:Bool}{z:Value}{kr:Option Value->Pc}(YC:i≠j)(hi:i<N.n)(hj:j<N.n)(nK:Cs c)
  (hs:N.pr i=.send c v k) (hr:N.pr j=.recv c ok z kr) (vL:N.cl c=none) {gi gj:Goroutine} {gs':Array Goroutine} {d:Nat} {tm:Bool} {f f':FuncId} {p p':String}
  (hsz:gs'.size=gs.size) (hgi:gs'[i]? =some gi) (YD:gs'[j]? =some gj) (hgo:∀y,y≠i->y≠j->gs'[y]? =gs[y]?)
  (hsi:gi.status=.running) (hsj:gj.status=.running) (FF:∀w1,iL (γ i) w w1->Pr P aa (i==0) k (γ i) gi w1) (Jn:∀w1,iL (γ j) w w1->Pr P aa (j==0) (kr (some v)) (γ j) gj w1)
  (hfr:∀x,gs'[0]? =some x->Fr x) (CY:CU Cs (N.meet i j k (kr (some v)))):
  ∃FD,xA P aa Cs (N.meet i j k (kr (some v))) γ FD tp gs' ((w.at d).setChan c 0 #[] false (s+1) (s+1) tm) (t++eX i j c s f f' p p'):=by
 have OD:=h.chan c nK;obtain⟨Bc,o9⟩:=HJ CY;have sP:∀y,y≠i->y≠j->(N.meet i j k (kr (some v))).pr y=N.pr y:=λy h1 h2=>by show upd (upd N.pr i k) j _ y=_;rw[upd_ne _ _ h2,upd_ne _ _ h1]
 have Mt:(N.meet i j k (kr (some v))).pr j=kr (some v):=upd_same _ _ _;have acu:(N.meet i j k (kr (some v))).pr i=k:=by show upd (upd N.pr i k) j _ i=_;rw[upd_ne _ _ YC,upd_same]
 have hrel:∀y,iL (γ y) w ((w.at d).setChan c 0 #[] false (s+1) (s+1) tm):=λy=>Bt (OD.2 y) _ _ _ _ _ _ _ _;obtain⟨ri,hmi⟩:=ou hsi (by rw[<-acu];exact o9 i hi) (λe h0=>Bc (by rw[<-h0,acu,e])) (FF _ (hrel i));obtain⟨rj,hmj⟩:=ou hsj (by rw[<-Mt];exact o9 j hj) (λe h0=>Bc (by rw[<-h0,Mt,e])) (Jn _ (hrel j));have Ce:N.pr i≠.stop:=by rw[hs];simp
 have YA:N.pr j≠.stop:=by rw[hr];simp
 have Ba:((w.at d).setChan c 0 #[] false (s+1) (s+1) tm).heap.size=w.heap.size:=by simp[World.setChan,World.at]
 refine⟨upd (upd rk i ri) j rj,hsz.trans h.size,h.pos,λy x hx=>?_,?_,λc' hc'=>?_,λy c' ok' z' k' x hx hb hp=>?_,λy y' c' v' k' ok' z' Yt x x' hx jL hb qY hp sD=>?_,hfr⟩;by_cases h2:y=j;subst h2;rw[YD]at hx;cases hx;rw[upd_same,Mt,dh (jF _ _ _ _ _ _ _ _),h.ti.hears y (.inl YA)];exact hmj;by_cases h1:y=i;subst h1;rw[hgi]at hx;cases hx;rw[upd_ne _ _ h2,upd_same,acu,dh (jF _ _ _ _ _ _ _ _),h.ti.hears y (.inl Ce)];exact hmi;rw[hgo y h1 h2]at hx;rw[upd_ne _ _ h2,upd_ne _ _ h1,sP y h1 h2,dh (jF _ _ _ _ _ _ _ _)];have L9:y<N.n:=by rw[<-h.size];exact(aG.1 hx).1
 exact(h.mem y x hx).rely (hno y L9).1 (hrel y);rw[Ba];exact h.ti.meet hi hj YC hs hr f f' p p';obtain⟨⟨s0,Ym,h3⟩,h4⟩:=h.chan c' hc';refine⟨?_,h4⟩;by_cases hcc:c'=c;subst hcc;have hlt:c'<w.heap.size:=(aG.1 h3).1;refine⟨s+1,tm,?_⟩;show _=some (Obj.chan 0 #[] (N.cl c').isSome (s+1) (s+1) tm);rw[vL];simp[World.setChan,World.at,hlt];refine⟨s0,Ym,?_⟩;show((w.at d).setChan c 0 #[] false (s+1) (s+1) tm).heap[c']? =some (Obj.chan 0 #[] (N.cl c').isSome s0 s0 Ym);simp only[World.setChan,World.at];rw[fF (Ne.symm hcc)];exact h3;by_cases h2:y=j
 grind
 by_cases h1:y=i
 grind
 rw[hgo y h1 h2]at hx;rw[sP y h1 h2]at hp;exact h.open_ y c' ok' z' k' x hx hb hp;have live:∀y x,gs'[y]? =some x->x.status=.blocked->y≠i/\y≠j:=λy x hx hb=>by
  refine⟨?_,?_⟩
  grind
  grind
 obtain⟨a1,a2⟩:=live y x hx hb;obtain⟨b1,b2⟩:=live y' x' jL qY;rw[sP y a1 a2]at hp;rw[sP y' b1 b2]at sD;rw[hgo y a1 a2]at hx;rw[hgo y' b1 b2]at jL;exact h.apart y y' c' v' k' ok' z' Yt x x' hx jL hb qY hp sD
theorem zb(h:xA P aa Cs N γ rk tp gs w t){i c j k:Nat}(hp:(j,k)∈partners (gs.setIfInBounds i ph) c false):
  k=0/\j≠i/\j<N.n/\∃g0 ok z kr,gs[j]? =some (parked g0 #[rcase c z] (.recv ok))/\N.pr j=.recv c ok z kr/\∀x w1,iL (γ j) w w1->Pr P aa (j==0) (kr x) (γ j) (Conc.served g0 (recvd ok (x.getD z) x.isSome)) w1:=by
 obtain⟨g,hg,hk⟩:=mem_partners.1 hp;rcases cW hg with ⟨rfl,rfl⟩|⟨iM,q9⟩;rw[offersAt_ph]at hk;cases hk
 have nJ:j<N.n:=by rw[<-h.size];exact(aG.1 q9).1
 have hm:=h.mem j g q9;generalize Jn:N.pr j=pj at hm;generalize rk j=rj at hm;cases hm with
 |stop n g h1 h2=>rw[offersAt_of_not_blocked (by rcases h2.status with e|e<;>simp[e])]at hk;cases hk
 |ret r g h1 h2 h3=>rw[offersAt_of_not_blocked (by simp[h1])]at hk;cases hk
 |run p r g h1 h2=>rw[offersAt_of_not_blocked (by simp[dH h2])]at hk;cases hk
 |send c' v k' g z h1=>rw[offersAt_parked_send']at hk;cases hk
 |recv c' ok z k' g h1 h2=>
  rw[offersAt_parked_recv]at hk;split at hk
  grind
  cases hk
theorem sw(h:xA P aa Cs N γ rk tp gs w t){i c j k:Nat}(hp:(j,k)∈partners (gs.setIfInBounds i ph) c true):
  k=0/\j≠i/\j<N.n/\∃g0 v z kr,gs[j]? =some (parked g0 #[scase c v z] .send)/\N.pr j=.send c v kr/\∀w1,iL (γ j) w w1->Pr P aa (j==0) kr (γ j) (Conc.served g0 undef) w1:=by
 obtain⟨g,hg,hk⟩:=mem_partners.1 hp;rcases cW hg with ⟨rfl,rfl⟩|⟨iM,q9⟩;rw[offersAt_ph]at hk;cases hk
 have nJ:j<N.n:=by rw[<-h.size];exact(aG.1 q9).1
 have hm:=h.mem j g q9;generalize Jn:N.pr j=pj at hm;generalize rk j=rj at hm;cases hm with
 |stop n g h1 h2=>rw[offersAt_of_not_blocked (by rcases h2.status with e|e<;>simp[e])]at hk;cases hk
 |ret r g h1 h2 h3=>rw[offersAt_of_not_blocked (by simp[h1])]at hk;cases hk
 |run p r g h1 h2=>rw[offersAt_of_not_blocked (by simp[dH h2])]at hk;cases hk
 |recv c' ok z k' g h1 h2=>rw[offersAt_parked_recv']at hk;cases hk
 |send c' v k' g z h1=>
  rw[offersAt_parked_send]at hk;split at hk
  grind
  cases hk
end Go.Co
namespace Go.Co
open Go Go.Conc
open Go.ConcN (sumTo upd upd_same upd_ne)
variable {P:Program} {aa:Machine->Trace->Prop} {Cs:Nat->Prop} {N:Net} {γ:Nat->So} {rk:Nat->Tr} {tp:Nat} {gs:Array Goroutine} {w:World} {t:Trace}
theorem ofEvents_none(g:Nat)(fn:FuncId)(pos:String):MemOp.ofEvents g fn pos #[]=#[]:=rfl
theorem vU{g g0:Goroutine}{cs iq:Array CommCase}{sh sh':CommShape}(h:parked g cs sh=parked g0 iq sh')(v:Value):Conc.served g v=Conc.served g0 v:=by
 have:Conc.served (parked g cs sh) v=Conc.served (parked g0 iq sh') v:=by rw[h]
 exact this
theorem zf{g g0:Goroutine}{cs iq:Array CommCase}{sh sh':CommShape}(h:parked g cs sh=parked g0 iq sh'):g.frame=g0.frame/\g.callers=g0.callers/\g.dying=g0.dying/\cs=iq/\sh=sh':=by have:=congrArg (λ(x:Goroutine)=>(x.frame,x.callers,x.dying,x.offers)) h;simp[parked]at this;exact⟨this.1,this.2.1,this.2.2.1,this.2.2.2.1,this.2.2.2.2⟩
theorem qU{g:Goroutine}(h:Fr g)(v:Value):Fr (Conc.served g v):=dX h v
theorem Wn(h:xA P aa Cs N γ rk tp gs w t)(hno:∀j,j<N.n->N.pr j≠.ret/\N.pr j≠.bad){i c:Nat}{v:Value}{k:Pc}{g:Goroutine}{d:Nat}{sl:Option (Nat×Nat)}(hi:gs[i]? =some g)(hs:N.pr i=.send c v k)(vL:N.cl c=none)(nK:Cs c)
  (hat:AtSend P (i==0) c v g (w.at d)) (hk:∀w1,iL (γ i) (w.at d) w1->Pr P aa (i==0) k (γ i) (Conc.served g undef) w1)
  (CY:∀j ok z kr,j<N.n->N.pr j=.recv c ok z kr->CU Cs (N.meet i j k (kr (some v)))):
  (∃gs',runT P (crowd gs (w.at d) sl) i=(.next (crowd gs' (w.at d) sl),#[])/\xA P aa Cs N γ (upd rk i .leaf) tp gs' w t)\/
  (∃N' gs' w' ops FD,runT P (crowd gs (w.at d) sl) i=(.next (crowd gs' w' sl),ops)/\CU Cs N'/\(∃j ok z kr,j<N.n/\N.pr j=.recv c ok z kr/\N'=N.meet i j k (kr (some v)))/\xA P aa Cs N' γ FD tp gs' w' (t++ops)):=by
 obtain⟨hr,z,hst⟩:=hat;have mo:i<N.n:=by rw[<-h.size];exact(aG.1 hi).1
 have hlt:i<gs.size:=(aG.1 hi).1;obtain⟨⟨s,tm,hc⟩,-⟩:=h.chan c nK;rw[vL]at hc;have hc':(w.at d).heap[c]? =some (.chan 0 #[] false s s tm):=hc;by_cases hne:partners (gs.setIfInBounds i ph) c false=[];left;refine⟨gs.setIfInBounds i (parked (core g) #[scase c v z] .send),?_,?_⟩;have:=crowd_waits (P:=P) (sl:=sl) hi hst (λcc hcc=>by simp only[eA,bQ]at hcc;subst hcc;exact ways_send_none hc' ab hne);rw[this,ofEvents_none];refine Kg h hi rfl rfl rfl ?_ (λc' ok' z' k' e=>by rw[hs]at e;cases e) λj x c' v' k' ok' z' Yt hj hx hb=>⟨λe1 e2=>?_,λe1 e2=>by rw[hs]at e2;cases e2⟩;rw[hs];exact .send c v k (core g) z λw1 h1=>hk w1 h1;rw[hs]at e1;cases e1;have hm:=h.mem j x hx;rw[e2]at hm;generalize rk j=rj at hm;cases hm with
 |run p r g h1 h2=>rw[dH h2]at hb;cases hb
 |recv _ _ _ _ g h1 h2=>have:(j,0)∈partners (gs.setIfInBounds i ph) c false:=mem_partners.2 ⟨_,stand_get hj hx,by rw[offersAt_parked_recv];simp⟩;rw[hne]at this;cases this
 right;obtain⟨j,gj,zj,shj,d2,iM,YD,hrun⟩:=crowd_send_meets_some (P:=P) (sl:=sl) hi hst hc' hne λj k hp=>by obtain⟨h1,h2,-,g0,ok,z,kr,h3,-⟩:=zb h hp;exact⟨h1,h2,g0,z,_,h3⟩
 have hp:(j,0)∈partners (gs.setIfInBounds i ph) c false:=mem_partners.2 ⟨_,stand_get iM YD,by rw[offersAt_parked_recv];simp⟩;obtain⟨-,-,nJ,g0,ok,z0,kr,h3,h4,h5⟩:=zb h hp;rw[YD]at h3;have h3:=bM h3;obtain⟨TJ,YE,hf3,-,hsh⟩:=zf h3;have hzz:Conc.served gj (recvd ok v true)=Conc.served g0 (recvd ok v true):=vU h3 _;subst hsh;rw[finishComm_recv,finishComm_send,hzz,ofEvents_none]at hrun;have hw:=CY j ok z0 kr nJ h4;obtain⟨FD,qh⟩:=Ke (gs':=(gs.setIfInBounds j (Conc.served g0 (recvd ok v true))).setIfInBounds i (Conc.served (core g) undef)) (d:=d2) (tm:=tm) (s:=s) (f:=(core g).frame.fn) (p:=(core g).frame.place) (f':=gj.frame.fn) (p':=gj.frame.place) h hno (Ne.symm iM) mo nJ nK hs h4 vL ab (gi:=Conc.served (core g) undef) (gj:=Conc.served g0 (recvd ok v true))
  (by simp[hlt]) (by
   rw[fF (Ne.symm iM)];have:j<gs.size:=by rw[h.size];exact nJ
   simp[this]) (λy h1 h2=>by rw[fF (Ne.symm h1),fF (Ne.symm h2)]) rfl rfl (λw1 h1=>hk w1 h1) (λw1 h1=>h5 (some v) w1 h1) (λx hx=>by
   rcases cW hx with ⟨h1,rfl⟩|⟨h1,jL⟩;subst h1;exact qU (h.frames g hi) undef;rcases cW jL with ⟨h2,rfl⟩|⟨h2,G9⟩;subst h2;rw[<-hzz];exact qU (h.frames _ YD) _;exact h.frames x G9) hw
 refine⟨_,_,_,_,FD,hrun,hw,⟨j,ok,z0,kr,nJ,h4,rfl⟩,?_⟩;rw[Array.empty_append];exact qh
end Go.Co
namespace Go.Co
open Go Go.Conc
open Go.ConcN (sumTo upd upd_same upd_ne)
variable {P:Program} {aa:Machine->Trace->Prop} {Cs:Nat->Prop} {N:Net} {γ:Nat->So} {rk:Nat->Tr} {tp:Nat} {gs:Array Goroutine} {w:World} {t:Trace}
theorem Wo(h:xA P aa Cs N γ rk tp gs w t)(hno:∀j,j<N.n->N.pr j≠.ret/\N.pr j≠.bad){i c:Nat}{ok:Bool}{z:Value}{kr:Option Value->Pc}{g:Goroutine}{d:Nat}{sl:Option (Nat×Nat)}(hi:gs[i]? =some g)(hs:N.pr i=.recv c ok z kr)(vL:N.cl c=none)(nK:Cs c)
  (hat:AtRecv P (i==0) c ok z g (w.at d)) (ahR:∀w1,iL (γ i) w w1->AtRecv P (i==0) c ok z g w1) (hk:∀x w1,iL (γ i) w w1->Pr P aa (i==0) (kr x) (γ i) (Conc.served g (recvd ok (x.getD z) x.isSome)) w1)
  (CY:∀j v k,j<N.n->N.pr j=.send c v k->CU Cs (N.meet j i k (kr (some v)))):
  (∃gs',runT P (crowd gs (w.at d) sl) i=(.next (crowd gs' (w.at d) sl),#[])/\xA P aa Cs N γ (upd rk i .leaf) tp gs' w t)\/
  (∃N' gs' w' ops FD,runT P (crowd gs (w.at d) sl) i=(.next (crowd gs' w' sl),ops)/\CU Cs N'/\(∃j v k,j<N.n/\N.pr j=.send c v k/\N'=N.meet j i k (kr (some v)))/\xA P aa Cs N' γ FD tp gs' w' (t++ops)):=by
 obtain⟨hr,hst⟩:=hat;have mo:i<N.n:=by rw[<-h.size];exact(aG.1 hi).1
 have hlt:i<gs.size:=(aG.1 hi).1;obtain⟨⟨s,tm,hc⟩,-⟩:=h.chan c nK;rw[vL]at hc;have hc':(w.at d).heap[c]? =some (.chan 0 #[] false s s tm):=hc;by_cases hne:partners (gs.setIfInBounds i ph) c true=[];left;refine⟨gs.setIfInBounds i (parked (core g) #[rcase c z] (.recv ok)),?_,?_⟩;have:=crowd_waits (P:=P) (sl:=sl) hi hst (λcc hcc=>by simp only[eA,bQ]at hcc;subst hcc;exact ways_recv_none hc' hne);rw[this,ofEvents_none];refine Kg h hi rfl rfl rfl ?_ (λc' ok' z' k' e=>by rw[hs]at e;cases e;exact vL) λj x c' v' k' ok' z' Yt hj hx hb=>⟨λe1 e2=>(by rw[hs]at e1;cases e1),λe1 e2=>?_⟩;rw[hs];exact .recv c ok z kr (core g) (λw1 h1=>⟨rfl,by have e:stepG P (i==0) (core g) w1=stepG P (i==0) g w1:=stepG_same rfl rfl rfl w1;show stepG P (i==0) (core g) w1=_;rw[e];exact(ahR w1 h1).2⟩) λx w1 h1=>hk x w1 h1;rw[hs]at e2;cases e2;have hm:=h.mem j x hx;rw[e1]at hm;generalize rk j=rj at hm;cases hm with
 |run p r g h1 h2=>rw[dH h2]at hb;cases hb
 |send _ _ _ g _ h1=>have:(j,0)∈partners (gs.setIfInBounds i ph) c true:=mem_partners.2 ⟨_,stand_get hj hx,by rw[offersAt_parked_send];simp⟩;rw[hne]at this;cases this
 right;obtain⟨j,gj,vj,zj,shj,d2,iM,YD,hrun⟩:=crowd_recv_meets_some (P:=P) (sl:=sl) hi hst hc' hne λj k hp=>by obtain⟨h1,h2,-,g0,v,z,kr,h3,-⟩:=sw h hp;exact⟨h1,h2,g0,v,z,_,h3⟩
 have hp:(j,0)∈partners (gs.setIfInBounds i ph) c true:=mem_partners.2 ⟨_,stand_get iM YD,by rw[offersAt_parked_send];simp⟩;obtain⟨-,-,nJ,g0,v,z0,k,h3,h4,h5⟩:=sw h hp;rw[YD]at h3;have h3:=bM h3;obtain⟨TJ,YE,hf3,hcc,hsh⟩:=zf h3;have hv:vj=v:=by simp[scase]at hcc;exact hcc.1
 subst hv;have hzz:Conc.served gj undef=Conc.served g0 undef:=vU h3 _;subst hsh;rw[finishComm_send,finishComm_recv,hzz,ofEvents_none]at hrun;have hw:=CY j vj k nJ h4;obtain⟨FD,qh⟩:=Ke (gs':=(gs.setIfInBounds j (Conc.served g0 undef)).setIfInBounds i (Conc.served (core g) (recvd ok vj true))) (d:=d2) (tm:=tm) (s:=s) (f':=(core g).frame.fn) (p':=(core g).frame.place) (f:=gj.frame.fn) (p:=gj.frame.place) h hno iM nJ mo nK h4 hs vL ab (gj:=Conc.served (core g) (recvd ok vj true)) (gi:=Conc.served g0 undef)
  (by
   rw[fF (Ne.symm iM)];have:j<gs.size:=by rw[h.size];exact nJ
   simp[this]) (by simp[hlt]) (λy h1 h2=>by rw[fF (Ne.symm h2),fF (Ne.symm h1)]) rfl rfl (λw1 h1=>h5 w1 h1) (λw1 h1=>hk (some vj) w1 h1) (λx hx=>by
   rcases cW hx with ⟨h1,rfl⟩|⟨h1,jL⟩;subst h1;exact qU (h.frames g hi) _;rcases cW jL with ⟨h2,rfl⟩|⟨h2,G9⟩;subst h2;rw[<-hzz];exact qU (h.frames _ YD) _;exact h.frames x G9) hw
 refine⟨_,_,_,_,FD,hrun,hw,⟨j,vj,k,nJ,h4,rfl⟩,?_⟩;rw[Array.empty_append];exact qh
end Go.Co
namespace Go.Co
open Go Go.Conc
open Go.ConcN (sumTo upd upd_same upd_ne)
variable {P:Program} {aa:Machine->Trace->Prop} {Cs:Nat->Prop} {N:Net} {γ:Nat->So} {rk:Nat->Tr} {tp:Nat} {gs:Array Goroutine} {w:World} {t:Trace}
theorem Wp(h:xA P aa Cs N γ rk tp gs w t)(hsend:∀i c v k,i<N.n->N.pr i=.send c v k->N.cl c=none/\Cs c){i c:Nat}{ok:Bool}{z:Value}{kr:Option Value->Pc}{E:Nat->Prop}{g:Goroutine}{d:Nat}{sl:Option (Nat×Nat)}(hi:gs[i]? =some g)(hs:N.pr i=.recv c ok z kr)(o6:N.cl c=some E)(nK:Cs c)
  (hat:AtRecv P (i==0) c ok z g (w.at d)) (hk:∀x w1,iL (γ i) w w1->Pr P aa (i==0) (kr x) (γ i) (Conc.served g (recvd ok (x.getD z) x.isSome)) w1)
  (CY:CU Cs (N.hear i (kr none) E)):
  ∃gs' ops FD,runT P (crowd gs (w.at d) sl) i=(.next (crowd gs' (w.at d) sl),ops)/\xA P aa Cs (N.hear i (kr none) E) γ FD tp gs' w (t++ops):=by
 obtain⟨hr,hst⟩:=hat;have mo:i<N.n:=by rw[<-h.size];exact(aG.1 hi).1
 have hlt:i<gs.size:=(aG.1 hi).1;obtain⟨⟨s,tm,hc⟩,-⟩:=h.chan c nK;rw[o6]at hc;have hc':(w.at d).heap[c]? =some (.chan 0 #[] true s s tm):=hc;have Yx:partners (gs.setIfInBounds i ph) c true=[]:=by
  cases hp:partners (gs.setIfInBounds i ph) c true with
  |nil=>rfl
  |cons x l=>obtain⟨j,k⟩:=x;obtain⟨-,-,nJ,g0,v,z0,k',-,h4,-⟩:=sw h (i:=i) (c:=c) (j:=j) (k:=k) (by rw[hp];simp);rw[(hsend j c v k' nJ h4).1]at o6;cases o6
 have hrun:=crowd_recv_closed (P:=P) (sl:=sl) hi hst hc' Yx;rw[finishComm_recv,ofEvents_none,Array.empty_append]at hrun;obtain⟨Bc,o9⟩:=HJ CY;have sP:∀y,y≠i->(N.hear i (kr none) E).pr y=N.pr y:=λy h1=>upd_ne _ _ h1;have FF:(N.hear i (kr none) E).pr i=kr none:=upd_same _ _ _;have Ce:N.pr i≠.stop:=by rw[hs];simp
 obtain⟨ri,hmi⟩:=ou (P:=P) (aa:=aa) (j:=i) (γ:=γ i) (w:=w) (p:=kr none) (g:=Conc.served (core g) (recvd ok z false)) rfl (by rw[<-FF];exact o9 i mo) (λe h0=>Bc (by rw[<-h0,FF,e])) (hk none w (ic _ _));have BN:mJ #[({g:=i,fn:=(core g).frame.fn,pos:=(core g).frame.place,act:=.recvClosed c}:MemOp)]:=by intro op hop m;simp only[eA,bQ]at hop;subst hop;simp
 refine⟨_,_,upd rk i ri,hrun,(by rw[uV];exact h.size),h.pos,λy x hx=>?_,h.ti.hear mo hs o6 _ _,h.chan,λy c' ok' z' k' x hx hb hp=>?_,λy y' c' v' k' ok' z' Yt x x' hx jL hb qY hp sD=>?_,λx hx=>?_⟩;rcases cW hx with ⟨rfl,rfl⟩|⟨hy,jL⟩;rw[upd_same,FF,dh BN,h.ti.hears y (.inl Ce)];exact hmi;rw[upd_ne _ _ hy,sP y hy,dh BN];exact h.mem y x jL;rcases cW hx with ⟨rfl,rfl⟩|⟨hy,jL⟩;cases hb;rw[sP y hy]at hp;exact h.open_ y c' ok' z' k' x jL hb hp;rcases cW hx with ⟨rfl,rfl⟩|⟨hy,L0⟩;cases hb;rcases cW jL with ⟨rfl,rfl⟩|⟨hy',G9⟩;cases qY;rw[sP y hy]at hp;rw[sP y' hy']at sD;exact h.apart y y' c' v' k' ok' z' Yt x x' L0 G9 hb qY hp sD;rcases cW hx with ⟨h1,rfl⟩|⟨h1,jL⟩;subst h1;exact qU (h.frames g hi) _;exact h.frames x jL
end Go.Co
namespace Go.Co
open Go Go.Conc
open Go.ConcN (sumTo upd upd_same upd_ne)
variable {P:Program} {aa:Machine->Trace->Prop} {Cs:Nat->Prop} {N:Net} {γ:Nat->So} {rk:Nat->Tr} {tp:Nat} {gs:Array Goroutine} {w:World} {t:Trace}
theorem Q9(hP:Plain P)(h:xA P aa Cs N γ rk tp gs w t){i:Nat}{ch k:Pc}{g g' x0:Goroutine}{d:Nat}{sl:Option (Nat×Nat)}(hi:gs[i]? =some g)(hs:N.pr i=.go ch k)
  (hst:stepG P (i==0) g (w.at d)=.spawn g' x0 (w.at d)) (FE:g'.status=.running) (SV:x0.status=.running)
  (hch:∀w1,iL (γ i).give (w.at d) w1->Pr P aa false ch (γ i).give x0 w1) (hk:∀w1,iL (γ i).give (w.at d) w1->Pr P aa (i==0) k (γ i).give g' w1)
  (CY:CU Cs (N.start i ch k)):
  ∃gs' ops FD,runT P (crowd gs (w.at d) sl) i=(.next (crowd gs' (w.at d) sl),ops)/\xA P aa Cs (N.start i ch k) (upd (upd γ i (γ i).give) N.n (γ i).give) FD tp gs' w (t++ops):=by
 have hlt:i<gs.size:=(aG.1 hi).1;have mo:i<N.n:=by rw[<-h.size];exact hlt
 have hrun:=runT_crowd_spawn (P:=P) (sl:=sl) hi hst;have Y6:i≠N.n:=U
 have vC:N.n≠0:=U
 have e:(((MemOp.ofEvents i g.frame.fn g.frame.place #[]).push {g:=i,fn:=g.frame.fn,pos:=g.frame.place,act:=.go gs.size}).push {g:=gs.size,fn:=x0.frame.fn,pos:=g.frame.place,act:=.start})=tr i N.n g.frame.fn x0.frame.fn g.frame.place g.frame.place:=by rw[ofEvents_none,h.size];rfl
 rw[e]at hrun;obtain⟨Bc,o9⟩:=HJ CY;have sP:∀y,y≠i->y≠N.n->(N.start i ch k).pr y=N.pr y:=λy h1 h2=>by show upd (upd N.pr i k) N.n ch y=_;rw[upd_ne _ _ h2,upd_ne _ _ h1]
 have hpn:(N.start i ch k).pr N.n=ch:=upd_same _ _ _;have FF:(N.start i ch k).pr i=k:=by show upd (upd N.pr i k) N.n ch i=_;rw[upd_ne _ _ Y6,upd_same]
 have Ce:N.pr i≠.stop:=by rw[hs];simp
 have back:iL (γ i).give (w.at d) w:=⟨ai _,λ_ _=>rfl,rfl,rfl,rfl⟩;obtain⟨ri,hmi⟩:=ou (j:=i) FE (by rw[<-FF];exact o9 i (pW mo)) (λe h0=>Bc (by rw[<-h0,FF,e])) (hk w back);obtain⟨rn,hmn⟩:=ou (P:=P) (aa:=aa) (j:=N.n) (γ:=(γ i).give) (w:=w) (p:=ch) (g:=x0) SV (by rw[<-hpn];exact o9 N.n (uS _)) (λ_=>vC) (by rw[show(N.n==0)=false by simpa using vC];exact hch w back);have hti:=h.ti.start mo hs g.frame.fn x0.frame.fn g.frame.place g.frame.place;have BN:=xh i N.n g.frame.fn x0.frame.fn g.frame.place g.frame.place;have aS:∀(y:Nat)(x:Goroutine),((gs.setIfInBounds i g').push x0)[y]? =some x->(y=N.n/\x=x0)\/(y=i/\x=g')\/(y≠i/\y≠N.n/\gs[y]? =some x):=by
  intro y x hx;rw[Array.getElem?_push]at hx;split at hx;rename_i hy;rw[uV,h.size]at hy;exact .inl ⟨hy,(bM hx).symm⟩;rename_i hy;rw[uV,h.size]at hy;rcases cW hx with ⟨h1,h2⟩|⟨h1,h2⟩
  grind
  grind
 refine⟨_,_,upd (upd rk i ri) N.n rn,hrun,?_,Nat.succ_pos _,λy x hx=>?_,hti,λc hc=>?_,λy c' ok' z' k' x hx hb hp=>?_,λy y' c' v' k' ok' z' Yt x x' hx jL hb qY hp sD=>?_,λx hx=>?_⟩;rw[Array.size_push,uV,h.size];rfl
 rcases aS y x hx with ⟨rfl,rfl⟩|⟨rfl,rfl⟩|⟨h1,h2,jL⟩;rw[upd_same,upd_same,hpn,dh BN,h.ti.hears N.n (.inr (ai _))];exact hmn;rw[upd_ne _ _ Y6,upd_same,upd_ne _ _ Y6,upd_same,FF,dh BN,h.ti.hears y (.inl Ce)];exact hmi;rw[upd_ne _ _ h2,upd_ne _ _ h1,upd_ne _ _ h2,upd_ne _ _ h1,sP y h1 h2,dh BN];exact h.mem y x jL;obtain⟨h3,h4⟩:=h.chan c hc;refine⟨h3,λy=>?_⟩;have hgv:¬((γ i).give).1 c/\¬((γ i).give).2 c:=⟨λhx=>hx.elim (h4 i).1 (h4 i).2,λhx=>hx⟩;by_cases h2:y=N.n;rw[h2,upd_same];exact hgv
 by_cases h1:y=i;rw[h1,upd_ne _ _ Y6,upd_same];exact hgv
 rw[upd_ne _ _ h2,upd_ne _ _ h1];exact h4 y
 rcases aS y x hx with ⟨rfl,rfl⟩|⟨rfl,rfl⟩|⟨h1,h2,jL⟩
 grind
 grind
 rw[sP y h1 h2]at hp;exact h.open_ y c' ok' z' k' x jL hb hp;rcases aS y x hx with ⟨rfl,rfl⟩|⟨rfl,rfl⟩|⟨h1,h2,L0⟩
 grind
 grind
 rcases aS y' x' jL with ⟨rfl,rfl⟩|⟨rfl,rfl⟩|⟨Mh,h2',G9⟩
 grind
 grind
 rw[sP y h1 h2]at hp;rw[sP y' Mh h2']at sD;exact h.apart y y' c' v' k' ok' z' Yt x x' L0 G9 hb qY hp sD;rcases aS 0 x hx with ⟨h1,-⟩|⟨h1,rfl⟩|⟨_,_,jL⟩
 grind
 have h1:i=0:=h1.symm;subst h1;have jU:=qG (b:=False) hP true g (h.frames g hi) (w.at d);rw[show stepG P true g (w.at d)=_ from hst]at jU;exact jU.2;exact h.frames x jL
end Go.Co
namespace Go.Co
open Go Go.Conc
open Go.ConcN (sumTo upd upd_same upd_ne)
variable {P:Program} {aa:Machine->Trace->Prop} {Cs:Nat->Prop} {N:Net} {γ:Nat->So} {rk:Nat->Tr} {tp:Nat} {gs:Array Goroutine} {w:World} {t:Trace}
theorem QT{a a':Goroutine}{w':World}{o:Goroutine}(hm:mayWake P a=true)(hr:a'.status=.running):Conc.woken P a a' w' o=o.again w':=by unfold Conc.woken;simp[hm,hr]
theorem Mem.shut {j d dd:Nat}{γ:So}{w:World}{p:Pc}{r:Tr}{g:Goroutine}{c s:Nat}{tm:Bool}{a a':Goroutine}(h:Mem P aa j d γ w p r g)(hp:p≠.ret)(hm:mayWake P a=true)(hr:a'.status=.running)
  (hcw:∃x,w.heap[c]? =some x) (hrel:iL γ w ((w.at dd).setChan c 0 #[] true s s tm))
  (hsend:∀c' v k,p=.send c' v k->c'≠c/\∃s tm,w.heap[c']? =some (.chan 0 #[] false s s tm))
  (hrecv:∀c' ok z k,p=.recv c' ok z k->g.status=.blocked->∃s tm,w.heap[c']? =some (.chan 0 #[] false s s tm)):
  ∃r',Mem P aa j d γ ((w.at dd).setChan c 0 #[] true s s tm) p r' (Conc.woken P a a' ((w.at dd).setChan c 0 #[] true s s tm) g)/\
   (∀c' ok z k,p=.recv c' ok z k->(Conc.woken P a a' ((w.at dd).setChan c 0 #[] true s s tm) g).status=.blocked->g.status=.blocked/\c'≠c)/\
   ((Conc.woken P a a' ((w.at dd).setChan c 0 #[] true s s tm) g).status=.blocked->g.status=.blocked)/\(Conc.woken P a a' ((w.at dd).setChan c 0 #[] true s s tm) g).frame=g.frame/\(Conc.woken P a a' ((w.at dd).setChan c 0 #[] true s s tm) g).callers=g.callers/\(Conc.woken P a a' ((w.at dd).setChan c 0 #[] true s s tm) g).dying=g.dying:=by
 obtain⟨x,hx⟩:=hcw;have hlt:c<w.heap.size:=(aG.1 hx).1;have qo:∀c',c'≠c->((w.at dd).setChan c 0 #[] true s s tm).heap[c']? =w.heap[c']? :=λc' hc'=>by simp only[World.setChan,World.at];rw[fF (Ne.symm hc')]
 have afD:((w.at dd).setChan c 0 #[] true s s tm).heap[c]? =some (Obj.chan 0 #[] true s s tm):=by simp[World.setChan,World.at,hlt]
 have h':=h.rely hp hrel;cases h with
 |stop n g h1 h2=>rw[woken_quitsD h2];exact⟨_,h',λ_ _ _ _ e=>ar,id,rfl,rfl,rfl⟩
 |ret r g h1 h2 h3=>exact absurd rfl hp
 |run p r g h1 h2=>have hgr:=dH h2;rw[woken_run hgr];exact⟨_,h',λ_ _ _ _ _ hb=>(by rw[hgr]at hb;cases hb),id,rfl,rfl,rfl⟩
 |send c' v k g z h1=>obtain⟨hne,s',tm',h2⟩:=hsend c' v k rfl;rw[woken_send_open a a' ((qo c' hne).trans h2)];exact⟨_,h',λ_ _ _ _ e=>ar,id,rfl,rfl,rfl⟩
 |recv c' ok z k g h1 h2=>by_cases hcc:c'=c;subst hcc;rw[QT hm hr,again_recv_closed afD];refine⟨_,.run (.recv c' ok z k) .leaf _ ⟨ab,ab,ab⟩ (λw1 h3=>⟨⟨rfl,?_⟩,λx w2 h4=>?_⟩),λ_ _ _ _ _ hb=>(by cases hb),λhb=>(by cases hb),rfl,rfl,rfl⟩;have:=(h1 w1 (gL hrel h3)).2;have e:stepG P (j==0) {parked g #[rcase c' z] (.recv ok)with status:=.running} w1=stepG P (j==0) (core g) w1:=stepG_same rfl rfl rfl w1;rw[e];exact this;exact h2 x w2 (gL (gL hrel h3) h4);obtain⟨s',tm',h3⟩:=hrecv c' ok z k rfl rfl;rw[woken_recv_open a a' ((qo c' hcc).trans h3)];exact⟨_,h',λ_ _ _ _ e _=>(by cases e;exact⟨rfl,hcc⟩),id,rfl,rfl,rfl⟩
end Go.Co
namespace Go.Co
open Go Go.Conc
open Go.ConcN (sumTo upd upd_same upd_ne)
variable {P:Program} {aa:Machine->Trace->Prop} {Cs:Nat->Prop} {N:Net} {γ:Nat->So} {rk:Nat->Tr} {tp:Nat} {gs:Array Goroutine} {w:World} {t:Trace}
open Classical in
theorem Wm(hP:Plain P)(h:xA P aa Cs N γ rk tp gs w t)(hno:∀j,j<N.n->N.pr j≠.ret/\N.pr j≠.bad)(hsend:∀i c v k,i<N.n->N.pr i=.send c v k->N.cl c=none/\Cs c)(hrecv:∀j c ok z k,j<N.n->N.pr j=.recv c ok z k->Cs c)
  {i c:Nat} {k:Pc} {g g':Goroutine} {d:Nat} {sl:Option (Nat×Nat)} (hi:gs[i]? =some g) (hs:N.pr i=.close c k) (vL:N.cl c=none) (nK:Cs c) (hmw:mayWake P g=true) (FE:g'.status=.running)
  (hst:∀s r tm,(w.at d).heap[c]? =some (.chan 0 #[] false s r tm)->stepG P (i==0) g (w.at d)=.go g' ((w.at d).setChan c 0 #[] true s r tm) (closeEvents c))
  (hk:∀w1,iL (γ i) w w1->Pr P aa (i==0) k (γ i) g' w1) (Hh:∀j v k',j<N.n->N.pr j≠.send c v k') (CY:CU Cs (N.shut i c k)):
  ∃gs' w' ops FD,runT P (crowd gs (w.at d) sl) i=(.next (crowd gs' w' sl),ops)/\xA P aa Cs (N.shut i c k) γ FD tp gs' w' (t++ops):=by
 have hlt:i<gs.size:=(aG.1 hi).1;have mo:i<N.n:=by rw[<-h.size];exact hlt
 obtain⟨⟨s,tm,hc⟩,E5⟩:=h.chan c nK;rw[vL]at hc;have hst:=hst s s tm hc;have hrun:=runT_crowd_go (P:=P) (sl:=sl) hi hst;obtain⟨Bc,o9⟩:=HJ CY;have sP:∀y,y≠i->(N.shut i c k).pr y=N.pr y:=λy h1=>upd_ne _ _ h1;have FF:(N.shut i c k).pr i=k:=upd_same _ _ _;have Ce:N.pr i≠.stop:=by rw[hs];simp
 have hrel:∀y,iL (γ y) w ((w.at d).setChan c 0 #[] true s s tm):=λy=>Bt (E5 y) _ _ _ _ _ _ _ _;have hu:∀op∈MemOp.ofEvents i g.frame.fn g.frame.place (closeEvents c),op.g=i:=λop hop=>by rw[ofEvents_eq]at hop;obtain⟨e,_,rfl⟩:=gf.1 hop;rfl
 obtain⟨ri,hmi⟩:=ou (P:=P) (aa:=aa) (j:=i) (γ:=γ i) (w:=(w.at d).setChan c 0 #[] true s s tm) (p:=k) (g:=g') FE (by rw[<-FF];exact o9 i mo) (λe h0=>Bc (by rw[<-h0,FF,e])) (hk _ (hrel i));have dQ:∀(y:Nat)(x:Goroutine),y≠i->gs[y]? =some x->_:=λy x hy hx=>(h.mem y x hx).shut (a:=g) (a':=g') (c:=c) (s:=s) (tm:=tm) (dd:=d) (hno y (by rw[<-h.size];exact(aG.1 hx).1)).1 hmw FE ⟨_,hc⟩ (hrel y)
  (λc' v k' e=>by
   have L9:y<N.n:=by rw[<-h.size];exact(aG.1 hx).1
   obtain⟨h1,h2⟩:=hsend y c' v k' L9 e;obtain⟨⟨s0,Ym,h3⟩,-⟩:=h.chan c' h2;rw[h1]at h3;exact⟨λe2=>Hh y v k' L9 (e2▸e),s0,Ym,h3⟩)
  (λc' ok z k' e hb=>by
   have L9:y<N.n:=by rw[<-h.size];exact(aG.1 hx).1
   have h1:=h.open_ y c' ok z k' x hx hb e;obtain⟨⟨s0,Ym,h3⟩,-⟩:=h.chan c' (hrecv y c' ok z k' L9 e);rw[h1]at h3;exact⟨s0,Ym,h3⟩)
 have hex:∀y:Nat,∃r',∀x:Goroutine,y≠i->gs[y]? =some x->Mem P aa y (Deaf t y) (γ y) ((w.at d).setChan c 0 #[] true s s tm) (N.pr y) r' (Conc.woken P g g' ((w.at d).setChan c 0 #[] true s s tm) x):=by intro y;by_cases hy:y≠i/\∃x,gs[y]? =some x;obtain⟨hy,x,hx⟩:=hy;obtain⟨r',h1,-⟩:=dQ y x hy hx;exact⟨r',λx' _ jL=>by rw[hx]at jL;cases jL;exact h1⟩;exact⟨.leaf,λx h1 h2=>absurd ⟨h1,x,h2⟩ hy⟩
 have aS:∀(y:Nat)(x:Goroutine),((gs.map (Conc.woken P g g' ((w.at d).setChan c 0 #[] true s s tm))).setIfInBounds i g')[y]? =some x->(y=i/\x=g')\/(y≠i/\∃x0,gs[y]? =some x0/\x=Conc.woken P g g' ((w.at d).setChan c 0 #[] true s s tm) x0):=by grind
 have Ba:((w.at d).setChan c 0 #[] true s s tm).heap.size=w.heap.size:=by simp[World.setChan,World.at]
 refine⟨_,_,_,upd (λy=>Classical.choose (hex y)) i ri,hrun,(by rw[uV,Array.size_map];exact h.size),h.pos,λy x hx=>?_,(by rw[Ba];exact h.ti.shut mo hs _ _),λc' hc'=>?_,λy c' ok' z' k' x hx hb hp=>?_,λy y' c' v' k' ok' z' Yt x x' hx jL hb qY hp sD=>?_,λx hx=>?_⟩;rcases aS y x hx with ⟨rfl,rfl⟩|⟨hy,x0,Jl,rfl⟩;rw[upd_same,FF,Deaf_own,h.ti.hears y (.inl Ce)];exact hmi;rw[upd_ne _ _ hy,sP y hy,Deaf_other t (Ne.symm hy) _ hu];exact uT (hex y) x0 hy Jl;obtain⟨⟨s0,Ym,h3⟩,h4⟩:=h.chan c' hc';refine⟨?_,h4⟩;by_cases hcc:c'=c;subst hcc;have hl:c'<w.heap.size:=(aG.1 h3).1;refine⟨s,tm,?_⟩;show _=some (Obj.chan 0 #[] (upd N.cl c' _ c').isSome s s tm);rw[upd_same];simp[World.setChan,World.at,hl];refine⟨s0,Ym,?_⟩;show _=some (Obj.chan 0 #[] (upd N.cl c _ c').isSome s0 s0 Ym);rw[upd_ne _ _ hcc];simp only[World.setChan,World.at];rw[fF (Ne.symm hcc)];exact h3;rcases aS y x hx with ⟨rfl,rfl⟩|⟨hy,x0,Jl,rfl⟩
 grind
 rw[sP y hy]at hp;obtain⟨_,-,h2,-⟩:=dQ y x0 hy Jl;obtain⟨h3,h4⟩:=h2 c' ok' z' k' hp hb;show upd N.cl c _ c'=none;rw[upd_ne _ _ h4];exact h.open_ y c' ok' z' k' x0 Jl h3 hp;rcases aS y x hx with ⟨rfl,rfl⟩|⟨hy,x0,Jl,rfl⟩
 grind
 rcases aS y' x' jL with ⟨rfl,rfl⟩|⟨hy',x1,L0,rfl⟩
 grind
 rw[sP y hy]at hp;rw[sP y' hy']at sD;obtain⟨_,-,-,h2,-⟩:=dQ y x0 hy Jl;obtain⟨_,-,-,h2',-⟩:=dQ y' x1 hy' L0;exact h.apart y y' c' v' k' ok' z' Yt x0 x1 Jl L0 (h2 hb) (h2' qY) hp sD;rcases aS 0 x hx with ⟨h1,rfl⟩|⟨hy,x0,Jl,rfl⟩;have h1:i=0:=h1.symm;subst h1;have jU:=qG (b:=False) hP true g (h.frames g hi) (w.at d);rw[show stepG P true g (w.at d)=_ from hst]at jU;exact jU.2.1;obtain⟨_,-,-,-,h2,h3,h4⟩:=dQ 0 x0 hy Jl;have:=h.frames x0 Jl;unfold Fr at*;rw[h2,h3,h4];exact this
end Go.Co
namespace Go.Co
open Go Go.Conc
open Go.ConcN (sumTo upd upd_same upd_ne)
variable {P:Program} {aa:Machine->Trace->Prop} {Cs:Nat->Prop}
def A6(n:Nat)(rk:Nat->Tr):List Tr:=(List.range n).map rk
theorem Rs{n i:Nat}{rk:Nat->Tr}{r:Tr}(hi:i<n):A6 n (upd rk i r)=(A6 n rk).set i r:=by
 apply mG;intro j;unfold A6;rw[aM];by_cases hj:i=j;subst hj;simp[hi,upd_same];by_cases nJ:j<n;simp[hj,nJ,upd_ne _ _ (Ne.symm hj)]
 grind
theorem yJ{n i:Nat}{rk:Nat->Tr}{r:Tr}(hi:i<n)(h:TLt r (rk i)):LLt (A6 n (upd rk i r)) (A6 n rk):=by rw[Rs hi];exact .mk _ i (rk i) r (by simp[A6,hi]) h
variable {N:Net} {γ:Nat->So} {rk:Nat->Tr} {tp:Nat} {gs:Array Goroutine} {w:World} {t:Trace}
theorem x4(h:xA P aa Cs N γ rk tp gs w t){i:Nat}(hi:i<N.n):∃g,gs[i]? =some g:=by
 have:i<gs.size:=by rw[h.size];exact hi
 exact⟨gs[i],bX this⟩
theorem Wj(h:xA P aa Cs N γ rk tp gs w t)
  (hen:(∃i j c v k ok z k',i<N.n/\j<N.n/\N.pr i=.send c v k/\N.pr j=.recv c ok z k')\/(∃i c k,i<N.n/\N.pr i=.close c k)\/(∃j c ok z k E,j<N.n/\N.pr j=.recv c ok z k/\N.cl c=some E)\/(∃i ch k,i<N.n/\N.pr i=.go ch k)):
  ∃(i:Nat)(g:Goroutine),gs[i]? =some g/\g.status=.running:=by
 rcases hen with ⟨i,j,c,v,k,ok,z,k',hi,hj,FF,Jn⟩|⟨i,c,k,hi,hp⟩|⟨j,c,ok,z,k,E,hj,hp,hE⟩|⟨i,ch,k,hi,hp⟩;obtain⟨g,hg⟩:=x4 h hi;obtain⟨g',q9⟩:=x4 h hj;have hm:=h.mem i g hg;have Jo:=h.mem j g' q9;rw[FF]at hm;rw[Jn]at Jo;rcases hm.awake with e|e|e
 grind
 rcases Jo.awake with e'|e'|e'
 grind
 exact(h.apart i j c v k ok z k' g g' hg q9 e e' FF Jn).elim;generalize rk j=rj at Jo;cases Jo with
 |run p r g h1 h2=>rw[dH h2]at e';cases e'
 |recv _ _ _ _ g h1 h2=>cases e'
 generalize rk i=ri at hm;cases hm with
 |run p r g h1 h2=>rw[dH h2]at e;cases e
 |send _ _ _ g _ h1=>cases e
 obtain⟨g,hg⟩:=x4 h hi;have hm:=h.mem i g hg;rw[hp]at hm;generalize rk i=ri at hm;cases hm with
 |run p r g h1 h2=>exact⟨i,_,hg,dH h2⟩
 obtain⟨g,hg⟩:=x4 h hj;have hm:=h.mem j g hg;rw[hp]at hm;generalize rk j=rj at hm;cases hm with
 |run p r g h1 h2=>exact⟨j,_,hg,dH h2⟩
 |recv _ _ _ _ g h1 h2=>rw[h.open_ j c ok z k _ hg rfl hp]at hE;cases hE
 obtain⟨g,hg⟩:=x4 h hi;have hm:=h.mem i g hg;rw[hp]at hm;generalize rk i=ri at hm;cases hm with
 |run p r g h1 h2=>exact⟨i,_,hg,dH h2⟩
end Go.Co
