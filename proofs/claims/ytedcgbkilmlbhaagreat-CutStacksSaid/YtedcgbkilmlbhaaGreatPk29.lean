import Derived.Test.YtedcgbkilmlbhaaGreatPk28
namespace Go.Co
open Go Go.Conc
open Go.ConcN (sumTo upd upd_same upd_ne)
variable {P:Program} {aa:Machine->Trace->Prop}
def Ed(P:Program)(aa:Machine->Trace->Prop)(main:Bool):Pc->So->Goroutine->World->Prop
 |.send c v k=>λγ g w=>AtSend P main c v g w/\∀w1,jv γ w w1->Pr P aa main k γ (Conc.served g undef) w1
 |.recv c ok z k=>λγ g w=>AtRecv P main c ok z g w/\∀x w1,jv γ w w1->Pr P aa main (k x) γ (Conc.served g (recvd ok (x.getD z) x.isSome)) w1
 |.close c k=>λγ g w=>g.status=.running/\mayWake P g=true/\∃g',g'.status=.running/\(∀s r tm,w.heap[c]? =some (.chan 0 #[] false s r tm)->stepG P main g w=.go g' (w.setChan c 0 #[] true s r tm) (closeEvents c))/\∀w1,jv γ w w1->Pr P aa main k γ g' w1
 |.go child k=>λγ g w=>g.status=.running/\∃g' ch,g'.status=.running/\stepG P main g w=.spawn g' ch w/\ch.status=.running/\(∀w1,jv γ.give w w1->Pr P aa false child γ.give ch w1)/\∀w1,jv γ.give w w1->Pr P aa main k γ.give g' w1
 |_=>λ_ _ _=>False
def Pc.live (p:Pc):Prop:=p≠.stop/\p≠.ret/\p≠.bad
theorem Qw{main:Bool}{p:Pc}(hp:p.live){γ:So}{g:Goroutine}{w:World}(h:Pr P aa main p γ g w):∃r,Z6 P main jv Kl (Ed P aa main p) r γ g w:=by
 cases p with
 |stop=>exact absurd rfl hp.1
 |ret=>exact absurd rfl hp.2.1
 |bad=>exact absurd rfl hp.2.2
 |send c v k=>exact h
 |recv c ok z k=>exact h
 |close c k=>exact h
 |go ch k=>exact h
theorem JV{main:Bool}{p:Pc}{γ:So}{g:Goroutine}{w:World}(h:Ed P aa main p γ g w):g.status=.running:=by
 cases p with
 |send c v k=>exact h.1.1
 |recv c ok z k=>exact h.1.1
 |close c k=>exact h.1
 |go ch k=>exact h.1
 |stop=>exact h.elim
 |ret=>exact h.elim
 |bad=>exact h.elim
theorem AZ(γ:So)(w:World)(d:Nat):jv γ w (w.at d):=⟨ak _,λ_ _=>rfl,rfl,rfl,rfl⟩
theorem iV(γ:So)(w:World):jv γ w w:=X1 _ _ _
theorem eD{main:Bool}{p:Pc}{r:Tr}{γ:So}{g:Goroutine}{w:World}(h:Z6 P main jv Kl (Ed P aa main p) r γ g w):g.status=.running:=by
 cases r with
 |leaf=>exact JV (h w (iV _ _))
 |node f=>exact h.1
inductive Mem (P:Program) (aa:Machine->Trace->Prop) (j d:Nat) (γ:So) (w:World):Pc->Tr->Goroutine->Prop
 |stop (n:Nat) (g:Goroutine):j≠0->QuitsD P n d g->Mem P aa j d γ w .stop (Tr.nat n) g
 |ret (r:Tr) (g:Goroutine):g.status=.running->g.dying=none->jh P aa () g w->Mem P aa j d γ w .ret r g
 |run (p:Pc) (r:Tr) (g:Goroutine):p.live->Z6 P (j==0) jv Kl (Ed P aa (j==0) p) r γ g w->Mem P aa j d γ w p r.up g
 |send (c:Nat) (v:Value) (k:Pc) (g:Goroutine) (z:Value):(∀w1,jv γ w w1->Pr P aa (j==0) k γ (Conc.served g undef) w1)->Mem P aa j d γ w (.send c v k) .leaf (parked g #[scase c v z] .send)
 |recv (c:Nat) (ok:Bool) (z:Value) (k:Option Value->Pc) (g:Goroutine):(∀w1,jv γ w w1->AtRecv P (j==0) c ok z (core g) w1)->(∀x w1,jv γ w w1->Pr P aa (j==0) (k x) γ (Conc.served g (recvd ok (x.getD z) x.isSome)) w1)->Mem P aa j d γ w (.recv c ok z k) .leaf (parked g #[rcase c z] (.recv ok))
theorem pN{j:Nat}{γ:So}{w:World}{p:Pc}{g:Goroutine}(hs:g.status=.running)(hb:p≠.bad)(h0:p=.stop->j≠0)(h:Pr P aa (j==0) p γ g w):∃r,Mem P aa j 0 γ w p r g:=by by_cases h1:p=.stop;subst h1;obtain⟨n,hn⟩:=h;exact⟨_,.stop n g (h0 rfl) hn⟩;by_cases h2:p=.ret;subst h2;exact⟨.leaf,.ret _ _ hs h.1 h.2⟩;obtain⟨r,hr⟩:=Qw ⟨h1,h2,hb⟩ h;exact⟨_,.run p r g ⟨h1,h2,hb⟩ hr⟩
structure yJ (P:Program) (aa:Machine->Trace->Prop) (Cs:Nat->Prop) (N:Net) (γ:Nat->So) (rk:Nat->Tr) (tp:Nat) (gs:Array Goroutine) (w:World) (t:Trace):Prop where
 size:gs.size=N.n
 pos:0<N.n
 mem:∀j g,gs[j]? =some g->Mem P aa j (Deaf t j) (γ j) w (N.pr j) (rk j) g
 ti:TI N γ w.heap.size tp t
 chan:∀c,Cs c->(∃s tm,w.heap[c]? =some (.chan 0 #[] (N.cl c).isSome s s tm))/\∀j,¬(γ j).1 c/\¬(γ j).2 c
 open_:∀j c ok z k g,gs[j]? =some g->g.status=.blocked->N.pr j=.recv c ok z k->N.cl c=none
 apart:∀i j c v k ok z k' g g',gs[i]? =some g->gs[j]? =some g'->g.status=.blocked->g'.status=.blocked->N.pr i=.send c v k->N.pr j=.recv c ok z k'->False
 frames:∀g,gs[0]? =some g->Fr g
theorem Mem.rely {j d:Nat}{γ:So}{w w1:World}{p:Pc}{r:Tr}{g:Goroutine}(hp:p≠.ret)(h:Mem P aa j d γ w p r g)(hr:jv γ w w1):Mem P aa j d γ w1 p r g:=by
 cases h with
 |stop n g h1 h2=>exact .stop n g h1 h2
 |ret r g h1 h2 h3=>exact absurd rfl hp
 |run p r g h1 h2=>exact .run p r g h1 (EG Gq h2 hr)
 |send c v k g z h1=>exact .send c v k g z λw2 h2=>h1 w2 (iI hr h2)
 |recv c ok z k g h1 h2=>exact .recv c ok z k g (λw2 h3=>h1 w2 (iI hr h3)) λx w2 h3=>h2 x w2 (iI hr h3)
theorem MQ{N:Net}{γ:Nat->So}{tp:Nat}{t:Trace}{w w':World}{i j:Nat}(h:TI N γ w.heap.size tp t)(RY:j≠i){O':Nat->Prop}{es:Array Event}(hs:Sto (γ i).1 (γ i).2 w O' w' es):jv (γ j) w w':=by
 obtain⟨-,h2,h3,h4,h5,h6,-⟩:=hs;refine⟨h2,λb hb=>h3 b (h.Ih j b hb) λhO=>?_,h4,h5,h6⟩;have:=h.yR i j b hO;rcases hb with hb|hb
 grind
 grind
theorem Mem.awake {j d:Nat}{γ:So}{w:World}{p:Pc}{r:Tr}{g:Goroutine}(h:Mem P aa j d γ w p r g):g.status=.running\/g.status=.blocked\/g.status=.finished:=by
 cases h with
 |stop n g h1 h2=>exact h2.status.imp id .inr
 |ret r g h1 h2 h3=>exact .inl h1
 |run p r g h1 h2=>exact .inl (eD h2)
 |send c v k g z h1=>exact .inr (.inl rfl)
 |recv c ok z k g h1 h2=>exact .inr (.inl rfl)
theorem Mem.woken {j d:Nat}{γ:So}{w w':World}{p:Pc}{r:Tr}{g:Goroutine}(h:Mem P aa j d γ w p r g)(hc:∀c,(∃v k,p=.send c v k)\/(∃ok z k,p=.recv c ok z k)->g.status=.blocked->∃s tm,w'.heap[c]? =some (.chan 0 #[] false s s tm))(a a':Goroutine):Conc.woken P a a' w' g=g:=by
 cases h with
 |stop n g h1 h2=>exact woken_quitsD h2
 |ret r g h1 h2 h3=>exact woken_run h1
 |run p r g h1 h2=>exact woken_run (eD h2)
 |send c v k g z h1=>obtain⟨s,tm,h⟩:=hc c (.inl ⟨v,k,rfl⟩) rfl;exact woken_send_open a a' h
 |recv c ok z k g h1 h2=>obtain⟨s,tm,h⟩:=hc c (.inr ⟨ok,z,k,rfl⟩) rfl;exact woken_recv_open a a' h
open Classical in
theorem YD{Cs:Nat->Prop}{N:Net}{γ:Nat->So}{rk:Nat->Tr}{tp:Nat}{gs:Array Goroutine}{w:World}{sl:Option (Nat×Nat)}{t:Trace}(h:yJ P aa Cs N γ rk tp gs w t)
  (h0:N.pr 0=.ret) (hd:∀j,0<j->j<N.n->N.pr j=.stop/\N.D 0 j):ZD P aa (crowd gs w sl) t:=by
 have hlt:0<gs.size:=by rw[h.size];exact h.pos
 obtain⟨g,hg⟩:∃g,gs[0]? =some g:=⟨gs[0],cD hlt⟩;have hm:=h.mem 0 g hg;rw[h0]at hm;generalize hrk:rk 0=r at hm;cases hm with
 |run p r g h1 h2=>exact absurd rfl h1.2.1
 |ret r g h1 h2 h3=>
  have hq:∀j,∃n,∀x,0<j->gs[j]? =some x->QuitsD P n (Deaf t j) x:=by
   intro j;by_cases hj:0<j/\∃x,gs[j]? =some x;obtain⟨hj,x,hx⟩:=hj;have oR:j<N.n:=by rw[<-h.size];exact(aN.1 hx).1
   have hmj:=h.mem j x hx;rw[(hd j hj oR).1]at hmj;generalize Kq:rk j=r2 at hmj;cases hmj with
   |stop n g h4 h5=>exact⟨n,λy _ hy=>by rw[hx]at hy;cases hy;exact h5⟩
   |run p r g h4 h5=>exact absurd rfl h4.1
   exact⟨0,λx h4 h5=>absurd ⟨h4,x,h5⟩ hj⟩
  have known:∀i a,touchAt t i=some a->a.loc.isMemory=true->Knows t 0 i:=by
   intro i a ha oF;rcases tG i tp with hi|hi;exact h.ti.pre i a 0 hi ha oF (by rw[h0];simp) h.pos;obtain⟨z,hz,-⟩:=touch_of ha;have hgz:t.g? i=some z.g:=by unfold Trace.g?;rw[hz];rfl
   by_cases Kn:z.g=0;exact A9 (Kn▸hgz);have hn:=h.ti.num i z.g hi hgz;obtain⟨h4,h5⟩:=hd z.g ab hn;exact h.ti.kn i a z.g 0 hi ha hgz h4 h5 (.inl rfl) h.pos
  have KX:qh t:=by
   refine⟨h.ti.clean,known,λi g hg hne hc=>?_,h.ti.hears 0 (.inl (by rw[h0];simp))⟩;obtain⟨x,hx,hm,-⟩:=hc;obtain⟨q,z,hz,Kn,hb⟩:=known i x hx hm;have hzg:t.g? q=some 0:=by unfold Trace.g?;rw[hz];simp[Kn]
   rcases hb with rfl|hb
   grind
   grind
  exact h3 w.drawn (h.frames g hg) h1 h2 gs sl t (λj=>Classical.choose (hq j)) hg ⟨λj x hj hx=>wF (hq j) x hj hx,λj hj=>h.ti.hears j (.inr (by rw[<-h.size];exact hj))⟩ KX
theorem dQ{gs:Array Goroutine}{i j:Nat}{g' x:Goroutine}(h:(gs.setIfInBounds i g')[j]? =some x):(j=i/\x=g')\/(j≠i/\gs[j]? =some x):=by grind
theorem Hw{gs:Array Goroutine}{i:Nat}{f:Goroutine->Goroutine}{g':Goroutine}(h:∀(j:Nat)(x:Goroutine),j≠i->gs[j]? =some x->f x=x):(gs.map f).setIfInBounds i g'=gs.setIfInBounds i g':=by
 apply Array.ext_getElem?;intro j;by_cases hj:i=j
 grind
 grind
theorem yJ.woken {Cs:Nat->Prop}{N:Net}{γ:Nat->So}{rk:Nat->Tr}{tp:Nat}{gs:Array Goroutine}{w w':World}{t:Trace}(h:yJ P aa Cs N γ rk tp gs w t)
  (hsend:∀i c v k,i<N.n->N.pr i=.send c v k->N.cl c=none/\Cs c) (hrecv:∀j c ok z k,j<N.n->N.pr j=.recv c ok z k->Cs c) (hc:∀c,Cs c->w'.heap[c]? =w.heap[c]?) (a a':Goroutine):
  ∀(j:Nat)(x:Goroutine),gs[j]? =some x->Conc.woken P a a' w' x=x:=by
 intro j x hx;have oR:j<N.n:=by rw[<-h.size];exact(aN.1 hx).1
 refine(h.mem j x hx).woken (λc hcc hbl=>?_) a a';rcases hcc with ⟨v,k,hp⟩|⟨ok,z,k,hp⟩;obtain⟨h1,h2⟩:=hsend j c v k oR hp;obtain⟨⟨s,tm,h3⟩,-⟩:=h.chan c h2;rw[h1]at h3;exact⟨s,tm,(hc c h2).trans h3⟩;have h2:=hrecv j c ok z k oR hp;have h1:=h.open_ j c ok z k x hx hbl hp;obtain⟨⟨s,tm,h3⟩,-⟩:=h.chan c h2;rw[h1]at h3;exact⟨s,tm,(hc c h2).trans h3⟩
theorem XM(hP:Plain P){Cs:Nat->Prop}{N:Net}{γ:Nat->So}{rk:Nat->Tr}{tp:Nat}{gs:Array Goroutine}{w:World}{t:Trace}(h:yJ P aa Cs N γ rk tp gs w t)
  (hno:∀j,j<N.n->N.pr j≠.ret/\N.pr j≠.bad) (hsend:∀i c v k,i<N.n->N.pr i=.send c v k->N.cl c=none/\Cs c) (hrecv:∀j c ok z k,j<N.n->N.pr j=.recv c ok z k->Cs c)
  {i:Nat} {g g':Goroutine} {d:Nat} {sl:Option (Nat×Nat)} {w':World} {es:Array Event} {γ':So} {r':Tr} (hi:gs[i]? =some g) (hl:(N.pr i).live)
  (hst:stepG P (i==0) g (w.at d)=.go g' w' es) (hS:Kl (γ i) (w.at d) γ' w' es) (hG:Z6 P (i==0) jv Kl (Ed P aa (i==0) (N.pr i)) r' γ' g' w'):
  runT P (crowd gs (w.at d) sl) i=(.next (crowd (gs.setIfInBounds i g') w' sl),MemOp.ofEvents i g.frame.fn g.frame.place es)/\
  yJ P aa Cs N (upd γ i γ') (upd rk i r'.up) tp (gs.setIfInBounds i g') w' (t++MemOp.ofEvents i g.frame.fn g.frame.place es):=by
 obtain⟨hS1,Ki⟩:=hS;have oK:i<N.n:=by rw[<-h.size];exact(aN.1 hi).1
 have hlt:i<gs.size:=(aN.1 hi).1;have hγ:γ'=((γ i).1,γ'.2):=by rw[<-hS1]
 have PM:∀c,Cs c->w'.heap[c]? =w.heap[c]? :=by intro c hc;obtain⟨⟨s,tm,h3⟩,h4⟩:=h.chan c hc;refine Ki.2.2.1 c ?_ (h4 i).2;show c<w.heap.size;exact(aN.1 h3).1
 have hrun:=runT_crowd_go (P:=P) (sl:=sl) hi hst;rw[Hw λj x _ hx=>h.woken hsend hrecv PM g g' j x hx]at hrun;refine⟨hrun,?_⟩;have hti:=h.ti.step oK hl.1 (O':=γ'.2) (es:=es) g.frame.fn g.frame.place (sz':=w'.heap.size) Ki.2.1 Ki.1 Ki.2.2.2.2.2.2;rw[<-hγ]at hti;have hrel:∀j,j≠i->jv (γ j) w w':=λj hj=>MQ h.ti hj (w:=w) (O':=γ'.2) (es:=es) ⟨Ki.1,Ki.2.1,Ki.2.2.1,Ki.2.2.2.1,Ki.2.2.2.2.1,Ki.2.2.2.2.2.1,Ki.2.2.2.2.2.2⟩;have s4:=eD hG;have hu:∀op∈MemOp.ofEvents i g.frame.fn g.frame.place es,op.g=i:=λop hop=>by rw[ofEvents_eq]at hop;obtain⟨e,_,rfl⟩:=gP.1 hop;rfl
 refine⟨by simpa using h.size,h.pos,λj x hx=>?_,hti,λc hc=>?_,λj c ok z k x hx hb hp=>?_,λj j' c v k ok z k' x x' hx kG hb uj hp uh=>?_,λx hx=>?_⟩;rcases dQ hx with ⟨rfl,rfl⟩|⟨hj,kG⟩;rw[upd_same,upd_same];exact .run _ r' x hl hG;rw[upd_ne _ _ hj,upd_ne _ _ hj,Deaf_other t (Ne.symm hj) _ hu];have oR:j<N.n:=by rw[<-h.size];exact(aN.1 kG).1
 exact(h.mem j x kG).rely (hno j oR).1 (hrel j hj);obtain⟨⟨s,tm,h3⟩,h4⟩:=h.chan c hc;refine⟨⟨s,tm,(PM c hc).trans h3⟩,λj=>?_⟩;by_cases hj:j=i;subst hj;rw[upd_same];refine⟨by rw[hS1];exact(h4 j).1,λhO=>?_⟩;rcases(Ki.1 c).1 hO with h5|⟨h5,-⟩
 grind
 have:c<w.heap.size:=(aN.1 h3).1;have h5':w.heap.size<=c:=h5;omega;rw[upd_ne _ _ hj];exact h4 j;rcases dQ hx with ⟨rfl,rfl⟩|⟨hj,kG⟩
 grind
 exact h.open_ j c ok z k x kG hb hp;rcases dQ hx with ⟨rfl,rfl⟩|⟨hj,Gg⟩
 grind
 rcases dQ kG with ⟨rfl,rfl⟩|⟨AL,H9⟩
 grind
 exact h.apart j j' c v k ok z k' x x' Gg H9 hb uj hp uh;rcases dQ hx with ⟨Gk,rfl⟩|⟨hj,kG⟩;subst Gk;have kB:=sA (b:=False) hP true g (h.frames g hi) (w.at d);rw[show stepG P true g (w.at d)=_ from hst]at kB;exact kB.2.1;exact h.frames x kG
end Go.Co
namespace Go.Co
open Go Go.Conc
open Go.ConcN (sumTo upd upd_same upd_ne)
variable {P:Program} {aa:Machine->Trace->Prop} {Cs:Nat->Prop} {N:Net} {γ:Nat->So} {rk:Nat->Tr} {tp:Nat} {gs:Array Goroutine} {w:World} {t:Trace}
theorem N0(h:yJ P aa Cs N γ rk tp gs w t)(hno:∀j,j<N.n->N.pr j≠.ret/\N.pr j≠.bad)(d:Nat):yJ P aa Cs N γ rk tp gs (w.at d) t:=
 ⟨h.size,h.pos,λj x hx=>(h.mem j x hx).rely (hno j (by rw[<-h.size];exact(aN.1 hx).1)).1 (AZ _ _ _),h.ti,h.chan,h.open_,h.apart,h.frames⟩
theorem XO(h:yJ P aa Cs N γ rk tp gs w t)
  {i n:Nat} {g g':Goroutine} {sl:Option (Nat×Nat)} {es:Array Event} (hi:gs[i]? =some g) (hp:N.pr i=.stop) (Gk:i≠0)
  (hm:∀e∈es,Event.mute e=true) (hst:∀w,stepG P false g w=.go g' w es) (hq:QuitsD P n (deafBehind (Deaf t i) es) g')
  (hsend:∀i c v k,i<N.n->N.pr i=.send c v k->N.cl c=none/\Cs c) (hrecv:∀j c ok z k,j<N.n->N.pr j=.recv c ok z k->Cs c):
  runT P (crowd gs w sl) i=(.next (crowd (gs.setIfInBounds i g') w sl),MemOp.ofEvents i g.frame.fn g.frame.place es)/\
  yJ P aa Cs N γ (upd rk i (Tr.nat n)) tp (gs.setIfInBounds i g') w (t++MemOp.ofEvents i g.frame.fn g.frame.place es):=by
 have hlt:i<gs.size:=(aN.1 hi).1;have oK:i<N.n:=by rw[<-h.size];exact hlt
 have hib:(i==0)=false:=by simpa using Gk
 have hrun:=runT_crowd_go (P:=P) (sl:=sl) hi (by rw[hib];exact hst w);rw[Hw λj x _ hx=>h.woken hsend hrecv (λ_ _=>rfl) g g' j x hx]at hrun;refine⟨hrun,?_⟩;have hu:∀op∈MemOp.ofEvents i g.frame.fn g.frame.place es,op.g=i/\op.act.touch?=none:=λop hop=>by rw[ofEvents_eq]at hop;obtain⟨e,he,rfl⟩:=gP.1 hop;exact⟨rfl,touch_mute (hm e he)⟩
 have hti:TI N γ w.heap.size tp (t++MemOp.ofEvents i g.frame.fn g.frame.place es):=by
  refine h.ti.move (λop hop=>(hu op hop).2) (λj hj=>?_) (ak _) (λop hop=>by rw[(hu op hop).1];exact oK) (λj hj oR=>⟨j,oR,hj,λx hx=>hx.app _,λb hb=>.inl hb⟩) (λ_ _ hb=>hb) ?_ ?_ h.ti.yR h.ti.Ih h.ti.Pv h.ti.dst;have jy:j≠i:=by
   rcases hj with h1|h1
   grind
   omega
  rw[Deaf_other t (Ne.symm jy) _ λop hop=>(hu op hop).1];exact h.ti.hears j hj;intro x y hD hy hx Kg q a UN ha hg;exact(h.ti.kn q a y x UN ha hg hy hD hx Kg).app _;intro c E hE;obtain⟨q,z,UN,hz,hh,hk⟩:=h.ti.kc c E hE;exact⟨q,z,by rw[getElem?_append_old (lt_size_of_getElem? UN)];exact UN,hz,(heard_old (lt_size_of_getElem? UN)).2 hh,λx a y hx ha hgx U3=>(hk x a y hx ha hgx U3).app _⟩
 refine⟨by simpa using h.size,h.pos,λj x hx=>?_,hti,h.chan,λj c ok z k x hx hb Kr=>?_,λj j' c v k ok z k' x x' hx kG hb uj Kr NI=>?_,λx hx=>?_⟩;rcases dQ hx with ⟨rfl,rfl⟩|⟨hj,kG⟩;rw[hp,upd_same,Deaf_own];exact .stop n x Gk hq;rw[upd_ne _ _ hj,Deaf_other t (Ne.symm hj) _ λop hop=>(hu op hop).1];exact h.mem j x kG;rcases dQ hx with ⟨rfl,rfl⟩|⟨hj,kG⟩
 grind
 exact h.open_ j c ok z k x kG hb Kr;rcases dQ hx with ⟨rfl,rfl⟩|⟨hj,Gg⟩
 grind
 rcases dQ kG with ⟨rfl,rfl⟩|⟨AL,H9⟩
 grind
 exact h.apart j j' c v k ok z k' x x' Gg H9 hb uj Kr NI;rcases dQ hx with ⟨akC,rfl⟩|⟨hj,kG⟩
 grind
 exact h.frames x kG
theorem Lx(h:yJ P aa Cs N γ rk tp gs w t){i:Nat}{g x0:Goroutine}(hi:gs[i]? =some g)(hf:x0.frame=g.frame)(hc:x0.callers=g.callers)(hd:x0.dying=g.dying)
  (hm:Mem P aa i (Deaf t i) (γ i) w (N.pr i) .leaf x0) (hop:∀c ok z k,N.pr i=.recv c ok z k->N.cl c=none)
  (Z2:∀j x c v k ok z k',j≠i->gs[j]? =some x->x.status=.blocked->(N.pr i=.send c v k->N.pr j=.recv c ok z k'->False)/\(N.pr j=.send c v k->N.pr i=.recv c ok z k'->False)):
  yJ P aa Cs N γ (upd rk i .leaf) tp (gs.setIfInBounds i x0) w t:=by
 refine⟨by simpa using h.size,h.pos,λj x hx=>?_,h.ti,h.chan,λj c ok z k x hx hb Kr=>?_,λj j' c v k ok z k' x x' hx kG hb uj Kr NI=>?_,λx hx=>?_⟩;rcases dQ hx with ⟨rfl,rfl⟩|⟨hj,kG⟩;rw[upd_same];exact hm
 rw[upd_ne _ _ hj];exact h.mem j x kG;rcases dQ hx with ⟨rfl,rfl⟩|⟨hj,kG⟩
 grind
 exact h.open_ j c ok z k x kG hb Kr;rcases dQ hx with ⟨rfl,rfl⟩|⟨hj,Gg⟩
 grind
 rcases dQ kG with ⟨rfl,rfl⟩|⟨AL,H9⟩
 grind
 exact h.apart j j' c v k ok z k' x x' Gg H9 hb uj Kr NI;rcases dQ hx with ⟨rfl,rfl⟩|⟨hj,kG⟩;have:=h.frames g hi;unfold Fr at*;rw[hf,hc,hd];exact this;exact h.frames x kG
end Go.Co
namespace Go.Co
open Go Go.Conc
open Go.ConcN (sumTo upd upd_same upd_ne)
variable {P:Program} {aa:Machine->Trace->Prop} {Cs:Nat->Prop} {N:Net} {γ:Nat->So} {rk:Nat->Tr} {tp:Nat} {gs:Array Goroutine} {w:World} {t:Trace}
theorem IE{N:Net}(h:DD Cs N):N.pr 0≠.stop/\∀j,j<N.n->N.pr j≠.bad:=by
 cases h with
 |done _ h1 h2=>grind
 |step _ h1 h2=>exact⟨h2,λj hj=>(h1 j hj).2⟩
theorem Cn{γ:So}{c:Nat}(hc:¬γ.1 c/\¬γ.2 c)(w:World)(d cap:Nat)(buf:Array Value)(cl:Bool)(s r:Nat)(tm:Bool):jv γ w ((w.at d).setChan c cap buf cl s r tm):=by
 refine⟨by simp[World.setChan,World.at],λb hb=>?_,rfl,rfl,rfl⟩;have:c≠b:=by grind
 simp only[World.setChan,World.at];rw[gl this]
theorem Lu(h:yJ P aa Cs N γ rk tp gs w t)(hno:∀j,j<N.n->N.pr j≠.ret/\N.pr j≠.bad){i j c s:Nat}{v:Value}{k:Pc}{ok:Bool}{z:Value}{kr:Option Value->Pc}(RY:i≠j)(hi:i<N.n)(hj:j<N.n)(rS:Cs c)
  (hs:N.pr i=.send c v k) (hr:N.pr j=.recv c ok z kr) (xw:N.cl c=none) {gi gj:Goroutine} {gs':Array Goroutine} {d:Nat} {tm:Bool} {f f':FuncId} {p p':String}
  (hsz:gs'.size=gs.size) (hgi:gs'[i]? =some gi) (ZY:gs'[j]? =some gj) (hgo:∀y,y≠i->y≠j->gs'[y]? =gs[y]?)
  (hsi:gi.status=.running) (hsj:gj.status=.running) (Gi:∀w1,jv (γ i) w w1->Pr P aa (i==0) k (γ i) gi w1) (Kr:∀w1,jv (γ j) w w1->Pr P aa (j==0) (kr (some v)) (γ j) gj w1)
  (hfr:∀x,gs'[0]? =some x->Fr x) (DI:DD Cs (N.meet i j k (kr (some v)))):
  ∃Gf,yJ P aa Cs (N.meet i j k (kr (some v))) γ Gf tp gs' ((w.at d).setChan c 0 #[] false (s+1) (s+1) tm) (t++fP i j c s f f' p p'):=by
 have PM:=h.chan c rS;obtain⟨B6,CU⟩:=IE DI;have uF:∀y,y≠i->y≠j->(N.meet i j k (kr (some v))).pr y=N.pr y:=λy h1 h2=>by show upd (upd N.pr i k) j _ y=_;rw[upd_ne _ _ h2,upd_ne _ _ h1]
 have NI:(N.meet i j k (kr (some v))).pr j=kr (some v):=upd_same _ _ _;have aeh:(N.meet i j k (kr (some v))).pr i=k:=by show upd (upd N.pr i k) j _ i=_;rw[upd_ne _ _ RY,upd_same]
 have hrel:∀y,jv (γ y) w ((w.at d).setChan c 0 #[] false (s+1) (s+1) tm):=λy=>Cn (PM.2 y) _ _ _ _ _ _ _ _;obtain⟨ri,hmi⟩:=pN hsi (by rw[<-aeh];exact CU i hi) (λe h0=>B6 (by rw[<-h0,aeh,e])) (Gi _ (hrel i));obtain⟨rj,hmj⟩:=pN hsj (by rw[<-NI];exact CU j hj) (λe h0=>B6 (by rw[<-h0,NI,e])) (Kr _ (hrel j));have C5:N.pr i≠.stop:=by rw[hs];simp
 have ZX:N.pr j≠.stop:=by rw[hr];simp
 have B4:((w.at d).setChan c 0 #[] false (s+1) (s+1) tm).heap.size=w.heap.size:=by simp[World.setChan,World.at]
 refine⟨upd (upd rk i ri) j rj,hsz.trans h.size,h.pos,λy x hx=>?_,?_,λc' hc'=>?_,λy c' ok' z' k' x hx hb hp=>?_,λy y' c' v' k' ok' z' ZQ x x' hx kG hb uj hp uh=>?_,hfr⟩;by_cases h2:y=j;subst h2;rw[ZY]at hx;cases hx;rw[upd_same,NI,dY (kz _ _ _ _ _ _ _ _),h.ti.hears y (.inl ZX)];exact hmj;by_cases h1:y=i;subst h1;rw[hgi]at hx;cases hx;rw[upd_ne _ _ h2,upd_same,aeh,dY (kz _ _ _ _ _ _ _ _),h.ti.hears y (.inl C5)];exact hmi;rw[hgo y h1 h2]at hx;rw[upd_ne _ _ h2,upd_ne _ _ h1,uF y h1 h2,dY (kz _ _ _ _ _ _ _ _)];have Nl:y<N.n:=by rw[<-h.size];exact(aN.1 hx).1
 exact(h.mem y x hx).rely (hno y Nl).1 (hrel y);rw[B4];exact h.ti.meet hi hj RY hs hr f f' p p';obtain⟨⟨s0,ZL,h3⟩,h4⟩:=h.chan c' hc';refine⟨?_,h4⟩;by_cases hcc:c'=c;subst hcc;have hlt:c'<w.heap.size:=(aN.1 h3).1;refine⟨s+1,tm,?_⟩;show _=some (Obj.chan 0 #[] (N.cl c').isSome (s+1) (s+1) tm);rw[xw];simp[World.setChan,World.at,hlt];refine⟨s0,ZL,?_⟩;show((w.at d).setChan c 0 #[] false (s+1) (s+1) tm).heap[c']? =some (Obj.chan 0 #[] (N.cl c').isSome s0 s0 ZL);simp only[World.setChan,World.at];rw[gl (Ne.symm hcc)];exact h3;by_cases h2:y=j
 grind
 by_cases h1:y=i
 grind
 rw[hgo y h1 h2]at hx;rw[uF y h1 h2]at hp;exact h.open_ y c' ok' z' k' x hx hb hp;have live:∀y x,gs'[y]? =some x->x.status=.blocked->y≠i/\y≠j:=λy x hx hb=>by
  refine⟨?_,?_⟩
  grind
  grind
 obtain⟨a1,a2⟩:=live y x hx hb;obtain⟨b1,b2⟩:=live y' x' kG uj;rw[uF y a1 a2]at hp;rw[uF y' b1 b2]at uh;rw[hgo y a1 a2]at hx;rw[hgo y' b1 b2]at kG;exact h.apart y y' c' v' k' ok' z' ZQ x x' hx kG hb uj hp uh
theorem Au(h:yJ P aa Cs N γ rk tp gs w t){i c j k:Nat}(hp:(j,k)∈partners (gs.setIfInBounds i ph) c false):
  k=0/\j≠i/\j<N.n/\∃g0 ok z kr,gs[j]? =some (parked g0 #[rcase c z] (.recv ok))/\N.pr j=.recv c ok z kr/\∀x w1,jv (γ j) w w1->Pr P aa (j==0) (kr x) (γ j) (Conc.served g0 (recvd ok (x.getD z) x.isSome)) w1:=by
 obtain⟨g,hg,hk⟩:=mem_partners.1 hp;rcases dQ hg with ⟨rfl,rfl⟩|⟨jy,s4⟩;rw[offersAt_ph]at hk;cases hk
 have oR:j<N.n:=by rw[<-h.size];exact(aN.1 s4).1
 have hm:=h.mem j g s4;generalize Kr:N.pr j=pj at hm;generalize rk j=rj at hm;cases hm with
 |stop n g h1 h2=>rw[offersAt_of_not_blocked (by rcases h2.status with e|e<;>simp[e])]at hk;cases hk
 |ret r g h1 h2 h3=>rw[offersAt_of_not_blocked (by simp[h1])]at hk;cases hk
 |run p r g h1 h2=>rw[offersAt_of_not_blocked (by simp[eD h2])]at hk;cases hk
 |send c' v k' g z h1=>rw[offersAt_parked_send']at hk;cases hk
 |recv c' ok z k' g h1 h2=>
  rw[offersAt_parked_recv]at hk;split at hk
  grind
  cases hk
theorem ud(h:yJ P aa Cs N γ rk tp gs w t){i c j k:Nat}(hp:(j,k)∈partners (gs.setIfInBounds i ph) c true):
  k=0/\j≠i/\j<N.n/\∃g0 v z kr,gs[j]? =some (parked g0 #[scase c v z] .send)/\N.pr j=.send c v kr/\∀w1,jv (γ j) w w1->Pr P aa (j==0) kr (γ j) (Conc.served g0 undef) w1:=by
 obtain⟨g,hg,hk⟩:=mem_partners.1 hp;rcases dQ hg with ⟨rfl,rfl⟩|⟨jy,s4⟩;rw[offersAt_ph]at hk;cases hk
 have oR:j<N.n:=by rw[<-h.size];exact(aN.1 s4).1
 have hm:=h.mem j g s4;generalize Kr:N.pr j=pj at hm;generalize rk j=rj at hm;cases hm with
 |stop n g h1 h2=>rw[offersAt_of_not_blocked (by rcases h2.status with e|e<;>simp[e])]at hk;cases hk
 |ret r g h1 h2 h3=>rw[offersAt_of_not_blocked (by simp[h1])]at hk;cases hk
 |run p r g h1 h2=>rw[offersAt_of_not_blocked (by simp[eD h2])]at hk;cases hk
 |recv c' ok z k' g h1 h2=>rw[offersAt_parked_recv']at hk;cases hk
 |send c' v k' g z h1=>
  rw[offersAt_parked_send]at hk;split at hk
  grind
  cases hk
end Go.Co
namespace Go.Co
open Go Go.Conc
open Go.ConcN (sumTo upd upd_same upd_ne)
variable {P:Program} {aa:Machine->Trace->Prop} {Cs:Nat->Prop} {N:Net} {γ:Nat->So} {rk:Nat->Tr} {tp:Nat} {gs:Array Goroutine} {w:World} {t:Trace}
theorem ofEvents_none(g:Nat)(fn:FuncId)(pos:String):MemOp.ofEvents g fn pos #[]=#[]:=rfl
theorem xE{g g0:Goroutine}{cs iZ:Array CommCase}{sh sh':CommShape}(h:parked g cs sh=parked g0 iZ sh')(v:Value):Conc.served g v=Conc.served g0 v:=by
 have:Conc.served (parked g cs sh) v=Conc.served (parked g0 iZ sh') v:=by rw[h]
 exact this
theorem Ax{g g0:Goroutine}{cs iZ:Array CommCase}{sh sh':CommShape}(h:parked g cs sh=parked g0 iZ sh'):g.frame=g0.frame/\g.callers=g0.callers/\g.dying=g0.dying/\cs=iZ/\sh=sh':=by have:=congrArg (λ(x:Goroutine)=>(x.frame,x.callers,x.dying,x.offers)) h;simp[parked]at this;exact⟨this.1,this.2.1,this.2.2.1,this.2.2.2.1,this.2.2.2.2⟩
theorem sO{g:Goroutine}(h:Fr g)(v:Value):Fr (Conc.served g v):=eS h v
theorem XQ(h:yJ P aa Cs N γ rk tp gs w t)(hno:∀j,j<N.n->N.pr j≠.ret/\N.pr j≠.bad){i c:Nat}{v:Value}{k:Pc}{g:Goroutine}{d:Nat}{sl:Option (Nat×Nat)}(hi:gs[i]? =some g)(hs:N.pr i=.send c v k)(xw:N.cl c=none)(rS:Cs c)
  (hat:AtSend P (i==0) c v g (w.at d)) (hk:∀w1,jv (γ i) (w.at d) w1->Pr P aa (i==0) k (γ i) (Conc.served g undef) w1)
  (DI:∀j ok z kr,j<N.n->N.pr j=.recv c ok z kr->DD Cs (N.meet i j k (kr (some v)))):
  (∃gs',runT P (crowd gs (w.at d) sl) i=(.next (crowd gs' (w.at d) sl),#[])/\yJ P aa Cs N γ (upd rk i .leaf) tp gs' w t)\/
  (∃N' gs' w' ops Gf,runT P (crowd gs (w.at d) sl) i=(.next (crowd gs' w' sl),ops)/\DD Cs N'/\(∃j ok z kr,j<N.n/\N.pr j=.recv c ok z kr/\N'=N.meet i j k (kr (some v)))/\yJ P aa Cs N' γ Gf tp gs' w' (t++ops)):=by
 obtain⟨hr,z,hst⟩:=hat;have oK:i<N.n:=by rw[<-h.size];exact(aN.1 hi).1
 have hlt:i<gs.size:=(aN.1 hi).1;obtain⟨⟨s,tm,hc⟩,-⟩:=h.chan c rS;rw[xw]at hc;have hc':(w.at d).heap[c]? =some (.chan 0 #[] false s s tm):=hc;by_cases hne:partners (gs.setIfInBounds i ph) c false=[];left;refine⟨gs.setIfInBounds i (parked (core g) #[scase c v z] .send),?_,?_⟩;have:=crowd_waits (P:=P) (sl:=sl) hi hst (λcc hcc=>by simp only[fq,bV]at hcc;subst hcc;exact ways_send_none hc' ae hne);rw[this,ofEvents_none];refine Lx h hi rfl rfl rfl ?_ (λc' ok' z' k' e=>by rw[hs]at e;cases e) λj x c' v' k' ok' z' ZQ hj hx hb=>⟨λe1 e2=>?_,λe1 e2=>by rw[hs]at e2;cases e2⟩;rw[hs];exact .send c v k (core g) z λw1 h1=>hk w1 h1;rw[hs]at e1;cases e1;have hm:=h.mem j x hx;rw[e2]at hm;generalize rk j=rj at hm;cases hm with
 |run p r g h1 h2=>rw[eD h2]at hb;cases hb
 |recv _ _ _ _ g h1 h2=>have:(j,0)∈partners (gs.setIfInBounds i ph) c false:=mem_partners.2 ⟨_,stand_get hj hx,by rw[offersAt_parked_recv];simp⟩;rw[hne]at this;cases this
 right;obtain⟨j,gj,zj,shj,d2,jy,ZY,hrun⟩:=crowd_send_meets_some (P:=P) (sl:=sl) hi hst hc' hne λj k hp=>by obtain⟨h1,h2,-,g0,ok,z,kr,h3,-⟩:=Au h hp;exact⟨h1,h2,g0,z,_,h3⟩
 have hp:(j,0)∈partners (gs.setIfInBounds i ph) c false:=mem_partners.2 ⟨_,stand_get jy ZY,by rw[offersAt_parked_recv];simp⟩;obtain⟨-,-,oR,g0,ok,z0,kr,h3,h4,h5⟩:=Au h hp;rw[ZY]at h3;have h3:=cT h3;obtain⟨Nr,UW,hf3,-,hsh⟩:=Ax h3;have hzz:Conc.served gj (recvd ok v true)=Conc.served g0 (recvd ok v true):=xE h3 _;subst hsh;rw[finishComm_recv,finishComm_send,hzz,ofEvents_none]at hrun;have hw:=DI j ok z0 kr oR h4;obtain⟨Gf,rI⟩:=Lu (gs':=(gs.setIfInBounds j (Conc.served g0 (recvd ok v true))).setIfInBounds i (Conc.served (core g) undef)) (d:=d2) (tm:=tm) (s:=s) (f:=(core g).frame.fn) (p:=(core g).frame.place) (f':=gj.frame.fn) (p':=gj.frame.place) h hno (Ne.symm jy) oK oR rS hs h4 xw ae (gi:=Conc.served (core g) undef) (gj:=Conc.served g0 (recvd ok v true))
  (by simp[hlt]) (by
   rw[gl (Ne.symm jy)];have:j<gs.size:=by rw[h.size];exact oR
   simp[this]) (λy h1 h2=>by rw[gl (Ne.symm h1),gl (Ne.symm h2)]) rfl rfl (λw1 h1=>hk w1 h1) (λw1 h1=>h5 (some v) w1 h1) (λx hx=>by
   rcases dQ hx with ⟨h1,rfl⟩|⟨h1,kG⟩;subst h1;exact sO (h.frames g hi) undef;rcases dQ kG with ⟨h2,rfl⟩|⟨h2,H9⟩;subst h2;rw[<-hzz];exact sO (h.frames _ ZY) _;exact h.frames x H9) hw
 refine⟨_,_,_,_,Gf,hrun,hw,⟨j,ok,z0,kr,oR,h4,rfl⟩,?_⟩;rw[Array.empty_append];exact rI
end Go.Co
namespace Go.Co
open Go Go.Conc
open Go.ConcN (sumTo upd upd_same upd_ne)
variable {P:Program} {aa:Machine->Trace->Prop} {Cs:Nat->Prop} {N:Net} {γ:Nat->So} {rk:Nat->Tr} {tp:Nat} {gs:Array Goroutine} {w:World} {t:Trace}
theorem XR(h:yJ P aa Cs N γ rk tp gs w t)(hno:∀j,j<N.n->N.pr j≠.ret/\N.pr j≠.bad){i c:Nat}{ok:Bool}{z:Value}{kr:Option Value->Pc}{g:Goroutine}{d:Nat}{sl:Option (Nat×Nat)}(hi:gs[i]? =some g)(hs:N.pr i=.recv c ok z kr)(xw:N.cl c=none)(rS:Cs c)
  (hat:AtRecv P (i==0) c ok z g (w.at d)) (ajL:∀w1,jv (γ i) w w1->AtRecv P (i==0) c ok z g w1) (hk:∀x w1,jv (γ i) w w1->Pr P aa (i==0) (kr x) (γ i) (Conc.served g (recvd ok (x.getD z) x.isSome)) w1)
  (DI:∀j v k,j<N.n->N.pr j=.send c v k->DD Cs (N.meet j i k (kr (some v)))):
  (∃gs',runT P (crowd gs (w.at d) sl) i=(.next (crowd gs' (w.at d) sl),#[])/\yJ P aa Cs N γ (upd rk i .leaf) tp gs' w t)\/
  (∃N' gs' w' ops Gf,runT P (crowd gs (w.at d) sl) i=(.next (crowd gs' w' sl),ops)/\DD Cs N'/\(∃j v k,j<N.n/\N.pr j=.send c v k/\N'=N.meet j i k (kr (some v)))/\yJ P aa Cs N' γ Gf tp gs' w' (t++ops)):=by
 obtain⟨hr,hst⟩:=hat;have oK:i<N.n:=by rw[<-h.size];exact(aN.1 hi).1
 have hlt:i<gs.size:=(aN.1 hi).1;obtain⟨⟨s,tm,hc⟩,-⟩:=h.chan c rS;rw[xw]at hc;have hc':(w.at d).heap[c]? =some (.chan 0 #[] false s s tm):=hc;by_cases hne:partners (gs.setIfInBounds i ph) c true=[];left;refine⟨gs.setIfInBounds i (parked (core g) #[rcase c z] (.recv ok)),?_,?_⟩;have:=crowd_waits (P:=P) (sl:=sl) hi hst (λcc hcc=>by simp only[fq,bV]at hcc;subst hcc;exact ways_recv_none hc' hne);rw[this,ofEvents_none];refine Lx h hi rfl rfl rfl ?_ (λc' ok' z' k' e=>by rw[hs]at e;cases e;exact xw) λj x c' v' k' ok' z' ZQ hj hx hb=>⟨λe1 e2=>(by rw[hs]at e1;cases e1),λe1 e2=>?_⟩;rw[hs];exact .recv c ok z kr (core g) (λw1 h1=>⟨rfl,by have e:stepG P (i==0) (core g) w1=stepG P (i==0) g w1:=stepG_same rfl rfl rfl w1;show stepG P (i==0) (core g) w1=_;rw[e];exact(ajL w1 h1).2⟩) λx w1 h1=>hk x w1 h1;rw[hs]at e2;cases e2;have hm:=h.mem j x hx;rw[e1]at hm;generalize rk j=rj at hm;cases hm with
 |run p r g h1 h2=>rw[eD h2]at hb;cases hb
 |send _ _ _ g _ h1=>have:(j,0)∈partners (gs.setIfInBounds i ph) c true:=mem_partners.2 ⟨_,stand_get hj hx,by rw[offersAt_parked_send];simp⟩;rw[hne]at this;cases this
 right;obtain⟨j,gj,vj,zj,shj,d2,jy,ZY,hrun⟩:=crowd_recv_meets_some (P:=P) (sl:=sl) hi hst hc' hne λj k hp=>by obtain⟨h1,h2,-,g0,v,z,kr,h3,-⟩:=ud h hp;exact⟨h1,h2,g0,v,z,_,h3⟩
 have hp:(j,0)∈partners (gs.setIfInBounds i ph) c true:=mem_partners.2 ⟨_,stand_get jy ZY,by rw[offersAt_parked_send];simp⟩;obtain⟨-,-,oR,g0,v,z0,k,h3,h4,h5⟩:=ud h hp;rw[ZY]at h3;have h3:=cT h3;obtain⟨Nr,UW,hf3,hcc,hsh⟩:=Ax h3;have hv:vj=v:=by simp[scase]at hcc;exact hcc.1
 subst hv;have hzz:Conc.served gj undef=Conc.served g0 undef:=xE h3 _;subst hsh;rw[finishComm_send,finishComm_recv,hzz,ofEvents_none]at hrun;have hw:=DI j vj k oR h4;obtain⟨Gf,rI⟩:=Lu (gs':=(gs.setIfInBounds j (Conc.served g0 undef)).setIfInBounds i (Conc.served (core g) (recvd ok vj true))) (d:=d2) (tm:=tm) (s:=s) (f':=(core g).frame.fn) (p':=(core g).frame.place) (f:=gj.frame.fn) (p:=gj.frame.place) h hno jy oR oK rS h4 hs xw ae (gj:=Conc.served (core g) (recvd ok vj true)) (gi:=Conc.served g0 undef)
  (by
   rw[gl (Ne.symm jy)];have:j<gs.size:=by rw[h.size];exact oR
   simp[this]) (by simp[hlt]) (λy h1 h2=>by rw[gl (Ne.symm h2),gl (Ne.symm h1)]) rfl rfl (λw1 h1=>h5 w1 h1) (λw1 h1=>hk (some vj) w1 h1) (λx hx=>by
   rcases dQ hx with ⟨h1,rfl⟩|⟨h1,kG⟩;subst h1;exact sO (h.frames g hi) _;rcases dQ kG with ⟨h2,rfl⟩|⟨h2,H9⟩;subst h2;rw[<-hzz];exact sO (h.frames _ ZY) _;exact h.frames x H9) hw
 refine⟨_,_,_,_,Gf,hrun,hw,⟨j,vj,k,oR,h4,rfl⟩,?_⟩;rw[Array.empty_append];exact rI
end Go.Co
namespace Go.Co
open Go Go.Conc
open Go.ConcN (sumTo upd upd_same upd_ne)
variable {P:Program} {aa:Machine->Trace->Prop} {Cs:Nat->Prop} {N:Net} {γ:Nat->So} {rk:Nat->Tr} {tp:Nat} {gs:Array Goroutine} {w:World} {t:Trace}
theorem XS(h:yJ P aa Cs N γ rk tp gs w t)(hsend:∀i c v k,i<N.n->N.pr i=.send c v k->N.cl c=none/\Cs c){i c:Nat}{ok:Bool}{z:Value}{kr:Option Value->Pc}{E:Nat->Prop}{g:Goroutine}{d:Nat}{sl:Option (Nat×Nat)}(hi:gs[i]? =some g)(hs:N.pr i=.recv c ok z kr)(sV:N.cl c=some E)(rS:Cs c)
  (hat:AtRecv P (i==0) c ok z g (w.at d)) (hk:∀x w1,jv (γ i) w w1->Pr P aa (i==0) (kr x) (γ i) (Conc.served g (recvd ok (x.getD z) x.isSome)) w1)
  (DI:DD Cs (N.hear i (kr none) E)):
  ∃gs' ops Gf,runT P (crowd gs (w.at d) sl) i=(.next (crowd gs' (w.at d) sl),ops)/\yJ P aa Cs (N.hear i (kr none) E) γ Gf tp gs' w (t++ops):=by
 obtain⟨hr,hst⟩:=hat;have oK:i<N.n:=by rw[<-h.size];exact(aN.1 hi).1
 have hlt:i<gs.size:=(aN.1 hi).1;obtain⟨⟨s,tm,hc⟩,-⟩:=h.chan c rS;rw[sV]at hc;have hc':(w.at d).heap[c]? =some (.chan 0 #[] true s s tm):=hc;have ZV:partners (gs.setIfInBounds i ph) c true=[]:=by
  cases hp:partners (gs.setIfInBounds i ph) c true with
  |nil=>rfl
  |cons x l=>obtain⟨j,k⟩:=x;obtain⟨-,-,oR,g0,v,z0,k',-,h4,-⟩:=ud h (i:=i) (c:=c) (j:=j) (k:=k) (by rw[hp];simp);rw[(hsend j c v k' oR h4).1]at sV;cases sV
 have hrun:=crowd_recv_closed (P:=P) (sl:=sl) hi hst hc' ZV;rw[finishComm_recv,ofEvents_none,Array.empty_append]at hrun;obtain⟨B6,CU⟩:=IE DI;have uF:∀y,y≠i->(N.hear i (kr none) E).pr y=N.pr y:=λy h1=>upd_ne _ _ h1;have Gi:(N.hear i (kr none) E).pr i=kr none:=upd_same _ _ _;have C5:N.pr i≠.stop:=by rw[hs];simp
 obtain⟨ri,hmi⟩:=pN (P:=P) (aa:=aa) (j:=i) (γ:=γ i) (w:=w) (p:=kr none) (g:=Conc.served (core g) (recvd ok z false)) rfl (by rw[<-Gi];exact CU i oK) (λe h0=>B6 (by rw[<-h0,Gi,e])) (hk none w (iV _ _));have CI:nV #[({g:=i,fn:=(core g).frame.fn,pos:=(core g).frame.place,act:=.recvClosed c}:MemOp)]:=by intro op hop m;simp only[fq,bV]at hop;subst hop;simp
 refine⟨_,_,upd rk i ri,hrun,(by rw[wG];exact h.size),h.pos,λy x hx=>?_,h.ti.hear oK hs sV _ _,h.chan,λy c' ok' z' k' x hx hb hp=>?_,λy y' c' v' k' ok' z' ZQ x x' hx kG hb uj hp uh=>?_,λx hx=>?_⟩;rcases dQ hx with ⟨rfl,rfl⟩|⟨hy,kG⟩;rw[upd_same,Gi,dY CI,h.ti.hears y (.inl C5)];exact hmi;rw[upd_ne _ _ hy,uF y hy,dY CI];exact h.mem y x kG;rcases dQ hx with ⟨rfl,rfl⟩|⟨hy,kG⟩;cases hb;rw[uF y hy]at hp;exact h.open_ y c' ok' z' k' x kG hb hp;rcases dQ hx with ⟨rfl,rfl⟩|⟨hy,Gg⟩;cases hb;rcases dQ kG with ⟨rfl,rfl⟩|⟨hy',H9⟩;cases uj;rw[uF y hy]at hp;rw[uF y' hy']at uh;exact h.apart y y' c' v' k' ok' z' ZQ x x' Gg H9 hb uj hp uh;rcases dQ hx with ⟨h1,rfl⟩|⟨h1,kG⟩;subst h1;exact sO (h.frames g hi) _;exact h.frames x kG
end Go.Co
namespace Go.Co
open Go Go.Conc
open Go.ConcN (sumTo upd upd_same upd_ne)
variable {P:Program} {aa:Machine->Trace->Prop} {Cs:Nat->Prop} {N:Net} {γ:Nat->So} {rk:Nat->Tr} {tp:Nat} {gs:Array Goroutine} {w:World} {t:Trace}
theorem SM(hP:Plain P)(h:yJ P aa Cs N γ rk tp gs w t){i:Nat}{ch k:Pc}{g g' x0:Goroutine}{d:Nat}{sl:Option (Nat×Nat)}(hi:gs[i]? =some g)(hs:N.pr i=.go ch k)
  (hst:stepG P (i==0) g (w.at d)=.spawn g' x0 (w.at d)) (Gh:g'.status=.running) (Uv:x0.status=.running)
  (hch:∀w1,jv (γ i).give (w.at d) w1->Pr P aa false ch (γ i).give x0 w1) (hk:∀w1,jv (γ i).give (w.at d) w1->Pr P aa (i==0) k (γ i).give g' w1)
  (DI:DD Cs (N.start i ch k)):
  ∃gs' ops Gf,runT P (crowd gs (w.at d) sl) i=(.next (crowd gs' (w.at d) sl),ops)/\yJ P aa Cs (N.start i ch k) (upd (upd γ i (γ i).give) N.n (γ i).give) Gf tp gs' w (t++ops):=by
 have hlt:i<gs.size:=(aN.1 hi).1;have oK:i<N.n:=by rw[<-h.size];exact hlt
 have hrun:=runT_crowd_spawn (P:=P) (sl:=sl) hi hst;have aat:i≠N.n:=ab
 have yK:N.n≠0:=ab
 have e:(((MemOp.ofEvents i g.frame.fn g.frame.place #[]).push {g:=i,fn:=g.frame.fn,pos:=g.frame.place,act:=.go gs.size}).push {g:=gs.size,fn:=x0.frame.fn,pos:=g.frame.place,act:=.start})=uY i N.n g.frame.fn x0.frame.fn g.frame.place g.frame.place:=by rw[ofEvents_none,h.size];rfl
 rw[e]at hrun;obtain⟨B6,CU⟩:=IE DI;have uF:∀y,y≠i->y≠N.n->(N.start i ch k).pr y=N.pr y:=λy h1 h2=>by show upd (upd N.pr i k) N.n ch y=_;rw[upd_ne _ _ h2,upd_ne _ _ h1]
 have hpn:(N.start i ch k).pr N.n=ch:=upd_same _ _ _;have Gi:(N.start i ch k).pr i=k:=by show upd (upd N.pr i k) N.n ch i=_;rw[upd_ne _ _ aat,upd_same]
 have C5:N.pr i≠.stop:=by rw[hs];simp
 have back:jv (γ i).give (w.at d) w:=⟨ak _,λ_ _=>rfl,rfl,rfl,rfl⟩;obtain⟨ri,hmi⟩:=pN (j:=i) Gh (by rw[<-Gi];exact CU i (rq oK)) (λe h0=>B6 (by rw[<-h0,Gi,e])) (hk w back);obtain⟨rn,hmn⟩:=pN (P:=P) (aa:=aa) (j:=N.n) (γ:=(γ i).give) (w:=w) (p:=ch) (g:=x0) Uv (by rw[<-hpn];exact CU N.n (wB _)) (λ_=>yK) (by rw[show(N.n==0)=false by simpa using yK];exact hch w back);have hti:=h.ti.start oK hs g.frame.fn x0.frame.fn g.frame.place g.frame.place;have CI:=yA i N.n g.frame.fn x0.frame.fn g.frame.place g.frame.place;have bz:∀(y:Nat)(x:Goroutine),((gs.setIfInBounds i g').push x0)[y]? =some x->(y=N.n/\x=x0)\/(y=i/\x=g')\/(y≠i/\y≠N.n/\gs[y]? =some x):=by
  intro y x hx;rw[Array.getElem?_push]at hx;split at hx;rename_i hy;rw[wG,h.size]at hy;exact .inl ⟨hy,(cT hx).symm⟩;rename_i hy;rw[wG,h.size]at hy;rcases dQ hx with ⟨h1,h2⟩|⟨h1,h2⟩
  grind
  grind
 refine⟨_,_,upd (upd rk i ri) N.n rn,hrun,?_,Nat.succ_pos _,λy x hx=>?_,hti,λc hc=>?_,λy c' ok' z' k' x hx hb hp=>?_,λy y' c' v' k' ok' z' ZQ x x' hx kG hb uj hp uh=>?_,λx hx=>?_⟩;rw[Array.size_push,wG,h.size];rfl
 rcases bz y x hx with ⟨rfl,rfl⟩|⟨rfl,rfl⟩|⟨h1,h2,kG⟩;rw[upd_same,upd_same,hpn,dY CI,h.ti.hears N.n (.inr (ak _))];exact hmn;rw[upd_ne _ _ aat,upd_same,upd_ne _ _ aat,upd_same,Gi,dY CI,h.ti.hears y (.inl C5)];exact hmi;rw[upd_ne _ _ h2,upd_ne _ _ h1,upd_ne _ _ h2,upd_ne _ _ h1,uF y h1 h2,dY CI];exact h.mem y x kG;obtain⟨h3,h4⟩:=h.chan c hc;refine⟨h3,λy=>?_⟩;have hgv:¬((γ i).give).1 c/\¬((γ i).give).2 c:=⟨λhx=>hx.elim (h4 i).1 (h4 i).2,λhx=>hx⟩;by_cases h2:y=N.n;rw[h2,upd_same];exact hgv
 by_cases h1:y=i;rw[h1,upd_ne _ _ aat,upd_same];exact hgv
 rw[upd_ne _ _ h2,upd_ne _ _ h1];exact h4 y
 rcases bz y x hx with ⟨rfl,rfl⟩|⟨rfl,rfl⟩|⟨h1,h2,kG⟩
 grind
 grind
 rw[uF y h1 h2]at hp;exact h.open_ y c' ok' z' k' x kG hb hp;rcases bz y x hx with ⟨rfl,rfl⟩|⟨rfl,rfl⟩|⟨h1,h2,Gg⟩
 grind
 grind
 rcases bz y' x' kG with ⟨rfl,rfl⟩|⟨rfl,rfl⟩|⟨AP,Z5,H9⟩
 grind
 grind
 rw[uF y h1 h2]at hp;rw[uF y' AP Z5]at uh;exact h.apart y y' c' v' k' ok' z' ZQ x x' Gg H9 hb uj hp uh;rcases bz 0 x hx with ⟨h1,-⟩|⟨h1,rfl⟩|⟨_,_,kG⟩
 grind
 have h1:i=0:=h1.symm;subst h1;have kB:=sA (b:=False) hP true g (h.frames g hi) (w.at d);rw[show stepG P true g (w.at d)=_ from hst]at kB;exact kB.2;exact h.frames x kG
end Go.Co
namespace Go.Co
open Go Go.Conc
open Go.ConcN (sumTo upd upd_same upd_ne)
variable {P:Program} {aa:Machine->Trace->Prop} {Cs:Nat->Prop} {N:Net} {γ:Nat->So} {rk:Nat->Tr} {tp:Nat} {gs:Array Goroutine} {w:World} {t:Trace}
theorem Su{a a':Goroutine}{w':World}{o:Goroutine}(hm:mayWake P a=true)(hr:a'.status=.running):Conc.woken P a a' w' o=o.again w':=by unfold Conc.woken;simp[hm,hr]
theorem Mem.shut {j d dd:Nat}{γ:So}{w:World}{p:Pc}{r:Tr}{g:Goroutine}{c s:Nat}{tm:Bool}{a a':Goroutine}(h:Mem P aa j d γ w p r g)(hp:p≠.ret)(hm:mayWake P a=true)(hr:a'.status=.running)
  (hcw:∃x,w.heap[c]? =some x) (hrel:jv γ w ((w.at dd).setChan c 0 #[] true s s tm))
  (hsend:∀c' v k,p=.send c' v k->c'≠c/\∃s tm,w.heap[c']? =some (.chan 0 #[] false s s tm))
  (hrecv:∀c' ok z k,p=.recv c' ok z k->g.status=.blocked->∃s tm,w.heap[c']? =some (.chan 0 #[] false s s tm)):
  ∃r',Mem P aa j d γ ((w.at dd).setChan c 0 #[] true s s tm) p r' (Conc.woken P a a' ((w.at dd).setChan c 0 #[] true s s tm) g)/\
   (∀c' ok z k,p=.recv c' ok z k->(Conc.woken P a a' ((w.at dd).setChan c 0 #[] true s s tm) g).status=.blocked->g.status=.blocked/\c'≠c)/\
   ((Conc.woken P a a' ((w.at dd).setChan c 0 #[] true s s tm) g).status=.blocked->g.status=.blocked)/\(Conc.woken P a a' ((w.at dd).setChan c 0 #[] true s s tm) g).frame=g.frame/\(Conc.woken P a a' ((w.at dd).setChan c 0 #[] true s s tm) g).callers=g.callers/\(Conc.woken P a a' ((w.at dd).setChan c 0 #[] true s s tm) g).dying=g.dying:=by
 obtain⟨x,hx⟩:=hcw;have hlt:c<w.heap.size:=(aN.1 hx).1;have rM:∀c',c'≠c->((w.at dd).setChan c 0 #[] true s s tm).heap[c']? =w.heap[c']? :=λc' hc'=>by simp only[World.setChan,World.at];rw[gl (Ne.symm hc')]
 have ahX:((w.at dd).setChan c 0 #[] true s s tm).heap[c]? =some (Obj.chan 0 #[] true s s tm):=by simp[World.setChan,World.at,hlt]
 have h':=h.rely hp hrel;cases h with
 |stop n g h1 h2=>rw[woken_quitsD h2];exact⟨_,h',λ_ _ _ _ e=>ar,id,rfl,rfl,rfl⟩
 |ret r g h1 h2 h3=>exact absurd rfl hp
 |run p r g h1 h2=>have hgr:=eD h2;rw[woken_run hgr];exact⟨_,h',λ_ _ _ _ _ hb=>(by rw[hgr]at hb;cases hb),id,rfl,rfl,rfl⟩
 |send c' v k g z h1=>obtain⟨hne,s',tm',h2⟩:=hsend c' v k rfl;rw[woken_send_open a a' ((rM c' hne).trans h2)];exact⟨_,h',λ_ _ _ _ e=>ar,id,rfl,rfl,rfl⟩
 |recv c' ok z k g h1 h2=>by_cases hcc:c'=c;subst hcc;rw[Su hm hr,again_recv_closed ahX];refine⟨_,.run (.recv c' ok z k) .leaf _ ⟨ae,ae,ae⟩ (λw1 h3=>⟨⟨rfl,?_⟩,λx w2 h4=>?_⟩),λ_ _ _ _ _ hb=>(by cases hb),λhb=>(by cases hb),rfl,rfl,rfl⟩;have:=(h1 w1 (iI hrel h3)).2;have e:stepG P (j==0) {parked g #[rcase c' z] (.recv ok)with status:=.running} w1=stepG P (j==0) (core g) w1:=stepG_same rfl rfl rfl w1;rw[e];exact this;exact h2 x w2 (iI (iI hrel h3) h4);obtain⟨s',tm',h3⟩:=hrecv c' ok z k rfl rfl;rw[woken_recv_open a a' ((rM c' hcc).trans h3)];exact⟨_,h',λ_ _ _ _ e _=>(by cases e;exact⟨rfl,hcc⟩),id,rfl,rfl,rfl⟩
end Go.Co
namespace Go.Co
open Go Go.Conc
open Go.ConcN (sumTo upd upd_same upd_ne)
variable {P:Program} {aa:Machine->Trace->Prop} {Cs:Nat->Prop} {N:Net} {γ:Nat->So} {rk:Nat->Tr} {tp:Nat} {gs:Array Goroutine} {w:World} {t:Trace}
open Classical in
theorem XP(hP:Plain P)(h:yJ P aa Cs N γ rk tp gs w t)(hno:∀j,j<N.n->N.pr j≠.ret/\N.pr j≠.bad)(hsend:∀i c v k,i<N.n->N.pr i=.send c v k->N.cl c=none/\Cs c)(hrecv:∀j c ok z k,j<N.n->N.pr j=.recv c ok z k->Cs c)
  {i c:Nat} {k:Pc} {g g':Goroutine} {d:Nat} {sl:Option (Nat×Nat)} (hi:gs[i]? =some g) (hs:N.pr i=.close c k) (xw:N.cl c=none) (rS:Cs c) (hmw:mayWake P g=true) (Gh:g'.status=.running)
  (hst:∀s r tm,(w.at d).heap[c]? =some (.chan 0 #[] false s r tm)->stepG P (i==0) g (w.at d)=.go g' ((w.at d).setChan c 0 #[] true s r tm) (closeEvents c))
  (hk:∀w1,jv (γ i) w w1->Pr P aa (i==0) k (γ i) g' w1) (Ib:∀j v k',j<N.n->N.pr j≠.send c v k') (DI:DD Cs (N.shut i c k)):
  ∃gs' w' ops Gf,runT P (crowd gs (w.at d) sl) i=(.next (crowd gs' w' sl),ops)/\yJ P aa Cs (N.shut i c k) γ Gf tp gs' w' (t++ops):=by
 have hlt:i<gs.size:=(aN.1 hi).1;have oK:i<N.n:=by rw[<-h.size];exact hlt
 obtain⟨⟨s,tm,hc⟩,FM⟩:=h.chan c rS;rw[xw]at hc;have hst:=hst s s tm hc;have hrun:=runT_crowd_go (P:=P) (sl:=sl) hi hst;obtain⟨B6,CU⟩:=IE DI;have uF:∀y,y≠i->(N.shut i c k).pr y=N.pr y:=λy h1=>upd_ne _ _ h1;have Gi:(N.shut i c k).pr i=k:=upd_same _ _ _;have C5:N.pr i≠.stop:=by rw[hs];simp
 have hrel:∀y,jv (γ y) w ((w.at d).setChan c 0 #[] true s s tm):=λy=>Cn (FM y) _ _ _ _ _ _ _ _;have hu:∀op∈MemOp.ofEvents i g.frame.fn g.frame.place (closeEvents c),op.g=i:=λop hop=>by rw[ofEvents_eq]at hop;obtain⟨e,_,rfl⟩:=gP.1 hop;rfl
 obtain⟨ri,hmi⟩:=pN (P:=P) (aa:=aa) (j:=i) (γ:=γ i) (w:=(w.at d).setChan c 0 #[] true s s tm) (p:=k) (g:=g') Gh (by rw[<-Gi];exact CU i oK) (λe h0=>B6 (by rw[<-h0,Gi,e])) (hk _ (hrel i));have gd:∀(y:Nat)(x:Goroutine),y≠i->gs[y]? =some x->_:=λy x hy hx=>(h.mem y x hx).shut (a:=g) (a':=g') (c:=c) (s:=s) (tm:=tm) (dd:=d) (hno y (by rw[<-h.size];exact(aN.1 hx).1)).1 hmw Gh ⟨_,hc⟩ (hrel y)
  (λc' v k' e=>by
   have Nl:y<N.n:=by rw[<-h.size];exact(aN.1 hx).1
   obtain⟨h1,h2⟩:=hsend y c' v k' Nl e;obtain⟨⟨s0,ZL,h3⟩,-⟩:=h.chan c' h2;rw[h1]at h3;exact⟨λe2=>Ib y v k' Nl (e2▸e),s0,ZL,h3⟩)
  (λc' ok z k' e hb=>by
   have Nl:y<N.n:=by rw[<-h.size];exact(aN.1 hx).1
   have h1:=h.open_ y c' ok z k' x hx hb e;obtain⟨⟨s0,ZL,h3⟩,-⟩:=h.chan c' (hrecv y c' ok z k' Nl e);rw[h1]at h3;exact⟨s0,ZL,h3⟩)
 have hex:∀y:Nat,∃r',∀x:Goroutine,y≠i->gs[y]? =some x->Mem P aa y (Deaf t y) (γ y) ((w.at d).setChan c 0 #[] true s s tm) (N.pr y) r' (Conc.woken P g g' ((w.at d).setChan c 0 #[] true s s tm) x):=by intro y;by_cases hy:y≠i/\∃x,gs[y]? =some x;obtain⟨hy,x,hx⟩:=hy;obtain⟨r',h1,-⟩:=gd y x hy hx;exact⟨r',λx' _ kG=>by rw[hx]at kG;cases kG;exact h1⟩;exact⟨.leaf,λx h1 h2=>absurd ⟨h1,x,h2⟩ hy⟩
 have bz:∀(y:Nat)(x:Goroutine),((gs.map (Conc.woken P g g' ((w.at d).setChan c 0 #[] true s s tm))).setIfInBounds i g')[y]? =some x->(y=i/\x=g')\/(y≠i/\∃x0,gs[y]? =some x0/\x=Conc.woken P g g' ((w.at d).setChan c 0 #[] true s s tm) x0):=by grind
 have B4:((w.at d).setChan c 0 #[] true s s tm).heap.size=w.heap.size:=by simp[World.setChan,World.at]
 refine⟨_,_,_,upd (λy=>Classical.choose (hex y)) i ri,hrun,(by rw[wG,Array.size_map];exact h.size),h.pos,λy x hx=>?_,(by rw[B4];exact h.ti.shut oK hs _ _),λc' hc'=>?_,λy c' ok' z' k' x hx hb hp=>?_,λy y' c' v' k' ok' z' ZQ x x' hx kG hb uj hp uh=>?_,λx hx=>?_⟩;rcases bz y x hx with ⟨rfl,rfl⟩|⟨hy,x0,Ko,rfl⟩;rw[upd_same,Gi,Deaf_own,h.ti.hears y (.inl C5)];exact hmi;rw[upd_ne _ _ hy,uF y hy,Deaf_other t (Ne.symm hy) _ hu];exact wF (hex y) x0 hy Ko;obtain⟨⟨s0,ZL,h3⟩,h4⟩:=h.chan c' hc';refine⟨?_,h4⟩;by_cases hcc:c'=c;subst hcc;have hl:c'<w.heap.size:=(aN.1 h3).1;refine⟨s,tm,?_⟩;show _=some (Obj.chan 0 #[] (upd N.cl c' _ c').isSome s s tm);rw[upd_same];simp[World.setChan,World.at,hl];refine⟨s0,ZL,?_⟩;show _=some (Obj.chan 0 #[] (upd N.cl c _ c').isSome s0 s0 ZL);rw[upd_ne _ _ hcc];simp only[World.setChan,World.at];rw[gl (Ne.symm hcc)];exact h3;rcases bz y x hx with ⟨rfl,rfl⟩|⟨hy,x0,Ko,rfl⟩
 grind
 rw[uF y hy]at hp;obtain⟨_,-,h2,-⟩:=gd y x0 hy Ko;obtain⟨h3,h4⟩:=h2 c' ok' z' k' hp hb;show upd N.cl c _ c'=none;rw[upd_ne _ _ h4];exact h.open_ y c' ok' z' k' x0 Ko h3 hp;rcases bz y x hx with ⟨rfl,rfl⟩|⟨hy,x0,Ko,rfl⟩
 grind
 rcases bz y' x' kG with ⟨rfl,rfl⟩|⟨hy',x1,Gg,rfl⟩
 grind
 rw[uF y hy]at hp;rw[uF y' hy']at uh;obtain⟨_,-,-,h2,-⟩:=gd y x0 hy Ko;obtain⟨_,-,-,Z5,-⟩:=gd y' x1 hy' Gg;exact h.apart y y' c' v' k' ok' z' ZQ x0 x1 Ko Gg (h2 hb) (Z5 uj) hp uh;rcases bz 0 x hx with ⟨h1,rfl⟩|⟨hy,x0,Ko,rfl⟩;have h1:i=0:=h1.symm;subst h1;have kB:=sA (b:=False) hP true g (h.frames g hi) (w.at d);rw[show stepG P true g (w.at d)=_ from hst]at kB;exact kB.2.1;obtain⟨_,-,-,-,h2,h3,h4⟩:=gd 0 x0 hy Ko;have:=h.frames x0 Ko;unfold Fr at*;rw[h2,h3,h4];exact this
end Go.Co
namespace Go.Co
open Go Go.Conc
open Go.ConcN (sumTo upd upd_same upd_ne)
variable {P:Program} {aa:Machine->Trace->Prop} {Cs:Nat->Prop}
def BX(n:Nat)(rk:Nat->Tr):List Tr:=(List.range n).map rk
theorem S5{n i:Nat}{rk:Nat->Tr}{r:Tr}(hi:i<n):BX n (upd rk i r)=(BX n rk).set i r:=by
 apply nR;intro j;unfold BX;rw[aS];by_cases hj:i=j;subst hj;simp[hi,upd_same];by_cases oR:j<n;simp[hj,oR,upd_ne _ _ (Ne.symm hj)]
 grind
theorem zY{n i:Nat}{rk:Nat->Tr}{r:Tr}(hi:i<n)(h:TLt r (rk i)):LLt (BX n (upd rk i r)) (BX n rk):=by rw[S5 hi];exact .mk _ i (rk i) r (by simp[BX,hi]) h
variable {N:Net} {γ:Nat->So} {rk:Nat->Tr} {tp:Nat} {gs:Array Goroutine} {w:World} {t:Trace}
theorem zc(h:yJ P aa Cs N γ rk tp gs w t){i:Nat}(hi:i<N.n):∃g,gs[i]? =some g:=by
 have:i<gs.size:=by rw[h.size];exact hi
 exact⟨gs[i],cD this⟩
theorem XN(h:yJ P aa Cs N γ rk tp gs w t)
  (hen:(∃i j c v k ok z k',i<N.n/\j<N.n/\N.pr i=.send c v k/\N.pr j=.recv c ok z k')\/(∃i c k,i<N.n/\N.pr i=.close c k)\/(∃j c ok z k E,j<N.n/\N.pr j=.recv c ok z k/\N.cl c=some E)\/(∃i ch k,i<N.n/\N.pr i=.go ch k)):
  ∃(i:Nat)(g:Goroutine),gs[i]? =some g/\g.status=.running:=by
 rcases hen with ⟨i,j,c,v,k,ok,z,k',hi,hj,Gi,Kr⟩|⟨i,c,k,hi,hp⟩|⟨j,c,ok,z,k,E,hj,hp,hE⟩|⟨i,ch,k,hi,hp⟩;obtain⟨g,hg⟩:=zc h hi;obtain⟨g',s4⟩:=zc h hj;have hm:=h.mem i g hg;have Ks:=h.mem j g' s4;rw[Gi]at hm;rw[Kr]at Ks;rcases hm.awake with e|e|e
 grind
 rcases Ks.awake with e'|e'|e'
 grind
 exact(h.apart i j c v k ok z k' g g' hg s4 e e' Gi Kr).elim;generalize rk j=rj at Ks;cases Ks with
 |run p r g h1 h2=>rw[eD h2]at e';cases e'
 |recv _ _ _ _ g h1 h2=>cases e'
 generalize rk i=ri at hm;cases hm with
 |run p r g h1 h2=>rw[eD h2]at e;cases e
 |send _ _ _ g _ h1=>cases e
 obtain⟨g,hg⟩:=zc h hi;have hm:=h.mem i g hg;rw[hp]at hm;generalize rk i=ri at hm;cases hm with
 |run p r g h1 h2=>exact⟨i,_,hg,eD h2⟩
 obtain⟨g,hg⟩:=zc h hj;have hm:=h.mem j g hg;rw[hp]at hm;generalize rk j=rj at hm;cases hm with
 |run p r g h1 h2=>exact⟨j,_,hg,eD h2⟩
 |recv _ _ _ _ g h1 h2=>rw[h.open_ j c ok z k _ hg rfl hp]at hE;cases hE
 obtain⟨g,hg⟩:=zc h hi;have hm:=h.mem i g hg;rw[hp]at hm;generalize rk i=ri at hm;cases hm with
 |run p r g h1 h2=>exact⟨i,_,hg,eD h2⟩
end Go.Co
