import Derived.Test.YtadeehilamokkaaGreatDoorPk23
namespace Go.Co
open Go Go.Conc
open Go.ConcN (sumTo upd upd_same upd_ne)
variable {P:Program} {aa:Machine->Trace->Prop}
def D4(P:Program)(aa:Machine->Trace->Prop)(main:Bool):Pc->So->Goroutine->World->Prop
 |.send c v k=>λγ g w=>AtSend P main c v g w/\∀w1,iV γ w w1->Pr P aa main k γ (Conc.served g undef) w1
 |.recv c ok z k=>λγ g w=>AtRecv P main c ok z g w/\∀x w1,iV γ w w1->Pr P aa main (k x) γ (Conc.served g (recvd ok (x.getD z) x.isSome)) w1
 |.close c k=>λγ g w=>g.status=.running/\mayWake P g=true/\∃g',g'.status=.running/\(∀s r tm,w.heap[c]? =some (.chan 0 #[] false s r tm)->stepG P main g w=.go g' (w.setChan c 0 #[] true s r tm) (closeEvents c))/\∀w1,iV γ w w1->Pr P aa main k γ g' w1
 |.go child k=>λγ g w=>g.status=.running/\∃g' ch,g'.status=.running/\stepG P main g w=.spawn g' ch w/\ch.status=.running/\(∀w1,iV γ.give w w1->Pr P aa false child γ.give ch w1)/\∀w1,iV γ.give w w1->Pr P aa main k γ.give g' w1
 |_=>λ_ _ _=>False
def Pc.live (p:Pc):Prop:=p≠.stop/\p≠.ret/\p≠.bad
theorem Qu{main:Bool}{p:Pc}(hp:p.live){γ:So}{g:Goroutine}{w:World}(h:Pr P aa main p γ g w):∃r,Z5 P main iV JY (D4 P aa main p) r γ g w:=by
 cases p with
 |stop=>exact absurd rfl hp.1
 |ret=>exact absurd rfl hp.2.1
 |bad=>exact absurd rfl hp.2.2
 |send c v k=>exact h
 |recv c ok z k=>exact h
 |close c k=>exact h
 |go ch k=>exact h
theorem Ju{main:Bool}{p:Pc}{γ:So}{g:Goroutine}{w:World}(h:D4 P aa main p γ g w):g.status=.running:=by
 cases p with
 |send c v k=>exact h.1.1
 |recv c ok z k=>exact h.1.1
 |close c k=>exact h.1
 |go ch k=>exact h.1
 |stop=>exact h.elim
 |ret=>exact h.elim
 |bad=>exact h.elim
theorem Au(γ:So)(w:World)(d:Nat):iV γ w (w.at d):=⟨ai _,λ_ _=>rfl,rfl,rfl,rfl⟩
theorem iy(γ:So)(w:World):iV γ w w:=X0 _ _ _
theorem dM{main:Bool}{p:Pc}{r:Tr}{γ:So}{g:Goroutine}{w:World}(h:Z5 P main iV JY (D4 P aa main p) r γ g w):g.status=.running:=by
 cases r with
 |leaf=>exact Ju (h w (iy _ _))
 |node f=>exact h.1
inductive Mem (P:Program) (aa:Machine->Trace->Prop) (j d:Nat) (γ:So) (w:World):Pc->Tr->Goroutine->Prop
 |stop (n:Nat) (g:Goroutine):j≠0->QuitsD P n d g->Mem P aa j d γ w .stop (Tr.nat n) g
 |ret (r:Tr) (g:Goroutine):g.status=.running->g.dying=none->iI P aa () g w->Mem P aa j d γ w .ret r g
 |run (p:Pc) (r:Tr) (g:Goroutine):p.live->Z5 P (j==0) iV JY (D4 P aa (j==0) p) r γ g w->Mem P aa j d γ w p r.up g
 |send (c:Nat) (v:Value) (k:Pc) (g:Goroutine) (z:Value):(∀w1,iV γ w w1->Pr P aa (j==0) k γ (Conc.served g undef) w1)->Mem P aa j d γ w (.send c v k) .leaf (parked g #[scase c v z] .send)
 |recv (c:Nat) (ok:Bool) (z:Value) (k:Option Value->Pc) (g:Goroutine):(∀w1,iV γ w w1->AtRecv P (j==0) c ok z (core g) w1)->(∀x w1,iV γ w w1->Pr P aa (j==0) (k x) γ (Conc.served g (recvd ok (x.getD z) x.isSome)) w1)->Mem P aa j d γ w (.recv c ok z k) .leaf (parked g #[rcase c z] (.recv ok))
theorem oP{j:Nat}{γ:So}{w:World}{p:Pc}{g:Goroutine}(hs:g.status=.running)(hb:p≠.bad)(h0:p=.stop->j≠0)(h:Pr P aa (j==0) p γ g w):∃r,Mem P aa j 0 γ w p r g:=by by_cases h1:p=.stop;subst h1;obtain⟨n,hn⟩:=h;exact⟨_,.stop n g (h0 rfl) hn⟩;by_cases h2:p=.ret;subst h2;exact⟨.leaf,.ret _ _ hs h.1 h.2⟩;obtain⟨r,hr⟩:=Qu ⟨h1,h2,hb⟩ h;exact⟨_,.run p r g ⟨h1,h2,hb⟩ hr⟩
structure x8 (P:Program) (aa:Machine->Trace->Prop) (Cs:Nat->Prop) (N:Net) (γ:Nat->So) (rk:Nat->Tr) (tp:Nat) (gs:Array Goroutine) (w:World) (t:Trace):Prop where
 size:gs.size=N.n
 pos:0<N.n
 mem:∀j g,gs[j]? =some g->Mem P aa j (Deaf t j) (γ j) w (N.pr j) (rk j) g
 ti:TI N γ w.heap.size tp t
 chan:∀c,Cs c->(∃s tm,w.heap[c]? =some (.chan 0 #[] (N.cl c).isSome s s tm))/\∀j,¬(γ j).1 c/\¬(γ j).2 c
 open_:∀j c ok z k g,gs[j]? =some g->g.status=.blocked->N.pr j=.recv c ok z k->N.cl c=none
 apart:∀i j c v k ok z k' g g',gs[i]? =some g->gs[j]? =some g'->g.status=.blocked->g'.status=.blocked->N.pr i=.send c v k->N.pr j=.recv c ok z k'->False
 frames:∀g,gs[0]? =some g->Fr g
theorem Mem.rely {j d:Nat}{γ:So}{w w1:World}{p:Pc}{r:Tr}{g:Goroutine}(hp:p≠.ret)(h:Mem P aa j d γ w p r g)(hr:iV γ w w1):Mem P aa j d γ w1 p r g:=by
 cases h with
 |stop n g h1 h2=>exact .stop n g h1 h2
 |ret r g h1 h2 h3=>exact absurd rfl hp
 |run p r g h1 h2=>exact .run p r g h1 (Ew Gh h2 hr)
 |send c v k g z h1=>exact .send c v k g z λw2 h2=>h1 w2 (gU hr h2)
 |recv c ok z k g h1 h2=>exact .recv c ok z k g (λw2 h3=>h1 w2 (gU hr h3)) λx w2 h3=>h2 x w2 (gU hr h3)
theorem Mk{N:Net}{γ:Nat->So}{tp:Nat}{t:Trace}{w w':World}{i j:Nat}(h:TI N γ w.heap.size tp t)(Rz:j≠i){O':Nat->Prop}{es:Array Event}(hs:Sto (γ i).1 (γ i).2 w O' w' es):iV (γ j) w w':=by
 obtain⟨-,h2,h3,h4,h5,h6,-⟩:=hs;refine⟨h2,λb hb=>h3 b (h.H6 j b hb) λhO=>?_,h4,h5,h6⟩;have:=h.yh i j b hO;rcases hb with hb|hb
 grind
 grind
theorem Mem.awake {j d:Nat}{γ:So}{w:World}{p:Pc}{r:Tr}{g:Goroutine}(h:Mem P aa j d γ w p r g):g.status=.running\/g.status=.blocked\/g.status=.finished:=by
 cases h with
 |stop n g h1 h2=>exact h2.status.imp id .inr
 |ret r g h1 h2 h3=>exact .inl h1
 |run p r g h1 h2=>exact .inl (dM h2)
 |send c v k g z h1=>exact .inr (.inl rfl)
 |recv c ok z k g h1 h2=>exact .inr (.inl rfl)
theorem Mem.woken {j d:Nat}{γ:So}{w w':World}{p:Pc}{r:Tr}{g:Goroutine}(h:Mem P aa j d γ w p r g)(hc:∀c,(∃v k,p=.send c v k)\/(∃ok z k,p=.recv c ok z k)->g.status=.blocked->∃s tm,w'.heap[c]? =some (.chan 0 #[] false s s tm))(a a':Goroutine):Conc.woken P a a' w' g=g:=by
 cases h with
 |stop n g h1 h2=>exact woken_quitsD h2
 |ret r g h1 h2 h3=>exact woken_run h1
 |run p r g h1 h2=>exact woken_run (dM h2)
 |send c v k g z h1=>obtain⟨s,tm,h⟩:=hc c (.inl ⟨v,k,rfl⟩) rfl;exact woken_send_open a a' h
 |recv c ok z k g h1 h2=>obtain⟨s,tm,h⟩:=hc c (.inr ⟨ok,z,k,rfl⟩) rfl;exact woken_recv_open a a' h
open Classical in
theorem YB{Cs:Nat->Prop}{N:Net}{γ:Nat->So}{rk:Nat->Tr}{tp:Nat}{gs:Array Goroutine}{w:World}{sl:Option (Nat×Nat)}{t:Trace}(h:x8 P aa Cs N γ rk tp gs w t)
  (h0:N.pr 0=.ret) (hd:∀j,0<j->j<N.n->N.pr j=.stop/\N.D 0 j):Zy P aa (crowd gs w sl) t:=by
 have hlt:0<gs.size:=by rw[h.size];exact h.pos
 obtain⟨g,hg⟩:∃g,gs[0]? =some g:=⟨gs[0],b7 hlt⟩;have hm:=h.mem 0 g hg;rw[h0]at hm;generalize hrk:rk 0=r at hm;cases hm with
 |run p r g h1 h2=>exact absurd rfl h1.2.1
 |ret r g h1 h2 h3=>
  have hq:∀j,∃n,∀x,0<j->gs[j]? =some x->QuitsD P n (Deaf t j) x:=by
   intro j;by_cases hj:0<j/\∃x,gs[j]? =some x;obtain⟨hj,x,hx⟩:=hj;have ov:j<N.n:=by rw[<-h.size];exact(aG.1 hx).1
   have hmj:=h.mem j x hx;rw[(hd j hj ov).1]at hmj;generalize J3:rk j=r2 at hmj;cases hmj with
   |stop n g h4 h5=>exact⟨n,λy _ hy=>by rw[hx]at hy;cases hy;exact h5⟩
   |run p r g h4 h5=>exact absurd rfl h4.1
   exact⟨0,λx h4 h5=>absurd ⟨h4,x,h5⟩ hj⟩
  have known:∀i a,touchAt t i=some a->a.loc.isMemory=true->Knows t 0 i:=by
   intro i a ha lF;rcases qw i tp with hi|hi;exact h.ti.pre i a 0 hi ha lF (by rw[h0];simp) h.pos;obtain⟨z,hz,-⟩:=touch_of ha;have hgz:t.g? i=some z.g:=by unfold Trace.g?;rw[hz];rfl
   by_cases HU:z.g=0;exact AE (HU▸hgz);have hn:=h.ti.num i z.g hi hgz;obtain⟨h4,h5⟩:=hd z.g ab hn;exact h.ti.kn i a z.g 0 hi ha hgz h4 h5 (.inl rfl) h.pos
  have Kr:pF t:=by
   refine⟨h.ti.clean,known,λi g hg hne hc=>?_,h.ti.hears 0 (.inl (by rw[h0];simp))⟩;obtain⟨x,hx,hm,-⟩:=hc;obtain⟨q,z,hz,HU,hb⟩:=known i x hx hm;have hzg:t.g? q=some 0:=by unfold Trace.g?;rw[hz];simp[HU]
   rcases hb with rfl|hb
   grind
   grind
  exact h3 w.drawn (h.frames g hg) h1 h2 gs sl t (λj=>Classical.choose (hq j)) hg ⟨λj x hj hx=>vD (hq j) x hj hx,λj hj=>h.ti.hears j (.inr (by rw[<-h.size];exact hj))⟩ Kr
theorem dg{gs:Array Goroutine}{i j:Nat}{g' x:Goroutine}(h:(gs.setIfInBounds i g')[j]? =some x):(j=i/\x=g')\/(j≠i/\gs[j]? =some x):=by grind
theorem Hf{gs:Array Goroutine}{i:Nat}{f:Goroutine->Goroutine}{g':Goroutine}(h:∀(j:Nat)(x:Goroutine),j≠i->gs[j]? =some x->f x=x):(gs.map f).setIfInBounds i g'=gs.setIfInBounds i g':=by
 apply Array.ext_getElem?;intro j;by_cases hj:i=j
 grind
 grind
theorem x8.woken {Cs:Nat->Prop}{N:Net}{γ:Nat->So}{rk:Nat->Tr}{tp:Nat}{gs:Array Goroutine}{w w':World}{t:Trace}(h:x8 P aa Cs N γ rk tp gs w t)
  (hsend:∀i c v k,i<N.n->N.pr i=.send c v k->N.cl c=none/\Cs c) (hrecv:∀j c ok z k,j<N.n->N.pr j=.recv c ok z k->Cs c) (hc:∀c,Cs c->w'.heap[c]? =w.heap[c]?) (a a':Goroutine):
  ∀(j:Nat)(x:Goroutine),gs[j]? =some x->Conc.woken P a a' w' x=x:=by
 intro j x hx;have ov:j<N.n:=by rw[<-h.size];exact(aG.1 hx).1
 refine(h.mem j x hx).woken (λc hcc hbl=>?_) a a';rcases hcc with ⟨v,k,hp⟩|⟨ok,z,k,hp⟩;obtain⟨h1,h2⟩:=hsend j c v k ov hp;obtain⟨⟨s,tm,h3⟩,-⟩:=h.chan c h2;rw[h1]at h3;exact⟨s,tm,(hc c h2).trans h3⟩;have h2:=hrecv j c ok z k ov hp;have h1:=h.open_ j c ok z k x hx hbl hp;obtain⟨⟨s,tm,h3⟩,-⟩:=h.chan c h2;rw[h1]at h3;exact⟨s,tm,(hc c h2).trans h3⟩
theorem XL(hP:Plain P){Cs:Nat->Prop}{N:Net}{γ:Nat->So}{rk:Nat->Tr}{tp:Nat}{gs:Array Goroutine}{w:World}{t:Trace}(h:x8 P aa Cs N γ rk tp gs w t)
  (hno:∀j,j<N.n->N.pr j≠.ret/\N.pr j≠.bad) (hsend:∀i c v k,i<N.n->N.pr i=.send c v k->N.cl c=none/\Cs c) (hrecv:∀j c ok z k,j<N.n->N.pr j=.recv c ok z k->Cs c)
  {i:Nat} {g g':Goroutine} {d:Nat} {sl:Option (Nat×Nat)} {w':World} {es:Array Event} {γ':So} {r':Tr} (hi:gs[i]? =some g) (hl:(N.pr i).live)
  (hst:stepG P (i==0) g (w.at d)=.go g' w' es) (hS:JY (γ i) (w.at d) γ' w' es) (hG:Z5 P (i==0) iV JY (D4 P aa (i==0) (N.pr i)) r' γ' g' w'):
  runT P (crowd gs (w.at d) sl) i=(.next (crowd (gs.setIfInBounds i g') w' sl),MemOp.ofEvents i g.frame.fn g.frame.place es)/\
  x8 P aa Cs N (upd γ i γ') (upd rk i r'.up) tp (gs.setIfInBounds i g') w' (t++MemOp.ofEvents i g.frame.fn g.frame.place es):=by
 obtain⟨hS1,JV⟩:=hS;have nQ:i<N.n:=by rw[<-h.size];exact(aG.1 hi).1
 have hlt:i<gs.size:=(aG.1 hi).1;have hγ:γ'=((γ i).1,γ'.2):=by rw[<-hS1]
 have PJ:∀c,Cs c->w'.heap[c]? =w.heap[c]? :=by intro c hc;obtain⟨⟨s,tm,h3⟩,h4⟩:=h.chan c hc;refine JV.2.2.1 c ?_ (h4 i).2;show c<w.heap.size;exact(aG.1 h3).1
 have hrun:=runT_crowd_go (P:=P) (sl:=sl) hi hst;rw[Hf λj x _ hx=>h.woken hsend hrecv PJ g g' j x hx]at hrun;refine⟨hrun,?_⟩;have hti:=h.ti.step nQ hl.1 (O':=γ'.2) (es:=es) g.frame.fn g.frame.place (sz':=w'.heap.size) JV.2.1 JV.1 JV.2.2.2.2.2.2;rw[<-hγ]at hti;have hrel:∀j,j≠i->iV (γ j) w w':=λj hj=>Mk h.ti hj (w:=w) (O':=γ'.2) (es:=es) ⟨JV.1,JV.2.1,JV.2.2.1,JV.2.2.2.1,JV.2.2.2.2.1,JV.2.2.2.2.2.1,JV.2.2.2.2.2.2⟩;have rT:=dM hG;have hu:∀op∈MemOp.ofEvents i g.frame.fn g.frame.place es,op.g=i:=λop hop=>by rw[ofEvents_eq]at hop;obtain⟨e,_,rfl⟩:=gp.1 hop;rfl
 refine⟨by simpa using h.size,h.pos,λj x hx=>?_,hti,λc hc=>?_,λj c ok z k x hx hb hp=>?_,λj j' c v k ok z k' x x' hx jY hb rQ hp sY=>?_,λx hx=>?_⟩;rcases dg hx with ⟨rfl,rfl⟩|⟨hj,jY⟩;rw[upd_same,upd_same];exact .run _ r' x hl hG;rw[upd_ne _ _ hj,upd_ne _ _ hj,Deaf_other t (Ne.symm hj) _ hu];have ov:j<N.n:=by rw[<-h.size];exact(aG.1 jY).1
 exact(h.mem j x jY).rely (hno j ov).1 (hrel j hj);obtain⟨⟨s,tm,h3⟩,h4⟩:=h.chan c hc;refine⟨⟨s,tm,(PJ c hc).trans h3⟩,λj=>?_⟩;by_cases hj:j=i;subst hj;rw[upd_same];refine⟨by rw[hS1];exact(h4 j).1,λhO=>?_⟩;rcases(JV.1 c).1 hO with h5|⟨h5,-⟩
 grind
 have:c<w.heap.size:=(aG.1 h3).1;have h5':w.heap.size<=c:=h5;omega;rw[upd_ne _ _ hj];exact h4 j;rcases dg hx with ⟨rfl,rfl⟩|⟨hj,jY⟩
 grind
 exact h.open_ j c ok z k x jY hb hp;rcases dg hx with ⟨rfl,rfl⟩|⟨hj,MP⟩
 grind
 rcases dg jY with ⟨rfl,rfl⟩|⟨CM,HV⟩
 grind
 exact h.apart j j' c v k ok z k' x x' MP HV hb rQ hp sY;rcases dg hx with ⟨Gb,rfl⟩|⟨hj,jY⟩;subst Gb;have jU:=ru (b:=False) hP true g (h.frames g hi) (w.at d);rw[show stepG P true g (w.at d)=_ from hst]at jU;exact jU.2.1;exact h.frames x jY
end Go.Co
namespace Go.Co
open Go Go.Conc
open Go.ConcN (sumTo upd upd_same upd_ne)
variable {P:Program} {aa:Machine->Trace->Prop} {Cs:Nat->Prop} {N:Net} {γ:Nat->So} {rk:Nat->Tr} {tp:Nat} {gs:Array Goroutine} {w:World} {t:Trace}
theorem ND(h:x8 P aa Cs N γ rk tp gs w t)(hno:∀j,j<N.n->N.pr j≠.ret/\N.pr j≠.bad)(d:Nat):x8 P aa Cs N γ rk tp gs (w.at d) t:=
 ⟨h.size,h.pos,λj x hx=>(h.mem j x hx).rely (hno j (by rw[<-h.size];exact(aG.1 hx).1)).1 (Au _ _ _),h.ti,h.chan,h.open_,h.apart,h.frames⟩
theorem XN(h:x8 P aa Cs N γ rk tp gs w t)
  {i n:Nat} {g g':Goroutine} {sl:Option (Nat×Nat)} {es:Array Event} (hi:gs[i]? =some g) (hp:N.pr i=.stop) (Gb:i≠0)
  (hm:∀e∈es,Event.mute e=true) (hst:∀w,stepG P false g w=.go g' w es) (hq:QuitsD P n (deafBehind (Deaf t i) es) g')
  (hsend:∀i c v k,i<N.n->N.pr i=.send c v k->N.cl c=none/\Cs c) (hrecv:∀j c ok z k,j<N.n->N.pr j=.recv c ok z k->Cs c):
  runT P (crowd gs w sl) i=(.next (crowd (gs.setIfInBounds i g') w sl),MemOp.ofEvents i g.frame.fn g.frame.place es)/\
  x8 P aa Cs N γ (upd rk i (Tr.nat n)) tp (gs.setIfInBounds i g') w (t++MemOp.ofEvents i g.frame.fn g.frame.place es):=by
 have hlt:i<gs.size:=(aG.1 hi).1;have nQ:i<N.n:=by rw[<-h.size];exact hlt
 have hib:(i==0)=false:=by simpa using Gb
 have hrun:=runT_crowd_go (P:=P) (sl:=sl) hi (by rw[hib];exact hst w);rw[Hf λj x _ hx=>h.woken hsend hrecv (λ_ _=>rfl) g g' j x hx]at hrun;refine⟨hrun,?_⟩;have hu:∀op∈MemOp.ofEvents i g.frame.fn g.frame.place es,op.g=i/\op.act.touch?=none:=λop hop=>by rw[ofEvents_eq]at hop;obtain⟨e,he,rfl⟩:=gp.1 hop;exact⟨rfl,touch_mute (hm e he)⟩
 have hti:TI N γ w.heap.size tp (t++MemOp.ofEvents i g.frame.fn g.frame.place es):=by
  refine h.ti.move (λop hop=>(hu op hop).2) (λj hj=>?_) (ai _) (λop hop=>by rw[(hu op hop).1];exact nQ) (λj hj ov=>⟨j,ov,hj,λx hx=>hx.app _,λb hb=>.inl hb⟩) (λ_ _ hb=>hb) ?_ ?_ h.ti.yh h.ti.H6 h.ti.Px h.ti.dst;have iW:j≠i:=by
   rcases hj with h1|h1
   grind
   omega
  rw[Deaf_other t (Ne.symm iW) _ λop hop=>(hu op hop).1];exact h.ti.hears j hj;intro x y hD hy hx JP q a Rx ha hg;exact(h.ti.kn q a y x Rx ha hg hy hD hx JP).app _;intro c E hE;obtain⟨q,z,Rx,hz,hh,hk⟩:=h.ti.kc c E hE;exact⟨q,z,by rw[getElem?_append_old (lt_size_of_getElem? Rx)];exact Rx,hz,(heard_old (lt_size_of_getElem? Rx)).2 hh,λx a y hx ha hgx UZ=>(hk x a y hx ha hgx UZ).app _⟩
 refine⟨by simpa using h.size,h.pos,λj x hx=>?_,hti,h.chan,λj c ok z k x hx hb J4=>?_,λj j' c v k ok z k' x x' hx jY hb rQ J4 Nq=>?_,λx hx=>?_⟩;rcases dg hx with ⟨rfl,rfl⟩|⟨hj,jY⟩;rw[hp,upd_same,Deaf_own];exact .stop n x Gb hq;rw[upd_ne _ _ hj,Deaf_other t (Ne.symm hj) _ λop hop=>(hu op hop).1];exact h.mem j x jY;rcases dg hx with ⟨rfl,rfl⟩|⟨hj,jY⟩
 grind
 exact h.open_ j c ok z k x jY hb J4;rcases dg hx with ⟨rfl,rfl⟩|⟨hj,MP⟩
 grind
 rcases dg jY with ⟨rfl,rfl⟩|⟨CM,HV⟩
 grind
 exact h.apart j j' c v k ok z k' x x' MP HV hb rQ J4 Nq;rcases dg hx with ⟨akv,rfl⟩|⟨hj,jY⟩
 grind
 exact h.frames x jY
theorem K4(h:x8 P aa Cs N γ rk tp gs w t){i:Nat}{g x0:Goroutine}(hi:gs[i]? =some g)(hf:x0.frame=g.frame)(hc:x0.callers=g.callers)(hd:x0.dying=g.dying)
  (hm:Mem P aa i (Deaf t i) (γ i) w (N.pr i) .leaf x0) (hop:∀c ok z k,N.pr i=.recv c ok z k->N.cl c=none)
  (Z2:∀j x c v k ok z k',j≠i->gs[j]? =some x->x.status=.blocked->(N.pr i=.send c v k->N.pr j=.recv c ok z k'->False)/\(N.pr j=.send c v k->N.pr i=.recv c ok z k'->False)):
  x8 P aa Cs N γ (upd rk i .leaf) tp (gs.setIfInBounds i x0) w t:=by
 refine⟨by simpa using h.size,h.pos,λj x hx=>?_,h.ti,h.chan,λj c ok z k x hx hb J4=>?_,λj j' c v k ok z k' x x' hx jY hb rQ J4 Nq=>?_,λx hx=>?_⟩;rcases dg hx with ⟨rfl,rfl⟩|⟨hj,jY⟩;rw[upd_same];exact hm
 rw[upd_ne _ _ hj];exact h.mem j x jY;rcases dg hx with ⟨rfl,rfl⟩|⟨hj,jY⟩
 grind
 exact h.open_ j c ok z k x jY hb J4;rcases dg hx with ⟨rfl,rfl⟩|⟨hj,MP⟩
 grind
 rcases dg jY with ⟨rfl,rfl⟩|⟨CM,HV⟩
 grind
 exact h.apart j j' c v k ok z k' x x' MP HV hb rQ J4 Nq;rcases dg hx with ⟨rfl,rfl⟩|⟨hj,jY⟩;have:=h.frames g hi;unfold Fr at*;rw[hf,hc,hd];exact this;exact h.frames x jY
end Go.Co
namespace Go.Co
open Go Go.Conc
open Go.ConcN (sumTo upd upd_same upd_ne)
variable {P:Program} {aa:Machine->Trace->Prop} {Cs:Nat->Prop} {N:Net} {γ:Nat->So} {rk:Nat->Tr} {tp:Nat} {gs:Array Goroutine} {w:World} {t:Trace}
theorem Is{N:Net}(h:Dp Cs N):N.pr 0≠.stop/\∀j,j<N.n->N.pr j≠.bad:=by
 cases h with
 |done _ h1 h2=>grind
 |step _ h1 h2=>exact⟨h2,λj hj=>(h1 j hj).2⟩
theorem BV{γ:So}{c:Nat}(hc:¬γ.1 c/\¬γ.2 c)(w:World)(d cap:Nat)(buf:Array Value)(cl:Bool)(s r:Nat)(tm:Bool):iV γ w ((w.at d).setChan c cap buf cl s r tm):=by
 refine⟨by simp[World.setChan,World.at],λb hb=>?_,rfl,rfl,rfl⟩;have:c≠b:=by grind
 simp only[World.setChan,World.at];rw[fF this]
theorem K3(h:x8 P aa Cs N γ rk tp gs w t)(hno:∀j,j<N.n->N.pr j≠.ret/\N.pr j≠.bad){i j c s:Nat}{v:Value}{k:Pc}{ok:Bool}{z:Value}{kr:Option Value->Pc}(Rz:i≠j)(hi:i<N.n)(hj:j<N.n)(nR:Cs c)
  (hs:N.pr i=.send c v k) (hr:N.pr j=.recv c ok z kr) (wK:N.cl c=none) {gi gj:Goroutine} {gs':Array Goroutine} {d:Nat} {tm:Bool} {f f':FuncId} {p p':String}
  (hsz:gs'.size=gs.size) (hgi:gs'[i]? =some gi) (ZW:gs'[j]? =some gj) (hgo:∀y,y≠i->y≠j->gs'[y]? =gs[y]?)
  (hsi:gi.status=.running) (hsj:gj.status=.running) (F8:∀w1,iV (γ i) w w1->Pr P aa (i==0) k (γ i) gi w1) (J4:∀w1,iV (γ j) w w1->Pr P aa (j==0) (kr (some v)) (γ j) gj w1)
  (hfr:∀x,gs'[0]? =some x->Fr x) (Ds:Dp Cs (N.meet i j k (kr (some v)))):
  ∃F6,x8 P aa Cs (N.meet i j k (kr (some v))) γ F6 tp gs' ((w.at d).setChan c 0 #[] false (s+1) (s+1) tm) (t++eX i j c s f f' p p'):=by
 have PJ:=h.chan c nR;obtain⟨BF,pX⟩:=Is Ds;have tj:∀y,y≠i->y≠j->(N.meet i j k (kr (some v))).pr y=N.pr y:=λy h1 h2=>by show upd (upd N.pr i k) j _ y=_;rw[upd_ne _ _ h2,upd_ne _ _ h1]
 have Nq:(N.meet i j k (kr (some v))).pr j=kr (some v):=upd_same _ _ _;have adY:(N.meet i j k (kr (some v))).pr i=k:=by show upd (upd N.pr i k) j _ i=_;rw[upd_ne _ _ Rz,upd_same]
 have hrel:∀y,iV (γ y) w ((w.at d).setChan c 0 #[] false (s+1) (s+1) tm):=λy=>BV (PJ.2 y) _ _ _ _ _ _ _ _;obtain⟨ri,hmi⟩:=oP hsi (by rw[<-adY];exact pX i hi) (λe h0=>BF (by rw[<-h0,adY,e])) (F8 _ (hrel i));obtain⟨rj,hmj⟩:=oP hsj (by rw[<-Nq];exact pX j hj) (λe h0=>BF (by rw[<-h0,Nq,e])) (J4 _ (hrel j));have CK:N.pr i≠.stop:=by rw[hs];simp
 have ZU:N.pr j≠.stop:=by rw[hr];simp
 have BC:((w.at d).setChan c 0 #[] false (s+1) (s+1) tm).heap.size=w.heap.size:=by simp[World.setChan,World.at]
 refine⟨upd (upd rk i ri) j rj,hsz.trans h.size,h.pos,λy x hx=>?_,?_,λc' hc'=>?_,λy c' ok' z' k' x hx hb hp=>?_,λy y' c' v' k' ok' z' ZM x x' hx jY hb rQ hp sY=>?_,hfr⟩;by_cases h2:y=j;subst h2;rw[ZW]at hx;cases hx;rw[upd_same,Nq,dw (jS _ _ _ _ _ _ _ _),h.ti.hears y (.inl ZU)];exact hmj;by_cases h1:y=i;subst h1;rw[hgi]at hx;cases hx;rw[upd_ne _ _ h2,upd_same,adY,dw (jS _ _ _ _ _ _ _ _),h.ti.hears y (.inl CK)];exact hmi;rw[hgo y h1 h2]at hx;rw[upd_ne _ _ h2,upd_ne _ _ h1,tj y h1 h2,dw (jS _ _ _ _ _ _ _ _)];have MV:y<N.n:=by rw[<-h.size];exact(aG.1 hx).1
 exact(h.mem y x hx).rely (hno y MV).1 (hrel y);rw[BC];exact h.ti.meet hi hj Rz hs hr f f' p p';obtain⟨⟨s0,ZF,h3⟩,h4⟩:=h.chan c' hc';refine⟨?_,h4⟩;by_cases hcc:c'=c;subst hcc;have hlt:c'<w.heap.size:=(aG.1 h3).1;refine⟨s+1,tm,?_⟩;show _=some (Obj.chan 0 #[] (N.cl c').isSome (s+1) (s+1) tm);rw[wK];simp[World.setChan,World.at,hlt];refine⟨s0,ZF,?_⟩;show((w.at d).setChan c 0 #[] false (s+1) (s+1) tm).heap[c']? =some (Obj.chan 0 #[] (N.cl c').isSome s0 s0 ZF);simp only[World.setChan,World.at];rw[fF (Ne.symm hcc)];exact h3;by_cases h2:y=j
 grind
 by_cases h1:y=i
 grind
 rw[hgo y h1 h2]at hx;rw[tj y h1 h2]at hp;exact h.open_ y c' ok' z' k' x hx hb hp;have live:∀y x,gs'[y]? =some x->x.status=.blocked->y≠i/\y≠j:=λy x hx hb=>by
  refine⟨?_,?_⟩
  grind
  grind
 obtain⟨a1,a2⟩:=live y x hx hb;obtain⟨b1,b2⟩:=live y' x' jY rQ;rw[tj y a1 a2]at hp;rw[tj y' b1 b2]at sY;rw[hgo y a1 a2]at hx;rw[hgo y' b1 b2]at jY;exact h.apart y y' c' v' k' ok' z' ZM x x' hx jY hb rQ hp sY
theorem zY(h:x8 P aa Cs N γ rk tp gs w t){i c j k:Nat}(hp:(j,k)∈partners (gs.setIfInBounds i ph) c false):
  k=0/\j≠i/\j<N.n/\∃g0 ok z kr,gs[j]? =some (parked g0 #[rcase c z] (.recv ok))/\N.pr j=.recv c ok z kr/\∀x w1,iV (γ j) w w1->Pr P aa (j==0) (kr x) (γ j) (Conc.served g0 (recvd ok (x.getD z) x.isSome)) w1:=by
 obtain⟨g,hg,hk⟩:=mem_partners.1 hp;rcases dg hg with ⟨rfl,rfl⟩|⟨iW,rT⟩;rw[offersAt_ph]at hk;cases hk
 have ov:j<N.n:=by rw[<-h.size];exact(aG.1 rT).1
 have hm:=h.mem j g rT;generalize J4:N.pr j=pj at hm;generalize rk j=rj at hm;cases hm with
 |stop n g h1 h2=>rw[offersAt_of_not_blocked (by rcases h2.status with e|e<;>simp[e])]at hk;cases hk
 |ret r g h1 h2 h3=>rw[offersAt_of_not_blocked (by simp[h1])]at hk;cases hk
 |run p r g h1 h2=>rw[offersAt_of_not_blocked (by simp[dM h2])]at hk;cases hk
 |send c' v k' g z h1=>rw[offersAt_parked_send']at hk;cases hk
 |recv c' ok z k' g h1 h2=>
  rw[offersAt_parked_recv]at hk;split at hk
  grind
  cases hk
theorem sS(h:x8 P aa Cs N γ rk tp gs w t){i c j k:Nat}(hp:(j,k)∈partners (gs.setIfInBounds i ph) c true):
  k=0/\j≠i/\j<N.n/\∃g0 v z kr,gs[j]? =some (parked g0 #[scase c v z] .send)/\N.pr j=.send c v kr/\∀w1,iV (γ j) w w1->Pr P aa (j==0) kr (γ j) (Conc.served g0 undef) w1:=by
 obtain⟨g,hg,hk⟩:=mem_partners.1 hp;rcases dg hg with ⟨rfl,rfl⟩|⟨iW,rT⟩;rw[offersAt_ph]at hk;cases hk
 have ov:j<N.n:=by rw[<-h.size];exact(aG.1 rT).1
 have hm:=h.mem j g rT;generalize J4:N.pr j=pj at hm;generalize rk j=rj at hm;cases hm with
 |stop n g h1 h2=>rw[offersAt_of_not_blocked (by rcases h2.status with e|e<;>simp[e])]at hk;cases hk
 |ret r g h1 h2 h3=>rw[offersAt_of_not_blocked (by simp[h1])]at hk;cases hk
 |run p r g h1 h2=>rw[offersAt_of_not_blocked (by simp[dM h2])]at hk;cases hk
 |recv c' ok z k' g h1 h2=>rw[offersAt_parked_recv']at hk;cases hk
 |send c' v k' g z h1=>
  rw[offersAt_parked_send]at hk;split at hk
  grind
  cases hk
end Go.Co
namespace Go.Co
open Go Go.Conc
open Go.ConcN (sumTo upd upd_same upd_ne)
variable {P:Program} {aa:Machine->Trace->Prop} {Cs:Nat->Prop} {N:Net} {γ:Nat->So} {rk:Nat->Tr} {tp:Nat} {gs:Array Goroutine} {w:World} {t:Trace}
theorem ofEvents_none(g:Nat)(fn:FuncId)(pos:String):MemOp.ofEvents g fn pos #[]=#[]:=rfl
theorem wT{g g0:Goroutine}{cs iB:Array CommCase}{sh sh':CommShape}(h:parked g cs sh=parked g0 iB sh')(v:Value):Conc.served g v=Conc.served g0 v:=by
 have:Conc.served (parked g cs sh) v=Conc.served (parked g0 iB sh') v:=by rw[h]
 exact this
theorem z8{g g0:Goroutine}{cs iB:Array CommCase}{sh sh':CommShape}(h:parked g cs sh=parked g0 iB sh'):g.frame=g0.frame/\g.callers=g0.callers/\g.dying=g0.dying/\cs=iB/\sh=sh':=by have:=congrArg (λ(x:Goroutine)=>(x.frame,x.callers,x.dying,x.offers)) h;simp[parked]at this;exact⟨this.1,this.2.1,this.2.2.1,this.2.2.2.1,this.2.2.2.2⟩
theorem rM{g:Goroutine}(h:Fr g)(v:Value):Fr (Conc.served g v):=er h v
theorem XP(h:x8 P aa Cs N γ rk tp gs w t)(hno:∀j,j<N.n->N.pr j≠.ret/\N.pr j≠.bad){i c:Nat}{v:Value}{k:Pc}{g:Goroutine}{d:Nat}{sl:Option (Nat×Nat)}(hi:gs[i]? =some g)(hs:N.pr i=.send c v k)(wK:N.cl c=none)(nR:Cs c)
  (hat:AtSend P (i==0) c v g (w.at d)) (hk:∀w1,iV (γ i) (w.at d) w1->Pr P aa (i==0) k (γ i) (Conc.served g undef) w1)
  (Ds:∀j ok z kr,j<N.n->N.pr j=.recv c ok z kr->Dp Cs (N.meet i j k (kr (some v)))):
  (∃gs',runT P (crowd gs (w.at d) sl) i=(.next (crowd gs' (w.at d) sl),#[])/\x8 P aa Cs N γ (upd rk i .leaf) tp gs' w t)\/
  (∃N' gs' w' ops F6,runT P (crowd gs (w.at d) sl) i=(.next (crowd gs' w' sl),ops)/\Dp Cs N'/\(∃j ok z kr,j<N.n/\N.pr j=.recv c ok z kr/\N'=N.meet i j k (kr (some v)))/\x8 P aa Cs N' γ F6 tp gs' w' (t++ops)):=by
 obtain⟨hr,z,hst⟩:=hat;have nQ:i<N.n:=by rw[<-h.size];exact(aG.1 hi).1
 have hlt:i<gs.size:=(aG.1 hi).1;obtain⟨⟨s,tm,hc⟩,-⟩:=h.chan c nR;rw[wK]at hc;have hc':(w.at d).heap[c]? =some (.chan 0 #[] false s s tm):=hc;by_cases hne:partners (gs.setIfInBounds i ph) c false=[];left;refine⟨gs.setIfInBounds i (parked (core g) #[scase c v z] .send),?_,?_⟩;have:=crowd_waits (P:=P) (sl:=sl) hi hst (λcc hcc=>by simp only[eC,bX]at hcc;subst hcc;exact ways_send_none hc' ae hne);rw[this,ofEvents_none];refine K4 h hi rfl rfl rfl ?_ (λc' ok' z' k' e=>by rw[hs]at e;cases e) λj x c' v' k' ok' z' ZM hj hx hb=>⟨λe1 e2=>?_,λe1 e2=>by rw[hs]at e2;cases e2⟩;rw[hs];exact .send c v k (core g) z λw1 h1=>hk w1 h1;rw[hs]at e1;cases e1;have hm:=h.mem j x hx;rw[e2]at hm;generalize rk j=rj at hm;cases hm with
 |run p r g h1 h2=>rw[dM h2]at hb;cases hb
 |recv _ _ _ _ g h1 h2=>have:(j,0)∈partners (gs.setIfInBounds i ph) c false:=mem_partners.2 ⟨_,stand_get hj hx,by rw[offersAt_parked_recv];simp⟩;rw[hne]at this;cases this
 right;obtain⟨j,gj,zj,shj,d2,iW,ZW,hrun⟩:=crowd_send_meets_some (P:=P) (sl:=sl) hi hst hc' hne λj k hp=>by obtain⟨h1,h2,-,g0,ok,z,kr,h3,-⟩:=zY h hp;exact⟨h1,h2,g0,z,_,h3⟩
 have hp:(j,0)∈partners (gs.setIfInBounds i ph) c false:=mem_partners.2 ⟨_,stand_get iW ZW,by rw[offersAt_parked_recv];simp⟩;obtain⟨-,-,ov,g0,ok,z0,kr,h3,h4,h5⟩:=zY h hp;rw[ZW]at h3;have h3:=bG h3;obtain⟨UU,ZX,hf3,-,hsh⟩:=z8 h3;have hzz:Conc.served gj (recvd ok v true)=Conc.served g0 (recvd ok v true):=wT h3 _;subst hsh;rw[finishComm_recv,finishComm_send,hzz,ofEvents_none]at hrun;have hw:=Ds j ok z0 kr ov h4;obtain⟨F6,qL⟩:=K3 (gs':=(gs.setIfInBounds j (Conc.served g0 (recvd ok v true))).setIfInBounds i (Conc.served (core g) undef)) (d:=d2) (tm:=tm) (s:=s) (f:=(core g).frame.fn) (p:=(core g).frame.place) (f':=gj.frame.fn) (p':=gj.frame.place) h hno (Ne.symm iW) nQ ov nR hs h4 wK ae (gi:=Conc.served (core g) undef) (gj:=Conc.served g0 (recvd ok v true))
  (by simp[hlt]) (by
   rw[fF (Ne.symm iW)];have:j<gs.size:=by rw[h.size];exact ov
   simp[this]) (λy h1 h2=>by rw[fF (Ne.symm h1),fF (Ne.symm h2)]) rfl rfl (λw1 h1=>hk w1 h1) (λw1 h1=>h5 (some v) w1 h1) (λx hx=>by
   rcases dg hx with ⟨h1,rfl⟩|⟨h1,jY⟩;subst h1;exact rM (h.frames g hi) undef;rcases dg jY with ⟨h2,rfl⟩|⟨h2,HV⟩;subst h2;rw[<-hzz];exact rM (h.frames _ ZW) _;exact h.frames x HV) hw
 refine⟨_,_,_,_,F6,hrun,hw,⟨j,ok,z0,kr,ov,h4,rfl⟩,?_⟩;rw[Array.empty_append];exact qL
end Go.Co
namespace Go.Co
open Go Go.Conc
open Go.ConcN (sumTo upd upd_same upd_ne)
variable {P:Program} {aa:Machine->Trace->Prop} {Cs:Nat->Prop} {N:Net} {γ:Nat->So} {rk:Nat->Tr} {tp:Nat} {gs:Array Goroutine} {w:World} {t:Trace}
theorem XQ(h:x8 P aa Cs N γ rk tp gs w t)(hno:∀j,j<N.n->N.pr j≠.ret/\N.pr j≠.bad){i c:Nat}{ok:Bool}{z:Value}{kr:Option Value->Pc}{g:Goroutine}{d:Nat}{sl:Option (Nat×Nat)}(hi:gs[i]? =some g)(hs:N.pr i=.recv c ok z kr)(wK:N.cl c=none)(nR:Cs c)
  (hat:AtRecv P (i==0) c ok z g (w.at d)) (ajD:∀w1,iV (γ i) w w1->AtRecv P (i==0) c ok z g w1) (hk:∀x w1,iV (γ i) w w1->Pr P aa (i==0) (kr x) (γ i) (Conc.served g (recvd ok (x.getD z) x.isSome)) w1)
  (Ds:∀j v k,j<N.n->N.pr j=.send c v k->Dp Cs (N.meet j i k (kr (some v)))):
  (∃gs',runT P (crowd gs (w.at d) sl) i=(.next (crowd gs' (w.at d) sl),#[])/\x8 P aa Cs N γ (upd rk i .leaf) tp gs' w t)\/
  (∃N' gs' w' ops F6,runT P (crowd gs (w.at d) sl) i=(.next (crowd gs' w' sl),ops)/\Dp Cs N'/\(∃j v k,j<N.n/\N.pr j=.send c v k/\N'=N.meet j i k (kr (some v)))/\x8 P aa Cs N' γ F6 tp gs' w' (t++ops)):=by
 obtain⟨hr,hst⟩:=hat;have nQ:i<N.n:=by rw[<-h.size];exact(aG.1 hi).1
 have hlt:i<gs.size:=(aG.1 hi).1;obtain⟨⟨s,tm,hc⟩,-⟩:=h.chan c nR;rw[wK]at hc;have hc':(w.at d).heap[c]? =some (.chan 0 #[] false s s tm):=hc;by_cases hne:partners (gs.setIfInBounds i ph) c true=[];left;refine⟨gs.setIfInBounds i (parked (core g) #[rcase c z] (.recv ok)),?_,?_⟩;have:=crowd_waits (P:=P) (sl:=sl) hi hst (λcc hcc=>by simp only[eC,bX]at hcc;subst hcc;exact ways_recv_none hc' hne);rw[this,ofEvents_none];refine K4 h hi rfl rfl rfl ?_ (λc' ok' z' k' e=>by rw[hs]at e;cases e;exact wK) λj x c' v' k' ok' z' ZM hj hx hb=>⟨λe1 e2=>(by rw[hs]at e1;cases e1),λe1 e2=>?_⟩;rw[hs];exact .recv c ok z kr (core g) (λw1 h1=>⟨rfl,by have e:stepG P (i==0) (core g) w1=stepG P (i==0) g w1:=stepG_same rfl rfl rfl w1;show stepG P (i==0) (core g) w1=_;rw[e];exact(ajD w1 h1).2⟩) λx w1 h1=>hk x w1 h1;rw[hs]at e2;cases e2;have hm:=h.mem j x hx;rw[e1]at hm;generalize rk j=rj at hm;cases hm with
 |run p r g h1 h2=>rw[dM h2]at hb;cases hb
 |send _ _ _ g _ h1=>have:(j,0)∈partners (gs.setIfInBounds i ph) c true:=mem_partners.2 ⟨_,stand_get hj hx,by rw[offersAt_parked_send];simp⟩;rw[hne]at this;cases this
 right;obtain⟨j,gj,vj,zj,shj,d2,iW,ZW,hrun⟩:=crowd_recv_meets_some (P:=P) (sl:=sl) hi hst hc' hne λj k hp=>by obtain⟨h1,h2,-,g0,v,z,kr,h3,-⟩:=sS h hp;exact⟨h1,h2,g0,v,z,_,h3⟩
 have hp:(j,0)∈partners (gs.setIfInBounds i ph) c true:=mem_partners.2 ⟨_,stand_get iW ZW,by rw[offersAt_parked_send];simp⟩;obtain⟨-,-,ov,g0,v,z0,k,h3,h4,h5⟩:=sS h hp;rw[ZW]at h3;have h3:=bG h3;obtain⟨UU,ZX,hf3,hcc,hsh⟩:=z8 h3;have hv:vj=v:=by simp[scase]at hcc;exact hcc.1
 subst hv;have hzz:Conc.served gj undef=Conc.served g0 undef:=wT h3 _;subst hsh;rw[finishComm_send,finishComm_recv,hzz,ofEvents_none]at hrun;have hw:=Ds j vj k ov h4;obtain⟨F6,qL⟩:=K3 (gs':=(gs.setIfInBounds j (Conc.served g0 undef)).setIfInBounds i (Conc.served (core g) (recvd ok vj true))) (d:=d2) (tm:=tm) (s:=s) (f':=(core g).frame.fn) (p':=(core g).frame.place) (f:=gj.frame.fn) (p:=gj.frame.place) h hno iW ov nQ nR h4 hs wK ae (gj:=Conc.served (core g) (recvd ok vj true)) (gi:=Conc.served g0 undef)
  (by
   rw[fF (Ne.symm iW)];have:j<gs.size:=by rw[h.size];exact ov
   simp[this]) (by simp[hlt]) (λy h1 h2=>by rw[fF (Ne.symm h2),fF (Ne.symm h1)]) rfl rfl (λw1 h1=>h5 w1 h1) (λw1 h1=>hk (some vj) w1 h1) (λx hx=>by
   rcases dg hx with ⟨h1,rfl⟩|⟨h1,jY⟩;subst h1;exact rM (h.frames g hi) _;rcases dg jY with ⟨h2,rfl⟩|⟨h2,HV⟩;subst h2;rw[<-hzz];exact rM (h.frames _ ZW) _;exact h.frames x HV) hw
 refine⟨_,_,_,_,F6,hrun,hw,⟨j,vj,k,ov,h4,rfl⟩,?_⟩;rw[Array.empty_append];exact qL
end Go.Co
namespace Go.Co
open Go Go.Conc
open Go.ConcN (sumTo upd upd_same upd_ne)
variable {P:Program} {aa:Machine->Trace->Prop} {Cs:Nat->Prop} {N:Net} {γ:Nat->So} {rk:Nat->Tr} {tp:Nat} {gs:Array Goroutine} {w:World} {t:Trace}
theorem XR(h:x8 P aa Cs N γ rk tp gs w t)(hsend:∀i c v k,i<N.n->N.pr i=.send c v k->N.cl c=none/\Cs c){i c:Nat}{ok:Bool}{z:Value}{kr:Option Value->Pc}{E:Nat->Prop}{g:Goroutine}{d:Nat}{sl:Option (Nat×Nat)}(hi:gs[i]? =some g)(hs:N.pr i=.recv c ok z kr)(pU:N.cl c=some E)(nR:Cs c)
  (hat:AtRecv P (i==0) c ok z g (w.at d)) (hk:∀x w1,iV (γ i) w w1->Pr P aa (i==0) (kr x) (γ i) (Conc.served g (recvd ok (x.getD z) x.isSome)) w1)
  (Ds:Dp Cs (N.hear i (kr none) E)):
  ∃gs' ops F6,runT P (crowd gs (w.at d) sl) i=(.next (crowd gs' (w.at d) sl),ops)/\x8 P aa Cs (N.hear i (kr none) E) γ F6 tp gs' w (t++ops):=by
 obtain⟨hr,hst⟩:=hat;have nQ:i<N.n:=by rw[<-h.size];exact(aG.1 hi).1
 have hlt:i<gs.size:=(aG.1 hi).1;obtain⟨⟨s,tm,hc⟩,-⟩:=h.chan c nR;rw[pU]at hc;have hc':(w.at d).heap[c]? =some (.chan 0 #[] true s s tm):=hc;have ZQ:partners (gs.setIfInBounds i ph) c true=[]:=by
  cases hp:partners (gs.setIfInBounds i ph) c true with
  |nil=>rfl
  |cons x l=>obtain⟨j,k⟩:=x;obtain⟨-,-,ov,g0,v,z0,k',-,h4,-⟩:=sS h (i:=i) (c:=c) (j:=j) (k:=k) (by rw[hp];simp);rw[(hsend j c v k' ov h4).1]at pU;cases pU
 have hrun:=crowd_recv_closed (P:=P) (sl:=sl) hi hst hc' ZQ;rw[finishComm_recv,ofEvents_none,Array.empty_append]at hrun;obtain⟨BF,pX⟩:=Is Ds;have tj:∀y,y≠i->(N.hear i (kr none) E).pr y=N.pr y:=λy h1=>upd_ne _ _ h1;have F8:(N.hear i (kr none) E).pr i=kr none:=upd_same _ _ _;have CK:N.pr i≠.stop:=by rw[hs];simp
 obtain⟨ri,hmi⟩:=oP (P:=P) (aa:=aa) (j:=i) (γ:=γ i) (w:=w) (p:=kr none) (g:=Conc.served (core g) (recvd ok z false)) rfl (by rw[<-F8];exact pX i nQ) (λe h0=>BF (by rw[<-h0,F8,e])) (hk none w (iy _ _));have Ck:nu #[({g:=i,fn:=(core g).frame.fn,pos:=(core g).frame.place,act:=.recvClosed c}:MemOp)]:=by intro op hop m;simp only[eC,bX]at hop;subst hop;simp
 refine⟨_,_,upd rk i ri,hrun,(by rw[vG];exact h.size),h.pos,λy x hx=>?_,h.ti.hear nQ hs pU _ _,h.chan,λy c' ok' z' k' x hx hb hp=>?_,λy y' c' v' k' ok' z' ZM x x' hx jY hb rQ hp sY=>?_,λx hx=>?_⟩;rcases dg hx with ⟨rfl,rfl⟩|⟨hy,jY⟩;rw[upd_same,F8,dw Ck,h.ti.hears y (.inl CK)];exact hmi;rw[upd_ne _ _ hy,tj y hy,dw Ck];exact h.mem y x jY;rcases dg hx with ⟨rfl,rfl⟩|⟨hy,jY⟩;cases hb;rw[tj y hy]at hp;exact h.open_ y c' ok' z' k' x jY hb hp;rcases dg hx with ⟨rfl,rfl⟩|⟨hy,MP⟩;cases hb;rcases dg jY with ⟨rfl,rfl⟩|⟨Zm,HV⟩;cases rQ;rw[tj y hy]at hp;rw[tj y' Zm]at sY;exact h.apart y y' c' v' k' ok' z' ZM x x' MP HV hb rQ hp sY;rcases dg hx with ⟨h1,rfl⟩|⟨h1,jY⟩;subst h1;exact rM (h.frames g hi) _;exact h.frames x jY
end Go.Co
namespace Go.Co
open Go Go.Conc
open Go.ConcN (sumTo upd upd_same upd_ne)
variable {P:Program} {aa:Machine->Trace->Prop} {Cs:Nat->Prop} {N:Net} {γ:Nat->So} {rk:Nat->Tr} {tp:Nat} {gs:Array Goroutine} {w:World} {t:Trace}
theorem SC(hP:Plain P)(h:x8 P aa Cs N γ rk tp gs w t){i:Nat}{ch k:Pc}{g g' x0:Goroutine}{d:Nat}{sl:Option (Nat×Nat)}(hi:gs[i]? =some g)(hs:N.pr i=.go ch k)
  (hst:stepG P (i==0) g (w.at d)=.spawn g' x0 (w.at d)) (F7:g'.status=.running) (Pq:x0.status=.running)
  (hch:∀w1,iV (γ i).give (w.at d) w1->Pr P aa false ch (γ i).give x0 w1) (hk:∀w1,iV (γ i).give (w.at d) w1->Pr P aa (i==0) k (γ i).give g' w1)
  (Ds:Dp Cs (N.start i ch k)):
  ∃gs' ops F6,runT P (crowd gs (w.at d) sl) i=(.next (crowd gs' (w.at d) sl),ops)/\x8 P aa Cs (N.start i ch k) (upd (upd γ i (γ i).give) N.n (γ i).give) F6 tp gs' w (t++ops):=by
 have hlt:i<gs.size:=(aG.1 hi).1;have nQ:i<N.n:=by rw[<-h.size];exact hlt
 have hrun:=runT_crowd_spawn (P:=P) (sl:=sl) hi hst;have aaq:i≠N.n:=ab
 have wq:N.n≠0:=ab
 have e:(((MemOp.ofEvents i g.frame.fn g.frame.place #[]).push {g:=i,fn:=g.frame.fn,pos:=g.frame.place,act:=.go gs.size}).push {g:=gs.size,fn:=x0.frame.fn,pos:=g.frame.place,act:=.start})=tZ i N.n g.frame.fn x0.frame.fn g.frame.place g.frame.place:=by rw[ofEvents_none,h.size];rfl
 rw[e]at hrun;obtain⟨BF,pX⟩:=Is Ds;have tj:∀y,y≠i->y≠N.n->(N.start i ch k).pr y=N.pr y:=λy h1 h2=>by show upd (upd N.pr i k) N.n ch y=_;rw[upd_ne _ _ h2,upd_ne _ _ h1]
 have hpn:(N.start i ch k).pr N.n=ch:=upd_same _ _ _;have F8:(N.start i ch k).pr i=k:=by show upd (upd N.pr i k) N.n ch i=_;rw[upd_ne _ _ aaq,upd_same]
 have CK:N.pr i≠.stop:=by rw[hs];simp
 have back:iV (γ i).give (w.at d) w:=⟨ai _,λ_ _=>rfl,rfl,rfl,rfl⟩;obtain⟨ri,hmi⟩:=oP (j:=i) F7 (by rw[<-F8];exact pX i (qz nQ)) (λe h0=>BF (by rw[<-h0,F8,e])) (hk w back);obtain⟨rn,hmn⟩:=oP (P:=P) (aa:=aa) (j:=N.n) (γ:=(γ i).give) (w:=w) (p:=ch) (g:=x0) Pq (by rw[<-hpn];exact pX N.n (vB _)) (λ_=>wq) (by rw[show(N.n==0)=false by simpa using wq];exact hch w back);have hti:=h.ti.start nQ hs g.frame.fn x0.frame.fn g.frame.place g.frame.place;have Ck:=xV i N.n g.frame.fn x0.frame.fn g.frame.place g.frame.place;have aR:∀(y:Nat)(x:Goroutine),((gs.setIfInBounds i g').push x0)[y]? =some x->(y=N.n/\x=x0)\/(y=i/\x=g')\/(y≠i/\y≠N.n/\gs[y]? =some x):=by
  intro y x hx;rw[Array.getElem?_push]at hx;split at hx;rename_i hy;rw[vG,h.size]at hy;exact .inl ⟨hy,(bG hx).symm⟩;rename_i hy;rw[vG,h.size]at hy;rcases dg hx with ⟨h1,h2⟩|⟨h1,h2⟩
  grind
  grind
 refine⟨_,_,upd (upd rk i ri) N.n rn,hrun,?_,Nat.succ_pos _,λy x hx=>?_,hti,λc hc=>?_,λy c' ok' z' k' x hx hb hp=>?_,λy y' c' v' k' ok' z' ZM x x' hx jY hb rQ hp sY=>?_,λx hx=>?_⟩;rw[Array.size_push,vG,h.size];rfl
 rcases aR y x hx with ⟨rfl,rfl⟩|⟨rfl,rfl⟩|⟨h1,h2,jY⟩;rw[upd_same,upd_same,hpn,dw Ck,h.ti.hears N.n (.inr (ai _))];exact hmn;rw[upd_ne _ _ aaq,upd_same,upd_ne _ _ aaq,upd_same,F8,dw Ck,h.ti.hears y (.inl CK)];exact hmi;rw[upd_ne _ _ h2,upd_ne _ _ h1,upd_ne _ _ h2,upd_ne _ _ h1,tj y h1 h2,dw Ck];exact h.mem y x jY;obtain⟨h3,h4⟩:=h.chan c hc;refine⟨h3,λy=>?_⟩;have hgv:¬((γ i).give).1 c/\¬((γ i).give).2 c:=⟨λhx=>hx.elim (h4 i).1 (h4 i).2,λhx=>hx⟩;by_cases h2:y=N.n;rw[h2,upd_same];exact hgv
 by_cases h1:y=i;rw[h1,upd_ne _ _ aaq,upd_same];exact hgv
 rw[upd_ne _ _ h2,upd_ne _ _ h1];exact h4 y
 rcases aR y x hx with ⟨rfl,rfl⟩|⟨rfl,rfl⟩|⟨h1,h2,jY⟩
 grind
 grind
 rw[tj y h1 h2]at hp;exact h.open_ y c' ok' z' k' x jY hb hp;rcases aR y x hx with ⟨rfl,rfl⟩|⟨rfl,rfl⟩|⟨h1,h2,MP⟩
 grind
 grind
 rcases aR y' x' jY with ⟨rfl,rfl⟩|⟨rfl,rfl⟩|⟨M7,h2',HV⟩
 grind
 grind
 rw[tj y h1 h2]at hp;rw[tj y' M7 h2']at sY;exact h.apart y y' c' v' k' ok' z' ZM x x' MP HV hb rQ hp sY;rcases aR 0 x hx with ⟨h1,-⟩|⟨h1,rfl⟩|⟨_,_,jY⟩
 grind
 have h1:i=0:=h1.symm;subst h1;have jU:=ru (b:=False) hP true g (h.frames g hi) (w.at d);rw[show stepG P true g (w.at d)=_ from hst]at jU;exact jU.2;exact h.frames x jY
end Go.Co
namespace Go.Co
open Go Go.Conc
open Go.ConcN (sumTo upd upd_same upd_ne)
variable {P:Program} {aa:Machine->Trace->Prop} {Cs:Nat->Prop} {N:Net} {γ:Nat->So} {rk:Nat->Tr} {tp:Nat} {gs:Array Goroutine} {w:World} {t:Trace}
theorem Se{a a':Goroutine}{w':World}{o:Goroutine}(hm:mayWake P a=true)(hr:a'.status=.running):Conc.woken P a a' w' o=o.again w':=by unfold Conc.woken;simp[hm,hr]
theorem Mem.shut {j d dd:Nat}{γ:So}{w:World}{p:Pc}{r:Tr}{g:Goroutine}{c s:Nat}{tm:Bool}{a a':Goroutine}(h:Mem P aa j d γ w p r g)(hp:p≠.ret)(hm:mayWake P a=true)(hr:a'.status=.running)
  (hcw:∃x,w.heap[c]? =some x) (hrel:iV γ w ((w.at dd).setChan c 0 #[] true s s tm))
  (hsend:∀c' v k,p=.send c' v k->c'≠c/\∃s tm,w.heap[c']? =some (.chan 0 #[] false s s tm))
  (hrecv:∀c' ok z k,p=.recv c' ok z k->g.status=.blocked->∃s tm,w.heap[c']? =some (.chan 0 #[] false s s tm)):
  ∃r',Mem P aa j d γ ((w.at dd).setChan c 0 #[] true s s tm) p r' (Conc.woken P a a' ((w.at dd).setChan c 0 #[] true s s tm) g)/\
   (∀c' ok z k,p=.recv c' ok z k->(Conc.woken P a a' ((w.at dd).setChan c 0 #[] true s s tm) g).status=.blocked->g.status=.blocked/\c'≠c)/\
   ((Conc.woken P a a' ((w.at dd).setChan c 0 #[] true s s tm) g).status=.blocked->g.status=.blocked)/\(Conc.woken P a a' ((w.at dd).setChan c 0 #[] true s s tm) g).frame=g.frame/\(Conc.woken P a a' ((w.at dd).setChan c 0 #[] true s s tm) g).callers=g.callers/\(Conc.woken P a a' ((w.at dd).setChan c 0 #[] true s s tm) g).dying=g.dying:=by
 obtain⟨x,hx⟩:=hcw;have hlt:c<w.heap.size:=(aG.1 hx).1;have qP:∀c',c'≠c->((w.at dd).setChan c 0 #[] true s s tm).heap[c']? =w.heap[c']? :=λc' hc'=>by simp only[World.setChan,World.at];rw[fF (Ne.symm hc')]
 have ahm:((w.at dd).setChan c 0 #[] true s s tm).heap[c]? =some (Obj.chan 0 #[] true s s tm):=by simp[World.setChan,World.at,hlt]
 have h':=h.rely hp hrel;cases h with
 |stop n g h1 h2=>rw[woken_quitsD h2];exact⟨_,h',λ_ _ _ _ e=>aE,id,rfl,rfl,rfl⟩
 |ret r g h1 h2 h3=>exact absurd rfl hp
 |run p r g h1 h2=>have hgr:=dM h2;rw[woken_run hgr];exact⟨_,h',λ_ _ _ _ _ hb=>(by rw[hgr]at hb;cases hb),id,rfl,rfl,rfl⟩
 |send c' v k g z h1=>obtain⟨hne,s',tm',h2⟩:=hsend c' v k rfl;rw[woken_send_open a a' ((qP c' hne).trans h2)];exact⟨_,h',λ_ _ _ _ e=>aE,id,rfl,rfl,rfl⟩
 |recv c' ok z k g h1 h2=>by_cases hcc:c'=c;subst hcc;rw[Se hm hr,again_recv_closed ahm];refine⟨_,.run (.recv c' ok z k) .leaf _ ⟨ae,ae,ae⟩ (λw1 h3=>⟨⟨rfl,?_⟩,λx w2 h4=>?_⟩),λ_ _ _ _ _ hb=>(by cases hb),λhb=>(by cases hb),rfl,rfl,rfl⟩;have:=(h1 w1 (gU hrel h3)).2;have e:stepG P (j==0) {parked g #[rcase c' z] (.recv ok)with status:=.running} w1=stepG P (j==0) (core g) w1:=stepG_same rfl rfl rfl w1;rw[e];exact this;exact h2 x w2 (gU (gU hrel h3) h4);obtain⟨s',tm',h3⟩:=hrecv c' ok z k rfl rfl;rw[woken_recv_open a a' ((qP c' hcc).trans h3)];exact⟨_,h',λ_ _ _ _ e _=>(by cases e;exact⟨rfl,hcc⟩),id,rfl,rfl,rfl⟩
end Go.Co
namespace Go.Co
open Go Go.Conc
open Go.ConcN (sumTo upd upd_same upd_ne)
variable {P:Program} {aa:Machine->Trace->Prop} {Cs:Nat->Prop} {N:Net} {γ:Nat->So} {rk:Nat->Tr} {tp:Nat} {gs:Array Goroutine} {w:World} {t:Trace}
open Classical in
theorem XO(hP:Plain P)(h:x8 P aa Cs N γ rk tp gs w t)(hno:∀j,j<N.n->N.pr j≠.ret/\N.pr j≠.bad)(hsend:∀i c v k,i<N.n->N.pr i=.send c v k->N.cl c=none/\Cs c)(hrecv:∀j c ok z k,j<N.n->N.pr j=.recv c ok z k->Cs c)
  {i c:Nat} {k:Pc} {g g':Goroutine} {d:Nat} {sl:Option (Nat×Nat)} (hi:gs[i]? =some g) (hs:N.pr i=.close c k) (wK:N.cl c=none) (nR:Cs c) (hmw:mayWake P g=true) (F7:g'.status=.running)
  (hst:∀s r tm,(w.at d).heap[c]? =some (.chan 0 #[] false s r tm)->stepG P (i==0) g (w.at d)=.go g' ((w.at d).setChan c 0 #[] true s r tm) (closeEvents c))
  (hk:∀w1,iV (γ i) w w1->Pr P aa (i==0) k (γ i) g' w1) (HY:∀j v k',j<N.n->N.pr j≠.send c v k') (Ds:Dp Cs (N.shut i c k)):
  ∃gs' w' ops F6,runT P (crowd gs (w.at d) sl) i=(.next (crowd gs' w' sl),ops)/\x8 P aa Cs (N.shut i c k) γ F6 tp gs' w' (t++ops):=by
 have hlt:i<gs.size:=(aG.1 hi).1;have nQ:i<N.n:=by rw[<-h.size];exact hlt
 obtain⟨⟨s,tm,hc⟩,FF⟩:=h.chan c nR;rw[wK]at hc;have hst:=hst s s tm hc;have hrun:=runT_crowd_go (P:=P) (sl:=sl) hi hst;obtain⟨BF,pX⟩:=Is Ds;have tj:∀y,y≠i->(N.shut i c k).pr y=N.pr y:=λy h1=>upd_ne _ _ h1;have F8:(N.shut i c k).pr i=k:=upd_same _ _ _;have CK:N.pr i≠.stop:=by rw[hs];simp
 have hrel:∀y,iV (γ y) w ((w.at d).setChan c 0 #[] true s s tm):=λy=>BV (FF y) _ _ _ _ _ _ _ _;have hu:∀op∈MemOp.ofEvents i g.frame.fn g.frame.place (closeEvents c),op.g=i:=λop hop=>by rw[ofEvents_eq]at hop;obtain⟨e,_,rfl⟩:=gp.1 hop;rfl
 obtain⟨ri,hmi⟩:=oP (P:=P) (aa:=aa) (j:=i) (γ:=γ i) (w:=(w.at d).setChan c 0 #[] true s s tm) (p:=k) (g:=g') F7 (by rw[<-F8];exact pX i nQ) (λe h0=>BF (by rw[<-h0,F8,e])) (hk _ (hrel i));have dX:∀(y:Nat)(x:Goroutine),y≠i->gs[y]? =some x->_:=λy x hy hx=>(h.mem y x hx).shut (a:=g) (a':=g') (c:=c) (s:=s) (tm:=tm) (dd:=d) (hno y (by rw[<-h.size];exact(aG.1 hx).1)).1 hmw F7 ⟨_,hc⟩ (hrel y)
  (λc' v k' e=>by
   have MV:y<N.n:=by rw[<-h.size];exact(aG.1 hx).1
   obtain⟨h1,h2⟩:=hsend y c' v k' MV e;obtain⟨⟨s0,ZF,h3⟩,-⟩:=h.chan c' h2;rw[h1]at h3;exact⟨λe2=>HY y v k' MV (e2▸e),s0,ZF,h3⟩)
  (λc' ok z k' e hb=>by
   have MV:y<N.n:=by rw[<-h.size];exact(aG.1 hx).1
   have h1:=h.open_ y c' ok z k' x hx hb e;obtain⟨⟨s0,ZF,h3⟩,-⟩:=h.chan c' (hrecv y c' ok z k' MV e);rw[h1]at h3;exact⟨s0,ZF,h3⟩)
 have hex:∀y:Nat,∃r',∀x:Goroutine,y≠i->gs[y]? =some x->Mem P aa y (Deaf t y) (γ y) ((w.at d).setChan c 0 #[] true s s tm) (N.pr y) r' (Conc.woken P g g' ((w.at d).setChan c 0 #[] true s s tm) x):=by intro y;by_cases hy:y≠i/\∃x,gs[y]? =some x;obtain⟨hy,x,hx⟩:=hy;obtain⟨r',h1,-⟩:=dX y x hy hx;exact⟨r',λx' _ jY=>by rw[hx]at jY;cases jY;exact h1⟩;exact⟨.leaf,λx h1 h2=>absurd ⟨h1,x,h2⟩ hy⟩
 have aR:∀(y:Nat)(x:Goroutine),((gs.map (Conc.woken P g g' ((w.at d).setChan c 0 #[] true s s tm))).setIfInBounds i g')[y]? =some x->(y=i/\x=g')\/(y≠i/\∃x0,gs[y]? =some x0/\x=Conc.woken P g g' ((w.at d).setChan c 0 #[] true s s tm) x0):=by grind
 have BC:((w.at d).setChan c 0 #[] true s s tm).heap.size=w.heap.size:=by simp[World.setChan,World.at]
 refine⟨_,_,_,upd (λy=>Classical.choose (hex y)) i ri,hrun,(by rw[vG,Array.size_map];exact h.size),h.pos,λy x hx=>?_,(by rw[BC];exact h.ti.shut nQ hs _ _),λc' hc'=>?_,λy c' ok' z' k' x hx hb hp=>?_,λy y' c' v' k' ok' z' ZM x x' hx jY hb rQ hp sY=>?_,λx hx=>?_⟩;rcases aR y x hx with ⟨rfl,rfl⟩|⟨hy,x0,J2,rfl⟩;rw[upd_same,F8,Deaf_own,h.ti.hears y (.inl CK)];exact hmi;rw[upd_ne _ _ hy,tj y hy,Deaf_other t (Ne.symm hy) _ hu];exact vD (hex y) x0 hy J2;obtain⟨⟨s0,ZF,h3⟩,h4⟩:=h.chan c' hc';refine⟨?_,h4⟩;by_cases hcc:c'=c;subst hcc;have hl:c'<w.heap.size:=(aG.1 h3).1;refine⟨s,tm,?_⟩;show _=some (Obj.chan 0 #[] (upd N.cl c' _ c').isSome s s tm);rw[upd_same];simp[World.setChan,World.at,hl];refine⟨s0,ZF,?_⟩;show _=some (Obj.chan 0 #[] (upd N.cl c _ c').isSome s0 s0 ZF);rw[upd_ne _ _ hcc];simp only[World.setChan,World.at];rw[fF (Ne.symm hcc)];exact h3;rcases aR y x hx with ⟨rfl,rfl⟩|⟨hy,x0,J2,rfl⟩
 grind
 rw[tj y hy]at hp;obtain⟨_,-,h2,-⟩:=dX y x0 hy J2;obtain⟨h3,h4⟩:=h2 c' ok' z' k' hp hb;show upd N.cl c _ c'=none;rw[upd_ne _ _ h4];exact h.open_ y c' ok' z' k' x0 J2 h3 hp;rcases aR y x hx with ⟨rfl,rfl⟩|⟨hy,x0,J2,rfl⟩
 grind
 rcases aR y' x' jY with ⟨rfl,rfl⟩|⟨Zm,x1,MP,rfl⟩
 grind
 rw[tj y hy]at hp;rw[tj y' Zm]at sY;obtain⟨_,-,-,h2,-⟩:=dX y x0 hy J2;obtain⟨_,-,-,h2',-⟩:=dX y' x1 Zm MP;exact h.apart y y' c' v' k' ok' z' ZM x0 x1 J2 MP (h2 hb) (h2' rQ) hp sY;rcases aR 0 x hx with ⟨h1,rfl⟩|⟨hy,x0,J2,rfl⟩;have h1:i=0:=h1.symm;subst h1;have jU:=ru (b:=False) hP true g (h.frames g hi) (w.at d);rw[show stepG P true g (w.at d)=_ from hst]at jU;exact jU.2.1;obtain⟨_,-,-,-,h2,h3,h4⟩:=dX 0 x0 hy J2;have:=h.frames x0 J2;unfold Fr at*;rw[h2,h3,h4];exact this
end Go.Co
namespace Go.Co
open Go Go.Conc
open Go.ConcN (sumTo upd upd_same upd_ne)
variable {P:Program} {aa:Machine->Trace->Prop} {Cs:Nat->Prop}
def Bz(n:Nat)(rk:Nat->Tr):List Tr:=(List.range n).map rk
theorem SU{n i:Nat}{rk:Nat->Tr}{r:Tr}(hi:i<n):Bz n (upd rk i r)=(Bz n rk).set i r:=by
 apply nj;intro j;unfold Bz;rw[aN];by_cases hj:i=j;subst hj;simp[hi,upd_same];by_cases ov:j<n;simp[hj,ov,upd_ne _ _ (Ne.symm hj)]
 grind
theorem zo{n i:Nat}{rk:Nat->Tr}{r:Tr}(hi:i<n)(h:TLt r (rk i)):LLt (Bz n (upd rk i r)) (Bz n rk):=by rw[SU hi];exact .mk _ i (rk i) r (by simp[Bz,hi]) h
variable {N:Net} {γ:Nat->So} {rk:Nat->Tr} {tp:Nat} {gs:Array Goroutine} {w:World} {t:Trace}
theorem yG(h:x8 P aa Cs N γ rk tp gs w t){i:Nat}(hi:i<N.n):∃g,gs[i]? =some g:=by
 have:i<gs.size:=by rw[h.size];exact hi
 exact⟨gs[i],b7 this⟩
theorem XM(h:x8 P aa Cs N γ rk tp gs w t)
  (hen:(∃i j c v k ok z k',i<N.n/\j<N.n/\N.pr i=.send c v k/\N.pr j=.recv c ok z k')\/(∃i c k,i<N.n/\N.pr i=.close c k)\/(∃j c ok z k E,j<N.n/\N.pr j=.recv c ok z k/\N.cl c=some E)\/(∃i ch k,i<N.n/\N.pr i=.go ch k)):
  ∃(i:Nat)(g:Goroutine),gs[i]? =some g/\g.status=.running:=by
 rcases hen with ⟨i,j,c,v,k,ok,z,k',hi,hj,F8,J4⟩|⟨i,c,k,hi,hp⟩|⟨j,c,ok,z,k,E,hj,hp,hE⟩|⟨i,ch,k,hi,hp⟩;obtain⟨g,hg⟩:=yG h hi;obtain⟨g',rT⟩:=yG h hj;have hm:=h.mem i g hg;have J5:=h.mem j g' rT;rw[F8]at hm;rw[J4]at J5;rcases hm.awake with e|e|e
 grind
 rcases J5.awake with e'|e'|e'
 grind
 exact(h.apart i j c v k ok z k' g g' hg rT e e' F8 J4).elim;generalize rk j=rj at J5;cases J5 with
 |run p r g h1 h2=>rw[dM h2]at e';cases e'
 |recv _ _ _ _ g h1 h2=>cases e'
 generalize rk i=ri at hm;cases hm with
 |run p r g h1 h2=>rw[dM h2]at e;cases e
 |send _ _ _ g _ h1=>cases e
 obtain⟨g,hg⟩:=yG h hi;have hm:=h.mem i g hg;rw[hp]at hm;generalize rk i=ri at hm;cases hm with
 |run p r g h1 h2=>exact⟨i,_,hg,dM h2⟩
 obtain⟨g,hg⟩:=yG h hj;have hm:=h.mem j g hg;rw[hp]at hm;generalize rk j=rj at hm;cases hm with
 |run p r g h1 h2=>exact⟨j,_,hg,dM h2⟩
 |recv _ _ _ _ g h1 h2=>rw[h.open_ j c ok z k _ hg rfl hp]at hE;cases hE
 obtain⟨g,hg⟩:=yG h hi;have hm:=h.mem i g hg;rw[hp]at hm;generalize rk i=ri at hm;cases hm with
 |run p r g h1 h2=>exact⟨i,_,hg,dM h2⟩
end Go.Co
