import Derived.Test.YtedcgbkilmlbhaaGreatPk22
section
namespace Go.Co
open Go Go.Conc
open Go.ConcN (sumTo upd upd_same upd_ne)
variable {P:Program} {af:Machine→Trace→Prop}
def BO (P:Program) (af:Machine→Trace→Prop) (main:Bool):Pc→So→Goroutine→World→Prop
 | .send c v k=>fun γ g w=>AtSend P main c v g w∧∀ w1,jd γ w w1→Pr P af main k γ (Conc.served g undef) w1
 | .recv c ok z k=>fun γ g w=>AtRecv P main c ok z g w∧∀ x w1,jd γ w w1→Pr P af main (k x) γ (Conc.served g (recvd ok (x.getD z) x.isSome)) w1
 | .close c k=>fun γ g w=>g.status = .running∧mayWake P g=true∧∃ g',g'.status = .running∧(∀ s r tm,w.heap[c]? = some (.chan 0 #[] false s r tm)→stepG P main g w = .go g' (w.setChan c 0 #[] true s r tm) (closeEvents c))∧∀ w1,jd γ w w1→Pr P af main k γ g' w1
 | .go child k=>fun γ g w=>g.status = .running∧∃ g' ch,g'.status = .running∧stepG P main g w = .spawn g' ch w∧ch.status = .running∧(∀ w1,jd γ.give w w1→Pr P af false child γ.give ch w1)∧∀ w1,jd γ.give w w1→Pr P af main k γ.give g' w1
 | _=>fun _ _ _=>False
def Pc.live (p:Pc):Prop:=p ≠ .stop∧p ≠ .ret∧p ≠ .bad
theorem Mq {main:Bool} {p:Pc} (hp:p.live) {γ:So} {g:Goroutine} {w:World} (h:Pr P af main p γ g w):∃ r,U5 P main jd GG (BO P af main p) r γ g w:=by
 cases p with
 | stop=>exact absurd rfl hp.1
 | ret=>exact absurd rfl hp.2.1
 | bad=>exact absurd rfl hp.2.2
 | send c v k=>exact h
 | recv c ok z k=>exact h
 | close c k=>exact h
 | go ch k=>exact h
theorem Gh {main:Bool} {p:Pc} {γ:So} {g:Goroutine} {w:World} (h:BO P af main p γ g w):g.status = .running:=by
 cases p with
 | send c v k=>exact h.1.1
 | recv c ok z k=>exact h.1.1
 | close c k=>exact h.1
 | go ch k=>exact h.1
 | stop=>exact h.elim
 | ret=>exact h.elim
 | bad=>exact h.elim
theorem yh (γ:So) (w:World) (d:Nat):jd γ w (w.at d):=⟨ak _,fun _ _=>rfl,rfl,rfl,rfl⟩
theorem iM (γ:So) (w:World):jd γ w w:=SD _ _ _
theorem dO {main:Bool} {p:Pc} {r:Tr} {γ:So} {g:Goroutine} {w:World} (h:U5 P main jd GG (BO P af main p) r γ g w):g.status = .running:=by
 cases r with
 | leaf=>exact Gh (h w (iM _ _))
 | node f=>exact h.1
inductive Mem (P:Program) (af:Machine→Trace→Prop) (j d:Nat) (γ:So) (w:World):Pc→Tr→Goroutine→Prop
 | stop (n:Nat) (g:Goroutine):j≠0→QuitsD P n d g→Mem P af j d γ w .stop (Tr.nat n) g
 | ret (r:Tr) (g:Goroutine):g.status = .running→g.dying=none→iz P af () g w→Mem P af j d γ w .ret r g
 | run (p:Pc) (r:Tr) (g:Goroutine):p.live→U5 P (j==0) jd GG (BO P af (j==0) p) r γ g w→Mem P af j d γ w p r.up g
 | send (c:Nat) (v:Value) (k:Pc) (g:Goroutine) (z:Value):(∀ w1,jd γ w w1→Pr P af (j==0) k γ (Conc.served g undef) w1)→Mem P af j d γ w (.send c v k) .leaf (parked g #[scase c v z] .send)
 | recv (c:Nat) (ok:Bool) (z:Value) (k:Option Value→Pc) (g:Goroutine):(∀ w1,jd γ w w1→AtRecv P (j==0) c ok z (core g) w1)→(∀ x w1,jd γ w w1→Pr P af (j==0) (k x) γ (Conc.served g (recvd ok (x.getD z) x.isSome)) w1)→Mem P af j d γ w (.recv c ok z k) .leaf (parked g #[rcase c z] (.recv ok))
theorem nS {j:Nat} {γ:So} {w:World} {p:Pc} {g:Goroutine} (hs:g.status = .running) (hb:p ≠ .bad) (h0:p = .stop→j≠0) (h:Pr P af (j==0) p γ g w):∃ r,Mem P af j 0 γ w p r g:=by
 by_cases h1:p = .stop
 ·subst h1
  obtain⟨n,hn⟩:=h
  exact⟨_,.stop n g (h0 rfl) hn⟩
 ·by_cases h2:p = .ret
  ·subst h2
   exact⟨.leaf,.ret _ _ hs h.1 h.2⟩
  ·obtain⟨r,hr⟩:=Mq ⟨h1,h2,hb⟩ h
   exact⟨_,.run p r g ⟨h1,h2,hb⟩ hr⟩
structure wo (P:Program) (af:Machine→Trace→Prop) (Cs:Nat→Prop) (N:Net) (γ:Nat→So) (rk:Nat→Tr) (tp:Nat) (gs:Array Goroutine) (w:World) (t:Trace):Prop where
 size:gs.size=N.n
 pos:0<N.n
 mem:∀ j g,gs[j]? = some g→Mem P af j (Deaf t j) (γ j) w (N.pr j) (rk j) g
 ti:TI N γ w.heap.size tp t
 chan:∀ c,Cs c→(∃ s tm,w.heap[c]? = some (.chan 0 #[] (N.cl c).isSome s s tm))∧∀ j,¬ (γ j).1 c∧¬ (γ j).2 c
 open_:∀ j c ok z k g,gs[j]? = some g→g.status = .blocked→N.pr j = .recv c ok z k→N.cl c=none
 apart:∀ i j c v k ok z k' g g',gs[i]? = some g→gs[j]? = some g'→g.status = .blocked→g'.status = .blocked→N.pr i = .send c v k→N.pr j = .recv c ok z k'→False
 frames:∀ g,gs[0]? = some g→Fr g
theorem Mem.rely {j d:Nat} {γ:So} {w w1:World} {p:Pc} {r:Tr} {g:Goroutine} (hp:p ≠ .ret) (h:Mem P af j d γ w p r g) (hr:jd γ w w1):Mem P af j d γ w1 p r g:=by
 cases h with
 | stop n g h1 h2=>exact .stop n g h1 h2
 | ret r g h1 h2 h3=>exact absurd rfl hp
 | run p r g h1 h2=>exact .run p r g h1 (Cc DM h2 hr)
 | send c v k g z h1=>exact .send c v k g z fun w2 h2=>h1 w2 (ij hr h2)
 | recv c ok z k g h1 h2=>exact .recv c ok z k g (fun w2 h3=>h1 w2 (ij hr h3)) fun x w2 h3=>h2 x w2 (ij hr h3)
theorem I2 {N:Net} {γ:Nat→So} {tp:Nat} {t:Trace} {w w':World} {i j:Nat} (h:TI N γ w.heap.size tp t) (Li:j≠i) {O':Nat→Prop} {es:Array Event} (hs:Sto (γ i).1 (γ i).2 w O' w' es):jd (γ j) w w':=by
 obtain⟨-,h2,h3,h4,h5,h6,-⟩:=hs
 refine⟨h2,fun b hb=>h3 b (h.E0 j b hb) fun hO => ?_,h4,h5,h6⟩
 have:=h.wG i j b hO
 rcases hb with hb | hb
 ·exact this.1 hb
 ·exact this.2 (Ne.symm Li) hb
theorem Mem.awake {j d:Nat} {γ:So} {w:World} {p:Pc} {r:Tr} {g:Goroutine} (h:Mem P af j d γ w p r g):g.status = .running∨g.status = .blocked∨g.status = .finished:=by
 cases h with
 | stop n g h1 h2=>exact h2.status.imp id .inr
 | ret r g h1 h2 h3=>exact .inl h1
 | run p r g h1 h2=>exact .inl (dO h2)
 | send c v k g z h1=>exact .inr (.inl rfl)
 | recv c ok z k g h1 h2=>exact .inr (.inl rfl)
theorem Mem.woken {j d:Nat} {γ:So} {w w':World} {p:Pc} {r:Tr} {g:Goroutine} (h:Mem P af j d γ w p r g) (hc:∀ c,(∃ v k,p = .send c v k)∨(∃ ok z k,p = .recv c ok z k)→g.status = .blocked→∃ s tm,w'.heap[c]? = some (.chan 0 #[] false s s tm)) (a a':Goroutine):Conc.woken P a a' w' g=g:=by
 cases h with
 | stop n g h1 h2=>exact woken_quitsD h2
 | ret r g h1 h2 h3=>exact woken_run h1
 | run p r g h1 h2=>exact woken_run (dO h2)
 | send c v k g z h1 =>
  obtain⟨s,tm,h⟩:=hc c (.inl ⟨v,k,rfl⟩) rfl
  exact woken_send_open a a' h
 | recv c ok z k g h1 h2 =>
  obtain⟨s,tm,h⟩:=hc c (.inr ⟨ok,z,k,rfl⟩) rfl
  exact woken_recv_open a a' h
open Classical in
theorem Tg {Cs:Nat→Prop} {N:Net} {γ:Nat→So} {rk:Nat→Tr} {tp:Nat} {gs:Array Goroutine} {w:World} {sl:Option (Nat×Nat)} {t:Trace} (h:wo P af Cs N γ rk tp gs w t)
  (h0:N.pr 0 = .ret) (hd:∀ j,0<j→j<N.n→N.pr j = .stop∧N.D 0 j):UA P af (crowd gs w sl) t:=by
 have hlt:0<gs.size:=by rw[h.size]; exact h.pos
 obtain⟨g,hg⟩:∃ g,gs[0]? = some g:=⟨gs[0],bW hlt⟩
 have hm:=h.mem 0 g hg
 rw[h0] at hm
 generalize hrk:rk 0=r at hm
 cases hm with
 | run p r g h1 h2=>exact absurd rfl h1.2.1
 | ret r g h1 h2 h3 =>
  have hq:∀ j,∃ n,∀ x,0<j→gs[j]? = some x→QuitsD P n (Deaf t j) x:=by
   intro j
   by_cases hj:0<j∧∃ x,gs[j]? = some x
   ·obtain⟨hj,x,hx⟩:=hj
    have mN:j<N.n:=by rw[← h.size]; exact(aR.1 hx).1
    have hmj:=h.mem j x hx
    rw[(hd j hj mN).1] at hmj
    generalize Pb:rk j=r2 at hmj
    cases hmj with
    | stop n g h4 h5=>exact⟨n,fun y _ hy=>by rw[hx] at hy; cases hy; exact h5⟩
    | run p r g h4 h5=>exact absurd rfl h4.1
   ·exact⟨0,fun x h4 h5=>absurd ⟨h4,x,h5⟩ hj⟩
  have known:∀ i a,touchAt t i=some a→a.loc.isMemory=true→Knows t 0 i:=by
   intro i a ha pz
   rcases Nat.lt_or_ge i tp with hi | hi
   ·exact h.ti.pre i a 0 hi ha pz (by rw[h0]; simp) h.pos
   ·obtain⟨z,hz,-⟩:=touch_of ha
    have hgz:t.g? i=some z.g:=by unfold Trace.g?; rw[hz]; rfl
    by_cases GK:z.g=0
    ·exact yt (GK▸hgz)
    ·have hn:=h.ti.num i z.g hi hgz
     obtain⟨h4,h5⟩:=hd z.g (by omega) hn
     exact h.ti.kn i a z.g 0 hi ha hgz h4 h5 (.inl rfl) h.pos
  have Hq:og t:=by
   refine⟨h.ti.clean,known,fun i g hg hne hc => ?_,h.ti.hears 0 (.inl (by rw[h0]; simp))⟩
   obtain⟨x,hx,hm,-⟩:=hc
   obtain⟨q,z,hz,GK,hb⟩:=known i x hx hm
   have hzg:t.g? q=some 0:=by unfold Trace.g?; rw[hz]; simp[GK]
   rcases hb with rfl | hb
   ·rw[hzg] at hg
    exact absurd (cA hg).symm hne
   ·exact⟨q,hzg,hb⟩
  exact h3 w.drawn (h.frames g hg) h1 h2 gs sl t (fun j=>Classical.choose (hq j)) hg ⟨fun j x hj hx=>qQ (hq j) x hj hx,fun j hj=>h.ti.hears j (.inr (by rw[← h.size]; exact hj))⟩ Hq
theorem Mem.deaf {j d d':Nat} {γ:So} {w:World} {p:Pc} {r:Tr} {g:Goroutine} (hp:p ≠ .stop) (h:Mem P af j d γ w p r g):Mem P af j d' γ w p r g:=by
 cases h with
 | stop n g h1 h2=>exact absurd rfl hp
 | ret r g h1 h2 h3=>exact .ret r g h1 h2 h3
 | run p r g h1 h2=>exact .run p r g h1 h2
 | send c v k g z h1=>exact .send c v k g z h1
 | recv c ok z k g h1 h2=>exact .recv c ok z k g h1 h2
theorem cQ {gs:Array Goroutine} {i j:Nat} {g' x:Goroutine} (h:(gs.setIfInBounds i g')[j]? = some x):(j=i∧x=g')∨(j≠i∧gs[j]? = some x):=by
 by_cases gO:i=j
 ·subst gO
  by_cases hlt:i<gs.size
  ·rw[ko hlt] at h
   exact .inl ⟨rfl,(cA h).symm⟩
  ·rw[lp (by simpa using hlt)] at h; cases h
 ·rw[eG gO] at h
  exact .inr ⟨Ne.symm gO,h⟩
theorem Ev {gs:Array Goroutine} {i:Nat} {f:Goroutine→Goroutine} {g':Goroutine} (h:∀ (j:Nat) (x:Goroutine),j≠i→gs[j]? = some x→f x=x):(gs.map f).setIfInBounds i g'=gs.setIfInBounds i g':=by
 apply Array.ext_getElem?
 intro j
 by_cases hj:i=j
 ·subst hj
  by_cases hlt:i<gs.size
  ·rw[ko (by simpa using hlt),ko hlt]
  ·rw[lp (by simpa using hlt),lp (by simpa using hlt)]
 ·rw[eG hj,eG hj,qN]
  cases hx:gs[j]? with
  | none=>rfl
  | some x=>simp[h j x (Ne.symm hj) hx]
theorem wo.woken {Cs:Nat→Prop} {N:Net} {γ:Nat→So} {rk:Nat→Tr} {tp:Nat} {gs:Array Goroutine} {w w':World} {t:Trace} (h:wo P af Cs N γ rk tp gs w t)
  (hsend:∀ i c v k,i<N.n→N.pr i = .send c v k→N.cl c=none∧Cs c) (hrecv:∀ j c ok z k,j<N.n→N.pr j = .recv c ok z k→Cs c) (hc:∀ c,Cs c→w'.heap[c]? = w.heap[c]?) (a a':Goroutine) :
  ∀ (j:Nat) (x:Goroutine),gs[j]? = some x→Conc.woken P a a' w' x=x:=by
 intro j x hx
 have mN:j<N.n:=by rw[← h.size]; exact(aR.1 hx).1
 refine(h.mem j x hx).woken (fun c hcc hbl => ?_) a a'
 rcases hcc with ⟨v,k,hp⟩ | ⟨ok,z,k,hp⟩
 ·obtain⟨h1,h2⟩:=hsend j c v k mN hp
  obtain⟨⟨s,tm,h3⟩,-⟩:=h.chan c h2
  rw[h1] at h3
  exact⟨s,tm,(hc c h2).trans h3⟩
 ·have h2:=hrecv j c ok z k mN hp
  have h1:=h.open_ j c ok z k x hx hbl hp
  obtain⟨⟨s,tm,h3⟩,-⟩:=h.chan c h2
  rw[h1] at h3
  exact⟨s,tm,(hc c h2).trans h3⟩
theorem Sn (hP:Plain P) {Cs:Nat→Prop} {N:Net} {γ:Nat→So} {rk:Nat→Tr} {tp:Nat} {gs:Array Goroutine} {w:World} {t:Trace} (h:wo P af Cs N γ rk tp gs w t)
  (hno:∀ j,j<N.n→N.pr j ≠ .ret∧N.pr j ≠ .bad) (hsend:∀ i c v k,i<N.n→N.pr i = .send c v k→N.cl c=none∧Cs c) (hrecv:∀ j c ok z k,j<N.n→N.pr j = .recv c ok z k→Cs c)
  {i:Nat} {g g':Goroutine} {d:Nat} {sl:Option (Nat×Nat)} {w':World} {es:Array Event} {γ':So} {r':Tr} (hi:gs[i]? = some g) (hl:(N.pr i).live)
  (hst:stepG P (i==0) g (w.at d) = .go g' w' es) (hS:GG (γ i) (w.at d) γ' w' es) (hG:U5 P (i==0) jd GG (BO P af (i==0) (N.pr i)) r' γ' g' w') :
  runT P (crowd gs (w.at d) sl) i=(.next (crowd (gs.setIfInBounds i g') w' sl),MemOp.ofEvents i g.frame.fn g.frame.place es) ∧
  wo P af Cs N (upd γ i γ') (upd rk i r'.up) tp (gs.setIfInBounds i g') w' (t++MemOp.ofEvents i g.frame.fn g.frame.place es):=by
 obtain⟨XS,GC⟩:=hS
 have oI:i<N.n:=by rw[← h.size]; exact(aR.1 hi).1
 have hlt:i<gs.size:=(aR.1 hi).1
 have hγ:γ'=((γ i).1,γ'.2):=by rw[← XS]
 have LI:∀ c,Cs c→w'.heap[c]? = w.heap[c]? := by
  intro c hc
  obtain⟨⟨s,tm,h3⟩,h4⟩:=h.chan c hc
  refine GC.2.2.1 c ?_ (h4 i).2
  show c<w.heap.size
  exact(aR.1 h3).1
 have hrun:=runT_crowd_go (P:=P) (sl:=sl) hi hst
 rw[Ev fun j x _ hx=>h.woken hsend hrecv LI g g' j x hx] at hrun
 refine⟨hrun,?_⟩
 have hti:=h.ti.step oI hl.1 (O':=γ'.2) (es:=es) g.frame.fn g.frame.place (sz':=w'.heap.size) GC.2.1 GC.1 GC.2.2.2.2.2.2
 rw[← hγ] at hti
 have hrel:∀ j,j≠i→jd (γ j) w w':=fun j hj=>I2 h.ti hj (w:=w) (O':=γ'.2) (es:=es) ⟨GC.1,GC.2.1,GC.2.2.1,GC.2.2.2.1,GC.2.2.2.2.1,GC.2.2.2.2.2.1,GC.2.2.2.2.2.2⟩
 have lQ:=dO hG
 have hu:∀ op∈MemOp.ofEvents i g.frame.fn g.frame.place es,op.g=i:=fun op hop=>by rw[ofEvents_eq] at hop; obtain⟨e,_,rfl⟩:=gz.1 hop; rfl
 refine⟨by simpa using h.size,h.pos,fun j x hx => ?_,hti,fun c hc => ?_,fun j c ok z k x hx hb hp => ?_,fun j j' c v k ok z k' x x' hx jS hb nO hp rE => ?_,fun x hx => ?_⟩
 ·rcases cQ hx with ⟨rfl,rfl⟩ | ⟨hj,jS⟩
  ·rw[upd_same,upd_same]
   exact .run _ r' x hl hG
  ·rw[upd_ne _ _ hj,upd_ne _ _ hj,Deaf_other t (Ne.symm hj) _ hu]
   have mN:j<N.n:=by rw[← h.size]; exact(aR.1 jS).1
   exact(h.mem j x jS).rely (hno j mN).1 (hrel j hj)
 ·obtain⟨⟨s,tm,h3⟩,h4⟩:=h.chan c hc
  refine⟨⟨s,tm,(LI c hc).trans h3⟩,fun j => ?_⟩
  by_cases hj:j=i
  ·subst hj
   rw[upd_same]
   refine⟨by rw[XS]; exact(h4 j).1,fun hO => ?_⟩
   rcases (GC.1 c).1 hO with h5 | ⟨h5,-⟩
   ·exact(h4 j).2 h5
   ·have:c<w.heap.size:=(aR.1 h3).1
    have h5':w.heap.size≤c:=h5
    omega
  ·rw[upd_ne _ _ hj]
   exact h4 j
 ·rcases cQ hx with ⟨rfl,rfl⟩ | ⟨hj,jS⟩
  ·rw[lQ] at hb; cases hb
  ·exact h.open_ j c ok z k x jS hb hp
 ·rcases cQ hx with ⟨rfl,rfl⟩ | ⟨hj,GL⟩
  ·rw[lQ] at hb; cases hb
  ·rcases cQ jS with ⟨rfl,rfl⟩ | ⟨wB,C2⟩
   ·rw[lQ] at nO; cases nO
   ·exact h.apart j j' c v k ok z k' x x' GL C2 hb nO hp rE
 ·rcases cQ hx with ⟨A5,rfl⟩ | ⟨hj,jS⟩
  ·subst A5
   have jF:=qd (b:=False) hP true g (h.frames g hi) (w.at d)
   rw[show stepG P true g (w.at d)=_ from hst] at jF
   exact jF.2.1
  ·exact h.frames x jS
end Go.Co
end
section
namespace Go.Co
open Go Go.Conc
open Go.ConcN (sumTo upd upd_same upd_ne)
variable {P:Program} {af:Machine→Trace→Prop} {Cs:Nat→Prop} {N:Net} {γ:Nat→So} {rk:Nat→Tr} {tp:Nat} {gs:Array Goroutine} {w:World} {t:Trace}
theorem JU (h:wo P af Cs N γ rk tp gs w t) (hno:∀ j,j<N.n→N.pr j ≠ .ret∧N.pr j ≠ .bad) (d:Nat):wo P af Cs N γ rk tp gs (w.at d) t :=
 ⟨h.size,h.pos,fun j x hx=>(h.mem j x hx).rely (hno j (by rw[← h.size]; exact(aR.1 hx).1)).1 (yh _ _ _),h.ti,h.chan,h.open_,h.apart,h.frames⟩
theorem Ss (h:wo P af Cs N γ rk tp gs w t)
  {i n:Nat} {g g':Goroutine} {sl:Option (Nat×Nat)} {es:Array Event} (hi:gs[i]? = some g) (hp:N.pr i = .stop) (A5:i≠0)
  (hm:∀ e∈es,Event.mute e=true) (hst:∀ w,stepG P false g w = .go g' w es) (hq:QuitsD P n (deafBehind (Deaf t i) es) g')
  (hsend:∀ i c v k,i<N.n→N.pr i = .send c v k→N.cl c=none∧Cs c) (hrecv:∀ j c ok z k,j<N.n→N.pr j = .recv c ok z k→Cs c) :
  runT P (crowd gs w sl) i=(.next (crowd (gs.setIfInBounds i g') w sl),MemOp.ofEvents i g.frame.fn g.frame.place es) ∧
  wo P af Cs N γ (upd rk i (Tr.nat n)) tp (gs.setIfInBounds i g') w (t++MemOp.ofEvents i g.frame.fn g.frame.place es):=by
 have hlt:i<gs.size:=(aR.1 hi).1
 have oI:i<N.n:=by rw[← h.size]; exact hlt
 have hib:(i==0)=false:=by simpa using A5
 have hrun:=runT_crowd_go (P:=P) (sl:=sl) hi (by rw[hib]; exact hst w)
 rw[Ev fun j x _ hx=>h.woken hsend hrecv (fun _ _=>rfl) g g' j x hx] at hrun
 refine⟨hrun,?_⟩
 have hu:∀ op∈MemOp.ofEvents i g.frame.fn g.frame.place es,op.g=i∧op.act.touch? = none:=fun op hop=>by
  rw[ofEvents_eq] at hop
  obtain⟨e,he,rfl⟩:=gz.1 hop
  exact⟨rfl,touch_mute (hm e he)⟩
 have hti:TI N γ w.heap.size tp (t++MemOp.ofEvents i g.frame.fn g.frame.place es):=by
  refine h.ti.move (fun op hop=>(hu op hop).2) (fun j hj => ?_) (ak _) (fun op hop=>by rw[(hu op hop).1]; exact oI) (fun j hj mN=>⟨j,mN,hj,fun x hx=>hx.app _,fun b hb => .inl hb⟩) (fun _ _ hb=>hb) ?_ ?_ h.ti.wG h.ti.E0 h.ti.Lt h.ti.dst
  ·have gO:j≠i:=by
    rcases hj with h1 | h1
    ·exact fun e=>h1 (e▸hp)
    ·omega
   rw[Deaf_other t (Ne.symm gO) _ fun op hop=>(hu op hop).1]
   exact h.ti.hears j hj
  ·intro x y hD hy hx DD q a Jv ha hg
   exact(h.ti.kn q a y x Jv ha hg hy hD hx DD).app _
  ·intro c E hE
   obtain⟨q,z,Jv,hz,hh,hk⟩:=h.ti.kc c E hE
   exact⟨q,z,by rw[getElem?_append_old (lt_size_of_getElem? Jv)]; exact Jv,hz,(heard_old (lt_size_of_getElem? Jv)).2 hh,fun x a y hx ha hgx PM=>(hk x a y hx ha hgx PM).app _⟩
 refine⟨by simpa using h.size,h.pos,fun j x hx => ?_,hti,h.chan,fun j c ok z k x hx hb wz => ?_,fun j j' c v k ok z k' x x' hx jS hb nO wz yb => ?_,fun x hx => ?_⟩
 ·rcases cQ hx with ⟨rfl,rfl⟩ | ⟨hj,jS⟩
  ·rw[hp,upd_same,Deaf_own]
   exact .stop n x A5 hq
  ·rw[upd_ne _ _ hj,Deaf_other t (Ne.symm hj) _ fun op hop=>(hu op hop).1]
   exact h.mem j x jS
 ·rcases cQ hx with ⟨rfl,rfl⟩ | ⟨hj,jS⟩
  ·rw[hp] at wz; cases wz
  ·exact h.open_ j c ok z k x jS hb wz
 ·rcases cQ hx with ⟨rfl,rfl⟩ | ⟨hj,GL⟩
  ·rw[hp] at wz; cases wz
  ·rcases cQ jS with ⟨rfl,rfl⟩ | ⟨wB,C2⟩
   ·rw[hp] at yb; cases yb
   ·exact h.apart j j' c v k ok z k' x x' GL C2 hb nO wz yb
 ·rcases cQ hx with ⟨aeP,rfl⟩ | ⟨hj,jS⟩
  ·exact absurd aeP.symm A5
  ·exact h.frames x jS
theorem HU (h:wo P af Cs N γ rk tp gs w t) {i:Nat} {g x0:Goroutine} (hi:gs[i]? = some g) (hf:x0.frame=g.frame) (hc:x0.callers=g.callers) (hd:x0.dying=g.dying)
  (hm:Mem P af i (Deaf t i) (γ i) w (N.pr i) .leaf x0) (hop:∀ c ok z k,N.pr i = .recv c ok z k→N.cl c=none)
  (PK:∀ j x c v k ok z k',j≠i→gs[j]? = some x→x.status = .blocked→(N.pr i = .send c v k→N.pr j = .recv c ok z k'→False)∧(N.pr j = .send c v k→N.pr i = .recv c ok z k'→False)) :
  wo P af Cs N γ (upd rk i .leaf) tp (gs.setIfInBounds i x0) w t:=by
 refine⟨by simpa using h.size,h.pos,fun j x hx => ?_,h.ti,h.chan,fun j c ok z k x hx hb wz => ?_,fun j j' c v k ok z k' x x' hx jS hb nO wz yb => ?_,fun x hx => ?_⟩
 ·rcases cQ hx with ⟨rfl,rfl⟩ | ⟨hj,jS⟩
  ·rw[upd_same]; exact hm
  ·rw[upd_ne _ _ hj]
   exact h.mem j x jS
 ·rcases cQ hx with ⟨rfl,rfl⟩ | ⟨hj,jS⟩
  ·exact hop c ok z k wz
  ·exact h.open_ j c ok z k x jS hb wz
 ·rcases cQ hx with ⟨rfl,rfl⟩ | ⟨hj,GL⟩
  ·rcases cQ jS with ⟨rfl,rfl⟩ | ⟨wB,C2⟩
   ·rw[wz] at yb; cases yb
   ·exact(PK j' x' c v k ok z k' wB C2 nO).1 wz yb
  ·rcases cQ jS with ⟨rfl,rfl⟩ | ⟨wB,C2⟩
   ·exact(PK j x c v k ok z k' hj GL hb).2 wz yb
   ·exact h.apart j j' c v k ok z k' x x' GL C2 hb nO wz yb
 ·rcases cQ hx with ⟨rfl,rfl⟩ | ⟨hj,jS⟩
  ·have:=h.frames g hi
   unfold Fr at *
   rw[hf,hc,hd]
   exact this
  ·exact h.frames x jS
end Go.Co
end
section
namespace Go.Co
open Go Go.Conc
open Go.ConcN (sumTo upd upd_same upd_ne)
variable {P:Program} {af:Machine→Trace→Prop} {Cs:Nat→Prop} {N:Net} {γ:Nat→So} {rk:Nat→Tr} {tp:Nat} {gs:Array Goroutine} {w:World} {t:Trace}
theorem Fh {N:Net} (h:A7 Cs N):N.pr 0 ≠ .stop∧∀ j,j<N.n→N.pr j ≠ .bad:=by
 cases h with
 | done _ h1 h2 =>
  refine⟨by rw[h1]; simp,fun j hj => ?_⟩
  by_cases h0:j=0
  ·rw[h0,h1]; simp
  ·rw[(h2 j (by omega) hj).1]; simp
 | step _ h1 h2=>exact⟨h2,fun j hj=>(h1 j hj).2⟩
theorem zN {γ:So} {c:Nat} (hc:¬ γ.1 c∧¬ γ.2 c) (w:World) (d cap:Nat) (buf:Array Value) (cl:Bool) (s r:Nat) (tm:Bool):jd γ w ((w.at d).setChan c cap buf cl s r tm):=by
 refine⟨by simp[World.setChan,World.at],fun b hb => ?_,rfl,rfl,rfl⟩
 have:c≠b:=by
  rintro rfl
  exact hb.elim hc.1 hc.2
 simp only[World.setChan,World.at]
 rw[eG this]
theorem HT (h:wo P af Cs N γ rk tp gs w t) (hno:∀ j,j<N.n→N.pr j ≠ .ret∧N.pr j ≠ .bad) {i j c s:Nat} {v:Value} {k:Pc} {ok:Bool} {z:Value} {kr:Option Value→Pc} (Li:i≠j) (hi:i<N.n) (hj:j<N.n) (oJ:Cs c)
  (hs:N.pr i = .send c v k) (hr:N.pr j = .recv c ok z kr) (uS:N.cl c=none) {gi gj:Goroutine} {gs':Array Goroutine} {d:Nat} {tm:Bool} {f f':FuncId} {p p':String}
  (hsz:gs'.size=gs.size) (hgi:gs'[i]? = some gi) (PG:gs'[j]? = some gj) (hgo:∀ y,y≠i→y≠j→gs'[y]? = gs[y]?)
  (hsi:gi.status = .running) (hsj:gj.status = .running) (A4:∀ w1,jd (γ i) w w1→Pr P af (i==0) k (γ i) gi w1) (wz:∀ w1,jd (γ j) w w1→Pr P af (j==0) (kr (some v)) (γ j) gj w1)
  (hfr:∀ x,gs'[0]? = some x→Fr x) (Ba:A7 Cs (N.meet i j k (kr (some v)))) :
  ∃ DC,wo P af Cs (N.meet i j k (kr (some v))) γ DC tp gs' ((w.at d).setChan c 0 #[] false (s+1) (s+1) tm) (t++eZ i j c s f f' p p'):=by
 have LI:=h.chan c oJ
 obtain⟨zw,Ak⟩:=Fh Ba
 have pN:∀ y,y≠i→y≠j→(N.meet i j k (kr (some v))).pr y=N.pr y:=fun y h1 h2=>by
  show upd (upd N.pr i k) j _ y=_
  rw[upd_ne _ _ h2,upd_ne _ _ h1]
 have yb:(N.meet i j k (kr (some v))).pr j=kr (some v):=upd_same _ _ _
 have ZL:(N.meet i j k (kr (some v))).pr i=k:=by
  show upd (upd N.pr i k) j _ i=_
  rw[upd_ne _ _ Li,upd_same]
 have hrel:∀ y,jd (γ y) w ((w.at d).setChan c 0 #[] false (s+1) (s+1) tm):=fun y=>zN (LI.2 y) _ _ _ _ _ _ _ _
 obtain⟨ri,Y4⟩:=nS hsi (by rw[← ZL]; exact Ak i hi) (fun e h0=>zw (by rw[← h0,ZL,e])) (A4 _ (hrel i))
 obtain⟨rj,hmj⟩:=nS hsj (by rw[← yb]; exact Ak j hj) (fun e h0=>zw (by rw[← h0,yb,e])) (wz _ (hrel j))
 have x4:N.pr i ≠ .stop:=by rw[hs]; simp
 have PF:N.pr j ≠ .stop:=by rw[hr]; simp
 have zo:((w.at d).setChan c 0 #[] false (s+1) (s+1) tm).heap.size=w.heap.size:=by simp[World.setChan,World.at]
 refine⟨upd (upd rk i ri) j rj,hsz.trans h.size,h.pos,fun y x hx => ?_,?_,fun c' hc' => ?_,fun y c' ok' z' k' x hx hb hp => ?_,fun y y' c' v' k' ok' z' UO x x' hx jS hb nO hp rE => ?_,hfr⟩
 ·by_cases h2:y=j
  ·subst h2
   rw[PG] at hx
   cases hx
   rw[upd_same,yb,di (jP _ _ _ _ _ _ _ _),h.ti.hears y (.inl PF)]
   exact hmj
  ·by_cases h1:y=i
   ·subst h1
    rw[hgi] at hx
    cases hx
    rw[upd_ne _ _ h2,upd_same,ZL,di (jP _ _ _ _ _ _ _ _),h.ti.hears y (.inl x4)]
    exact Y4
   ·rw[hgo y h1 h2] at hx
    rw[upd_ne _ _ h2,upd_ne _ _ h1,pN y h1 h2,di (jP _ _ _ _ _ _ _ _)]
    have Jr:y<N.n:=by rw[← h.size]; exact(aR.1 hx).1
    exact(h.mem y x hx).rely (hno y Jr).1 (hrel y)
 ·rw[zo]
  exact h.ti.meet hi hj Li hs hr f f' p p'
 ·obtain⟨⟨s0,UH,h3⟩,h4⟩:=h.chan c' hc'
  refine⟨?_,h4⟩
  by_cases hcc:c'=c
  ·subst hcc
   have hlt:c'<w.heap.size:=(aR.1 h3).1
   refine⟨s+1,tm,?_⟩
   show _=some (Obj.chan 0 #[] (N.cl c').isSome (s+1) (s+1) tm)
   rw[uS]
   simp[World.setChan,World.at,hlt]
  ·refine⟨s0,UH,?_⟩
   show ((w.at d).setChan c 0 #[] false (s+1) (s+1) tm).heap[c']? = some (Obj.chan 0 #[] (N.cl c').isSome s0 s0 UH)
   simp only[World.setChan,World.at]
   rw[eG (Ne.symm hcc)]
   exact h3
 ·by_cases h2:y=j
  ·subst h2
   rw[PG] at hx; cases hx
   rw[hsj] at hb; cases hb
  ·by_cases h1:y=i
   ·subst h1
    rw[hgi] at hx; cases hx
    rw[hsi] at hb; cases hb
   ·rw[hgo y h1 h2] at hx
    rw[pN y h1 h2] at hp
    exact h.open_ y c' ok' z' k' x hx hb hp
 ·have live:∀ y x,gs'[y]? = some x→x.status = .blocked→y≠i∧y≠j:=fun y x hx hb=>by
   refine⟨?_,?_⟩
   ·rintro rfl
    rw[hgi] at hx; cases hx
    rw[hsi] at hb; cases hb
   ·rintro rfl
    rw[PG] at hx; cases hx
    rw[hsj] at hb; cases hb
  obtain⟨a1,a2⟩:=live y x hx hb
  obtain⟨b1,b2⟩:=live y' x' jS nO
  rw[pN y a1 a2] at hp
  rw[pN y' b1 b2] at rE
  rw[hgo y a1 a2] at hx
  rw[hgo y' b1 b2] at jS
  exact h.apart y y' c' v' k' ok' z' UO x x' hx jS hb nO hp rE
theorem xP (h:wo P af Cs N γ rk tp gs w t) {i c j k:Nat} (hp:(j,k)∈partners (gs.setIfInBounds i ph) c false) :
  k=0∧j≠i∧j<N.n∧∃ g0 ok z kr,gs[j]? = some (parked g0 #[rcase c z] (.recv ok))∧N.pr j = .recv c ok z kr∧∀ x w1,jd (γ j) w w1→Pr P af (j==0) (kr x) (γ j) (Conc.served g0 (recvd ok (x.getD z) x.isSome)) w1:=by
 obtain⟨g,hg,hk⟩:=mem_partners.1 hp
 rcases cQ hg with ⟨rfl,rfl⟩ | ⟨gO,lQ⟩
 ·rw[offersAt_ph] at hk; cases hk
 ·have mN:j<N.n:=by rw[← h.size]; exact(aR.1 lQ).1
  have hm:=h.mem j g lQ
  generalize wz:N.pr j=pj at hm
  generalize rk j=rj at hm
  cases hm with
  | stop n g h1 h2 =>
   rw[offersAt_of_not_blocked (by rcases h2.status with e | e<;>simp[e])] at hk; cases hk
  | ret r g h1 h2 h3=>rw[offersAt_of_not_blocked (by simp[h1])] at hk; cases hk
  | run p r g h1 h2=>rw[offersAt_of_not_blocked (by simp[dO h2])] at hk; cases hk
  | send c' v k' g z h1=>rw[offersAt_parked_send'] at hk; cases hk
  | recv c' ok z k' g h1 h2 =>
   rw[offersAt_parked_recv] at hk
   split at hk
   ·rename_i hcc
    subst hcc
    simp only[bN] at hk
    exact⟨hk,gO,mN,g,ok,z,k',lQ,rfl,h2⟩
   ·cases hk
theorem rA (h:wo P af Cs N γ rk tp gs w t) {i c j k:Nat} (hp:(j,k)∈partners (gs.setIfInBounds i ph) c true) :
  k=0∧j≠i∧j<N.n∧∃ g0 v z kr,gs[j]? = some (parked g0 #[scase c v z] .send)∧N.pr j = .send c v kr∧∀ w1,jd (γ j) w w1→Pr P af (j==0) kr (γ j) (Conc.served g0 undef) w1:=by
 obtain⟨g,hg,hk⟩:=mem_partners.1 hp
 rcases cQ hg with ⟨rfl,rfl⟩ | ⟨gO,lQ⟩
 ·rw[offersAt_ph] at hk; cases hk
 ·have mN:j<N.n:=by rw[← h.size]; exact(aR.1 lQ).1
  have hm:=h.mem j g lQ
  generalize wz:N.pr j=pj at hm
  generalize rk j=rj at hm
  cases hm with
  | stop n g h1 h2 =>
   rw[offersAt_of_not_blocked (by rcases h2.status with e | e<;>simp[e])] at hk; cases hk
  | ret r g h1 h2 h3=>rw[offersAt_of_not_blocked (by simp[h1])] at hk; cases hk
  | run p r g h1 h2=>rw[offersAt_of_not_blocked (by simp[dO h2])] at hk; cases hk
  | recv c' ok z k' g h1 h2=>rw[offersAt_parked_recv'] at hk; cases hk
  | send c' v k' g z h1 =>
   rw[offersAt_parked_send] at hk
   split at hk
   ·rename_i hcc
    subst hcc
    simp only[bN] at hk
    exact⟨hk,gO,mN,g,v,z,k',lQ,rfl,h1⟩
   ·cases hk
end Go.Co
end
section
namespace Go.Co
open Go Go.Conc
open Go.ConcN (sumTo upd upd_same upd_ne)
variable {P:Program} {af:Machine→Trace→Prop} {Cs:Nat→Prop} {N:Net} {γ:Nat→So} {rk:Nat→Tr} {tp:Nat} {gs:Array Goroutine} {w:World} {t:Trace}
theorem ofEvents_none (g:Nat) (fn:FuncId) (pos:String):MemOp.ofEvents g fn pos #[]=#[]:=rfl
theorem u6 {g g0:Goroutine} {cs jH:Array CommCase} {sh sh':CommShape} (h:parked g cs sh=parked g0 jH sh') (v:Value):Conc.served g v=Conc.served g0 v:=by
 have:Conc.served (parked g cs sh) v=Conc.served (parked g0 jH sh') v:=by rw[h]
 exact this
theorem xS {g g0:Goroutine} {cs jH:Array CommCase} {sh sh':CommShape} (h:parked g cs sh=parked g0 jH sh'):g.frame=g0.frame∧g.callers=g0.callers∧g.dying=g0.dying∧cs=jH∧sh=sh':=by
 have:=congrArg (fun(x:Goroutine)=>(x.frame,x.callers,x.dying,x.offers)) h
 simp[parked] at this
 exact⟨this.1,this.2.1,this.2.2.1,this.2.2.2.1,this.2.2.2.2⟩
theorem qp {g:Goroutine} (h:Fr g) (v:Value):Fr (Conc.served g v):=er h v
theorem Sv (h:wo P af Cs N γ rk tp gs w t) (hno:∀ j,j<N.n→N.pr j ≠ .ret∧N.pr j ≠ .bad) {i c:Nat} {v:Value} {k:Pc} {g:Goroutine} {d:Nat} {sl:Option (Nat×Nat)} (hi:gs[i]? = some g) (hs:N.pr i = .send c v k) (uS:N.cl c=none) (oJ:Cs c)
  (Ze:AtSend P (i==0) c v g (w.at d)) (hk:∀ w1,jd (γ i) (w.at d) w1→Pr P af (i==0) k (γ i) (Conc.served g undef) w1)
  (Ba:∀ j ok z kr,j<N.n→N.pr j = .recv c ok z kr→A7 Cs (N.meet i j k (kr (some v)))) :
  (∃ gs',runT P (crowd gs (w.at d) sl) i=(.next (crowd gs' (w.at d) sl),#[])∧wo P af Cs N γ (upd rk i .leaf) tp gs' w t) ∨
  (∃ N' gs' w' ops DC,runT P (crowd gs (w.at d) sl) i=(.next (crowd gs' w' sl),ops)∧A7 Cs N'∧(∃ j ok z kr,j<N.n∧N.pr j = .recv c ok z kr∧N'=N.meet i j k (kr (some v)))∧wo P af Cs N' γ DC tp gs' w' (t++ops)):=by
 obtain⟨hr,z,hst⟩:=Ze
 have oI:i<N.n:=by rw[← h.size]; exact(aR.1 hi).1
 have hlt:i<gs.size:=(aR.1 hi).1
 obtain⟨⟨s,tm,hc⟩,-⟩:=h.chan c oJ
 rw[uS] at hc
 have hc':(w.at d).heap[c]? = some (.chan 0 #[] false s s tm):=hc
 by_cases hne:partners (gs.setIfInBounds i ph) c false=[]
 ·left
  refine⟨gs.setIfInBounds i (parked (core g) #[scase c v z] .send),?_,?_⟩
  ·have:=crowd_waits (P:=P) (sl:=sl) hi hst (fun cc hcc=>by
    simp only[en,bN] at hcc
    subst hcc
    exact ways_send_none hc' (by simp) hne)
   rw[this,ofEvents_none]
  ·refine HU h hi rfl rfl rfl ?_ (fun c' ok' z' k' e=>by rw[hs] at e; cases e) fun j x c' v' k' ok' z' UO hj hx hb=>⟨fun e1 e2 => ?_,fun e1 e2=>by rw[hs] at e2; cases e2⟩
   ·rw[hs]
    exact .send c v k (core g) z fun w1 h1=>hk w1 h1
   ·rw[hs] at e1
    cases e1
    have hm:=h.mem j x hx
    rw[e2] at hm
    generalize rk j=rj at hm
    cases hm with
    | run p r g h1 h2=>rw[dO h2] at hb; cases hb
    | recv _ _ _ _ g h1 h2 =>
     have:(j,0)∈partners (gs.setIfInBounds i ph) c false:=mem_partners.2 ⟨_,stand_get hj hx,by rw[offersAt_parked_recv]; simp⟩
     rw[hne] at this; cases this
 ·right
  obtain⟨j,gj,zj,shj,d2,gO,PG,hrun⟩:=crowd_send_meets_some (P:=P) (sl:=sl) hi hst hc' hne fun j k hp=>by
   obtain⟨h1,h2,-,g0,ok,z,kr,h3,-⟩:=xP h hp
   exact⟨h1,h2,g0,z,_,h3⟩
  have hp:(j,0)∈partners (gs.setIfInBounds i ph) c false:=mem_partners.2 ⟨_,stand_get gO PG,by rw[offersAt_parked_recv]; simp⟩
  obtain⟨-,-,mN,g0,ok,z0,kr,h3,h4,h5⟩:=xP h hp
  rw[PG] at h3
  have h3:=cA h3
  obtain⟨PI,XP,hf3,-,PB⟩:=xS h3
  have hzz:Conc.served gj (recvd ok v true)=Conc.served g0 (recvd ok v true):=u6 h3 _
  subst PB
  rw[finishComm_recv,finishComm_send,hzz,ofEvents_none] at hrun
  have hw:=Ba j ok z0 kr mN h4
  obtain⟨DC,pq⟩:=HT (gs':=(gs.setIfInBounds j (Conc.served g0 (recvd ok v true))).setIfInBounds i (Conc.served (core g) undef)) (d:=d2) (tm:=tm) (s:=s) (f:=(core g).frame.fn) (p:=(core g).frame.place) (f':=gj.frame.fn) (p':=gj.frame.place) h hno (Ne.symm gO) oI mN oJ hs h4 uS (by simp) (gi:=Conc.served (core g) undef) (gj:=Conc.served g0 (recvd ok v true))
   (by simp[hlt]) (by
    rw[eG (Ne.symm gO)]
    have:j<gs.size:=by rw[h.size]; exact mN
    simp[this]) (fun y h1 h2=>by rw[eG (Ne.symm h1),eG (Ne.symm h2)]) rfl rfl (fun w1 h1=>hk w1 h1) (fun w1 h1=>h5 (some v) w1 h1) (fun x hx=>by
    rcases cQ hx with ⟨h1,rfl⟩ | ⟨h1,jS⟩
    ·subst h1
     exact qp (h.frames g hi) undef
    ·rcases cQ jS with ⟨h2,rfl⟩ | ⟨h2,C2⟩
     ·subst h2
      rw[← hzz]
      exact qp (h.frames _ PG) _
     ·exact h.frames x C2) hw
  refine⟨_,_,_,_,DC,hrun,hw,⟨j,ok,z0,kr,mN,h4,rfl⟩,?_⟩
  rw[Array.empty_append]
  exact pq
end Go.Co
end
section
namespace Go.Co
open Go Go.Conc
open Go.ConcN (sumTo upd upd_same upd_ne)
variable {P:Program} {af:Machine→Trace→Prop} {Cs:Nat→Prop} {N:Net} {γ:Nat→So} {rk:Nat→Tr} {tp:Nat} {gs:Array Goroutine} {w:World} {t:Trace}
theorem Sw (h:wo P af Cs N γ rk tp gs w t) (hno:∀ j,j<N.n→N.pr j ≠ .ret∧N.pr j ≠ .bad) {i c:Nat} {ok:Bool} {z:Value} {kr:Option Value→Pc} {g:Goroutine} {d:Nat} {sl:Option (Nat×Nat)} (hi:gs[i]? = some g) (hs:N.pr i = .recv c ok z kr) (uS:N.cl c=none) (oJ:Cs c)
  (Ze:AtRecv P (i==0) c ok z g (w.at d)) (ae1:∀ w1,jd (γ i) w w1→AtRecv P (i==0) c ok z g w1) (hk:∀ x w1,jd (γ i) w w1→Pr P af (i==0) (kr x) (γ i) (Conc.served g (recvd ok (x.getD z) x.isSome)) w1)
  (Ba:∀ j v k,j<N.n→N.pr j = .send c v k→A7 Cs (N.meet j i k (kr (some v)))) :
  (∃ gs',runT P (crowd gs (w.at d) sl) i=(.next (crowd gs' (w.at d) sl),#[])∧wo P af Cs N γ (upd rk i .leaf) tp gs' w t) ∨
  (∃ N' gs' w' ops DC,runT P (crowd gs (w.at d) sl) i=(.next (crowd gs' w' sl),ops)∧A7 Cs N'∧(∃ j v k,j<N.n∧N.pr j = .send c v k∧N'=N.meet j i k (kr (some v)))∧wo P af Cs N' γ DC tp gs' w' (t++ops)):=by
 obtain⟨hr,hst⟩:=Ze
 have oI:i<N.n:=by rw[← h.size]; exact(aR.1 hi).1
 have hlt:i<gs.size:=(aR.1 hi).1
 obtain⟨⟨s,tm,hc⟩,-⟩:=h.chan c oJ
 rw[uS] at hc
 have hc':(w.at d).heap[c]? = some (.chan 0 #[] false s s tm):=hc
 by_cases hne:partners (gs.setIfInBounds i ph) c true=[]
 ·left
  refine⟨gs.setIfInBounds i (parked (core g) #[rcase c z] (.recv ok)),?_,?_⟩
  ·have:=crowd_waits (P:=P) (sl:=sl) hi hst (fun cc hcc=>by
    simp only[en,bN] at hcc
    subst hcc
    exact ways_recv_none hc' hne)
   rw[this,ofEvents_none]
  ·refine HU h hi rfl rfl rfl ?_ (fun c' ok' z' k' e=>by rw[hs] at e; cases e; exact uS) fun j x c' v' k' ok' z' UO hj hx hb=>⟨fun e1 e2=>(by rw[hs] at e1; cases e1),fun e1 e2 => ?_⟩
   ·rw[hs]
    exact .recv c ok z kr (core g) (fun w1 h1=>⟨rfl,by
     have e:stepG P (i==0) (core g) w1=stepG P (i==0) g w1:=stepG_same rfl rfl rfl w1
     show stepG P (i==0) (core g) w1=_
     rw[e]
     exact(ae1 w1 h1).2⟩) fun x w1 h1=>hk x w1 h1
   ·rw[hs] at e2
    cases e2
    have hm:=h.mem j x hx
    rw[e1] at hm
    generalize rk j=rj at hm
    cases hm with
    | run p r g h1 h2=>rw[dO h2] at hb; cases hb
    | send _ _ _ g _ h1 =>
     have:(j,0)∈partners (gs.setIfInBounds i ph) c true:=mem_partners.2 ⟨_,stand_get hj hx,by rw[offersAt_parked_send]; simp⟩
     rw[hne] at this; cases this
 ·right
  obtain⟨j,gj,vj,zj,shj,d2,gO,PG,hrun⟩:=crowd_recv_meets_some (P:=P) (sl:=sl) hi hst hc' hne fun j k hp=>by
   obtain⟨h1,h2,-,g0,v,z,kr,h3,-⟩:=rA h hp
   exact⟨h1,h2,g0,v,z,_,h3⟩
  have hp:(j,0)∈partners (gs.setIfInBounds i ph) c true:=mem_partners.2 ⟨_,stand_get gO PG,by rw[offersAt_parked_send]; simp⟩
  obtain⟨-,-,mN,g0,v,z0,k,h3,h4,h5⟩:=rA h hp
  rw[PG] at h3
  have h3:=cA h3
  obtain⟨PI,XP,hf3,hcc,PB⟩:=xS h3
  have hv:vj=v:=by simp[scase] at hcc; exact hcc.1
  subst hv
  have hzz:Conc.served gj undef=Conc.served g0 undef:=u6 h3 _
  subst PB
  rw[finishComm_send,finishComm_recv,hzz,ofEvents_none] at hrun
  have hw:=Ba j vj k mN h4
  obtain⟨DC,pq⟩:=HT (gs':=(gs.setIfInBounds j (Conc.served g0 undef)).setIfInBounds i (Conc.served (core g) (recvd ok vj true))) (d:=d2) (tm:=tm) (s:=s) (f':=(core g).frame.fn) (p':=(core g).frame.place) (f:=gj.frame.fn) (p:=gj.frame.place) h hno gO mN oI oJ h4 hs uS (by simp) (gj:=Conc.served (core g) (recvd ok vj true)) (gi:=Conc.served g0 undef)
   (by
    rw[eG (Ne.symm gO)]
    have:j<gs.size:=by rw[h.size]; exact mN
    simp[this]) (by simp[hlt]) (fun y h1 h2=>by rw[eG (Ne.symm h2),eG (Ne.symm h1)]) rfl rfl (fun w1 h1=>h5 w1 h1) (fun w1 h1=>hk (some vj) w1 h1) (fun x hx=>by
    rcases cQ hx with ⟨h1,rfl⟩ | ⟨h1,jS⟩
    ·subst h1
     exact qp (h.frames g hi) _
    ·rcases cQ jS with ⟨h2,rfl⟩ | ⟨h2,C2⟩
     ·subst h2
      rw[← hzz]
      exact qp (h.frames _ PG) _
     ·exact h.frames x C2) hw
  refine⟨_,_,_,_,DC,hrun,hw,⟨j,vj,k,mN,h4,rfl⟩,?_⟩
  rw[Array.empty_append]
  exact pq
end Go.Co
end
section
namespace Go.Co
open Go Go.Conc
open Go.ConcN (sumTo upd upd_same upd_ne)
variable {P:Program} {af:Machine→Trace→Prop} {Cs:Nat→Prop} {N:Net} {γ:Nat→So} {rk:Nat→Tr} {tp:Nat} {gs:Array Goroutine} {w:World} {t:Trace}
theorem Sy (h:wo P af Cs N γ rk tp gs w t) (hsend:∀ i c v k,i<N.n→N.pr i = .send c v k→N.cl c=none∧Cs c) {i c:Nat} {ok:Bool} {z:Value} {kr:Option Value→Pc} {E:Nat→Prop} {g:Goroutine} {d:Nat} {sl:Option (Nat×Nat)} (hi:gs[i]? = some g) (hs:N.pr i = .recv c ok z kr) (uw:N.cl c=some E) (oJ:Cs c)
  (Ze:AtRecv P (i==0) c ok z g (w.at d)) (hk:∀ x w1,jd (γ i) w w1→Pr P af (i==0) (kr x) (γ i) (Conc.served g (recvd ok (x.getD z) x.isSome)) w1)
  (Ba:A7 Cs (N.hear i (kr none) E)) :
  ∃ gs' ops DC,runT P (crowd gs (w.at d) sl) i=(.next (crowd gs' (w.at d) sl),ops)∧wo P af Cs (N.hear i (kr none) E) γ DC tp gs' w (t++ops):=by
 obtain⟨hr,hst⟩:=Ze
 have oI:i<N.n:=by rw[← h.size]; exact(aR.1 hi).1
 have hlt:i<gs.size:=(aR.1 hi).1
 obtain⟨⟨s,tm,hc⟩,-⟩:=h.chan c oJ
 rw[uw] at hc
 have hc':(w.at d).heap[c]? = some (.chan 0 #[] true s s tm):=hc
 have hnp:partners (gs.setIfInBounds i ph) c true=[]:=by
  cases hp:partners (gs.setIfInBounds i ph) c true with
  | nil=>rfl
  | cons x l =>
   obtain⟨j,k⟩:=x
   obtain⟨-,-,mN,g0,v,z0,k',-,h4,-⟩:=rA h (i:=i) (c:=c) (j:=j) (k:=k) (by rw[hp]; simp)
   rw[(hsend j c v k' mN h4).1] at uw
   cases uw
 have hrun:=crowd_recv_closed (P:=P) (sl:=sl) hi hst hc' hnp
 rw[finishComm_recv,ofEvents_none,Array.empty_append] at hrun
 obtain⟨zw,Ak⟩:=Fh Ba
 have pN:∀ y,y≠i→(N.hear i (kr none) E).pr y=N.pr y:=fun y h1=>upd_ne _ _ h1
 have A4:(N.hear i (kr none) E).pr i=kr none:=upd_same _ _ _
 have x4:N.pr i ≠ .stop:=by rw[hs]; simp
 obtain⟨ri,Y4⟩:=nS (P:=P) (af:=af) (j:=i) (γ:=γ i) (w:=w) (p:=kr none) (g:=Conc.served (core g) (recvd ok z false)) rfl (by rw[← A4]; exact Ak i oI) (fun e h0=>zw (by rw[← h0,A4,e])) (hk none w (iM _ _))
 have yY:mC #[({ g:=i,fn:=(core g).frame.fn,pos:=(core g).frame.place,act := .recvClosed c }:MemOp)]:=by
  intro op hop m
  simp only[en,bN] at hop
  subst hop; simp
 refine⟨_,_,upd rk i ri,hrun,(by rw[qT]; exact h.size),h.pos,fun y x hx => ?_,h.ti.hear oI hs uw _ _,h.chan,fun y c' ok' z' k' x hx hb hp => ?_,fun y y' c' v' k' ok' z' UO x x' hx jS hb nO hp rE => ?_,fun x hx => ?_⟩
 ·rcases cQ hx with ⟨rfl,rfl⟩ | ⟨hy,jS⟩
  ·rw[upd_same,A4,di yY,h.ti.hears y (.inl x4)]
   exact Y4
  ·rw[upd_ne _ _ hy,pN y hy,di yY]
   exact h.mem y x jS
 ·rcases cQ hx with ⟨rfl,rfl⟩ | ⟨hy,jS⟩
  ·cases hb
  ·rw[pN y hy] at hp
   exact h.open_ y c' ok' z' k' x jS hb hp
 ·rcases cQ hx with ⟨rfl,rfl⟩ | ⟨hy,GL⟩
  ·cases hb
  ·rcases cQ jS with ⟨rfl,rfl⟩ | ⟨Ul,C2⟩
   ·cases nO
   ·rw[pN y hy] at hp
    rw[pN y' Ul] at rE
    exact h.apart y y' c' v' k' ok' z' UO x x' GL C2 hb nO hp rE
 ·rcases cQ hx with ⟨h1,rfl⟩ | ⟨h1,jS⟩
  ·subst h1
   exact qp (h.frames g hi) _
  ·exact h.frames x jS
end Go.Co
end
section
namespace Go.Co
open Go Go.Conc
open Go.ConcN (sumTo upd upd_same upd_ne)
variable {P:Program} {af:Machine→Trace→Prop} {Cs:Nat→Prop} {N:Net} {γ:Nat→So} {rk:Nat→Tr} {tp:Nat} {gs:Array Goroutine} {w:World} {t:Trace}
theorem NX (hP:Plain P) (h:wo P af Cs N γ rk tp gs w t) {i:Nat} {ch k:Pc} {g g' x0:Goroutine} {d:Nat} {sl:Option (Nat×Nat)} (hi:gs[i]? = some g) (hs:N.pr i = .go ch k)
  (hst:stepG P (i==0) g (w.at d) = .spawn g' x0 (w.at d)) (Av:g'.status = .running) (Ju:x0.status = .running)
  (hch:∀ w1,jd (γ i).give (w.at d) w1→Pr P af false ch (γ i).give x0 w1) (hk:∀ w1,jd (γ i).give (w.at d) w1→Pr P af (i==0) k (γ i).give g' w1)
  (Ba:A7 Cs (N.start i ch k)) :
  ∃ gs' ops DC,runT P (crowd gs (w.at d) sl) i=(.next (crowd gs' (w.at d) sl),ops)∧wo P af Cs (N.start i ch k) (upd (upd γ i (γ i).give) N.n (γ i).give) DC tp gs' w (t++ops):=by
 have hlt:i<gs.size:=(aR.1 hi).1
 have oI:i<N.n:=by rw[← h.size]; exact hlt
 have hrun:=runT_crowd_spawn (P:=P) (sl:=sl) hi hst
 have Vq:i≠N.n:=by omega
 have tA:N.n≠0:=by omega
 have e:(((MemOp.ofEvents i g.frame.fn g.frame.place #[]).push { g:=i,fn:=g.frame.fn,pos:=g.frame.place,act := .go gs.size }).push { g:=gs.size,fn:=x0.frame.fn,pos:=g.frame.place,act := .start })=sx i N.n g.frame.fn x0.frame.fn g.frame.place g.frame.place:=by
  rw[ofEvents_none,h.size]; rfl
 rw[e] at hrun
 obtain⟨zw,Ak⟩:=Fh Ba
 have pN:∀ y,y≠i→y≠N.n→(N.start i ch k).pr y=N.pr y:=fun y h1 h2=>by
  show upd (upd N.pr i k) N.n ch y=_
  rw[upd_ne _ _ h2,upd_ne _ _ h1]
 have hpn:(N.start i ch k).pr N.n=ch:=upd_same _ _ _
 have A4:(N.start i ch k).pr i=k:=by
  show upd (upd N.pr i k) N.n ch i=_
  rw[upd_ne _ _ Vq,upd_same]
 have x4:N.pr i ≠ .stop:=by rw[hs]; simp
 have back:jd (γ i).give (w.at d) w:=⟨ak _,fun _ _=>rfl,rfl,rfl,rfl⟩
 obtain⟨ri,Y4⟩:=nS (j:=i) Av (by rw[← A4]; exact Ak i (oW oI)) (fun e h0=>zw (by rw[← h0,A4,e])) (hk w back)
 obtain⟨rn,hmn⟩:=nS (P:=P) (af:=af) (j:=N.n) (γ:=(γ i).give) (w:=w) (p:=ch) (g:=x0) Ju (by rw[← hpn]; exact Ak N.n (Nat.lt_succ_self _)) (fun _=>tA) (by rw[show (N.n==0)=false by simpa using tA]; exact hch w back)
 have hti:=h.ti.start oI hs g.frame.fn x0.frame.fn g.frame.place g.frame.place
 have yY:=vX i N.n g.frame.fn x0.frame.fn g.frame.place g.frame.place
 have bn:∀ (y:Nat) (x:Goroutine),((gs.setIfInBounds i g').push x0)[y]? = some x→(y=N.n∧x=x0)∨(y=i∧x=g')∨(y≠i∧y≠N.n∧gs[y]? = some x):=by
  intro y x hx
  rw[Array.getElem?_push] at hx
  split at hx
  ·rename_i hy
   rw[qT,h.size] at hy
   exact .inl ⟨hy,(cA hx).symm⟩
  ·rename_i hy
   rw[qT,h.size] at hy
   rcases cQ hx with ⟨h1,h2⟩ | ⟨h1,h2⟩
   ·exact .inr (.inl ⟨h1,h2⟩)
   ·exact .inr (.inr ⟨h1,hy,h2⟩)
 refine⟨_,_,upd (upd rk i ri) N.n rn,hrun,?_,Nat.succ_pos _,fun y x hx => ?_,hti,fun c hc => ?_,fun y c' ok' z' k' x hx hb hp => ?_,fun y y' c' v' k' ok' z' UO x x' hx jS hb nO hp rE => ?_,fun x hx => ?_⟩
 ·rw[Array.size_push,qT,h.size]; rfl
 ·rcases bn y x hx with ⟨rfl,rfl⟩ | ⟨rfl,rfl⟩ | ⟨h1,h2,jS⟩
  ·rw[upd_same,upd_same,hpn,di yY,h.ti.hears N.n (.inr (ak _))]
   exact hmn
  ·rw[upd_ne _ _ Vq,upd_same,upd_ne _ _ Vq,upd_same,A4,di yY,h.ti.hears y (.inl x4)]
   exact Y4
  ·rw[upd_ne _ _ h2,upd_ne _ _ h1,upd_ne _ _ h2,upd_ne _ _ h1,pN y h1 h2,di yY]
   exact h.mem y x jS
 ·obtain⟨h3,h4⟩:=h.chan c hc
  refine⟨h3,fun y => ?_⟩
  have hgv:¬ ((γ i).give).1 c∧¬ ((γ i).give).2 c:=⟨fun hx=>hx.elim (h4 i).1 (h4 i).2,fun hx=>hx⟩
  by_cases h2:y=N.n
  ·rw[h2,upd_same]; exact hgv
  ·by_cases h1:y=i
   ·rw[h1,upd_ne _ _ Vq,upd_same]; exact hgv
   ·rw[upd_ne _ _ h2,upd_ne _ _ h1]; exact h4 y
 ·rcases bn y x hx with ⟨rfl,rfl⟩ | ⟨rfl,rfl⟩ | ⟨h1,h2,jS⟩
  ·rw[Ju] at hb; cases hb
  ·rw[Av] at hb; cases hb
  ·rw[pN y h1 h2] at hp
   exact h.open_ y c' ok' z' k' x jS hb hp
 ·rcases bn y x hx with ⟨rfl,rfl⟩ | ⟨rfl,rfl⟩ | ⟨h1,h2,GL⟩
  ·rw[Ju] at hb; cases hb
  ·rw[Av] at hb; cases hb
  ·rcases bn y' x' jS with ⟨rfl,rfl⟩ | ⟨rfl,rfl⟩ | ⟨JA,h2',C2⟩
   ·rw[Ju] at nO; cases nO
   ·rw[Av] at nO; cases nO
   ·rw[pN y h1 h2] at hp
    rw[pN y' JA h2'] at rE
    exact h.apart y y' c' v' k' ok' z' UO x x' GL C2 hb nO hp rE
 ·rcases bn 0 x hx with ⟨h1,-⟩ | ⟨h1,rfl⟩ | ⟨_,_,jS⟩
  ·exact absurd h1.symm tA
  ·have h1:i=0:=h1.symm
   subst h1
   have jF:=qd (b:=False) hP true g (h.frames g hi) (w.at d)
   rw[show stepG P true g (w.at d)=_ from hst] at jF
   exact jF.2
  ·exact h.frames x jS
end Go.Co
end
section
namespace Go.Co
open Go Go.Conc
open Go.ConcN (sumTo upd upd_same upd_ne)
variable {P:Program} {af:Machine→Trace→Prop} {Cs:Nat→Prop} {N:Net} {γ:Nat→So} {rk:Nat→Tr} {tp:Nat} {gs:Array Goroutine} {w:World} {t:Trace}
theorem NJ {a a':Goroutine} {w':World} {o:Goroutine} (hm:mayWake P a=true) (hr:a'.status = .running):Conc.woken P a a' w' o=o.again w':=by
 unfold Conc.woken
 simp[hm,hr]
theorem Mem.shut {j d dd:Nat} {γ:So} {w:World} {p:Pc} {r:Tr} {g:Goroutine} {c s:Nat} {tm:Bool} {a a':Goroutine} (h:Mem P af j d γ w p r g) (hp:p ≠ .ret) (hm:mayWake P a=true) (hr:a'.status = .running)
  (hcw:∃ x,w.heap[c]? = some x) (hrel:jd γ w ((w.at dd).setChan c 0 #[] true s s tm))
  (hsend:∀ c' v k,p = .send c' v k→c'≠c∧∃ s tm,w.heap[c']? = some (.chan 0 #[] false s s tm))
  (hrecv:∀ c' ok z k,p = .recv c' ok z k→g.status = .blocked→∃ s tm,w.heap[c']? = some (.chan 0 #[] false s s tm)) :
  ∃ r',Mem P af j d γ ((w.at dd).setChan c 0 #[] true s s tm) p r' (Conc.woken P a a' ((w.at dd).setChan c 0 #[] true s s tm) g) ∧
   (∀ c' ok z k,p = .recv c' ok z k→(Conc.woken P a a' ((w.at dd).setChan c 0 #[] true s s tm) g).status = .blocked→g.status = .blocked∧c'≠c) ∧
   ((Conc.woken P a a' ((w.at dd).setChan c 0 #[] true s s tm) g).status = .blocked→g.status = .blocked)∧(Conc.woken P a a' ((w.at dd).setChan c 0 #[] true s s tm) g).frame=g.frame∧(Conc.woken P a a' ((w.at dd).setChan c 0 #[] true s s tm) g).callers=g.callers∧(Conc.woken P a a' ((w.at dd).setChan c 0 #[] true s s tm) g).dying=g.dying:=by
 obtain⟨x,hx⟩:=hcw
 have hlt:c<w.heap.size:=(aR.1 hx).1
 have pG:∀ c',c'≠c→((w.at dd).setChan c 0 #[] true s s tm).heap[c']? = w.heap[c']? := fun c' hc'=>by
  simp only[World.setChan,World.at]
  rw[eG (Ne.symm hc')]
 have adm:((w.at dd).setChan c 0 #[] true s s tm).heap[c]? = some (Obj.chan 0 #[] true s s tm):=by simp[World.setChan,World.at,hlt]
 have h':=h.rely hp hrel
 cases h with
 | stop n g h1 h2 =>
  rw[woken_quitsD h2]
  exact⟨_,h',fun _ _ _ _ e=>(by cases e),id,rfl,rfl,rfl⟩
 | ret r g h1 h2 h3=>exact absurd rfl hp
 | run p r g h1 h2 =>
  have Zc:=dO h2
  rw[woken_run Zc]
  exact⟨_,h',fun _ _ _ _ _ hb=>(by rw[Zc] at hb; cases hb),id,rfl,rfl,rfl⟩
 | send c' v k g z h1 =>
  obtain⟨hne,s',tm',h2⟩:=hsend c' v k rfl
  rw[woken_send_open a a' ((pG c' hne).trans h2)]
  exact⟨_,h',fun _ _ _ _ e=>(by cases e),id,rfl,rfl,rfl⟩
 | recv c' ok z k g h1 h2 =>
  by_cases hcc:c'=c
  ·subst hcc
   rw[NJ hm hr,again_recv_closed adm]
   refine⟨_,.run (.recv c' ok z k) .leaf _ ⟨by simp,by simp,by simp⟩ (fun w1 h3=>⟨⟨rfl,?_⟩,fun x w2 h4 => ?_⟩),fun _ _ _ _ _ hb=>(by cases hb),fun hb=>(by cases hb),rfl,rfl,rfl⟩
   ·have:=(h1 w1 (ij hrel h3)).2
    have e:stepG P (j==0) { parked g #[rcase c' z] (.recv ok) with status := .running } w1=stepG P (j==0) (core g) w1:=stepG_same rfl rfl rfl w1
    rw[e]
    exact this
   ·exact h2 x w2 (ij (ij hrel h3) h4)
  ·obtain⟨s',tm',h3⟩:=hrecv c' ok z k rfl rfl
   rw[woken_recv_open a a' ((pG c' hcc).trans h3)]
   exact⟨_,h',fun _ _ _ _ e _=>(by cases e; exact⟨rfl,hcc⟩),id,rfl,rfl,rfl⟩
end Go.Co
end
section
namespace Go.Co
open Go Go.Conc
open Go.ConcN (sumTo upd upd_same upd_ne)
variable {P:Program} {af:Machine→Trace→Prop} {Cs:Nat→Prop} {N:Net} {γ:Nat→So} {rk:Nat→Tr} {tp:Nat} {gs:Array Goroutine} {w:World} {t:Trace}
open Classical in
theorem Su (hP:Plain P) (h:wo P af Cs N γ rk tp gs w t) (hno:∀ j,j<N.n→N.pr j ≠ .ret∧N.pr j ≠ .bad) (hsend:∀ i c v k,i<N.n→N.pr i = .send c v k→N.cl c=none∧Cs c) (hrecv:∀ j c ok z k,j<N.n→N.pr j = .recv c ok z k→Cs c)
  {i c:Nat} {k:Pc} {g g':Goroutine} {d:Nat} {sl:Option (Nat×Nat)} (hi:gs[i]? = some g) (hs:N.pr i = .close c k) (uS:N.cl c=none) (oJ:Cs c) (hmw:mayWake P g=true) (Av:g'.status = .running)
  (hst:∀ s r tm,(w.at d).heap[c]? = some (.chan 0 #[] false s r tm)→stepG P (i==0) g (w.at d) = .go g' ((w.at d).setChan c 0 #[] true s r tm) (closeEvents c))
  (hk:∀ w1,jd (γ i) w w1→Pr P af (i==0) k (γ i) g' w1) (EW:∀ j v k',j<N.n→N.pr j ≠ .send c v k') (Ba:A7 Cs (N.shut i c k)) :
  ∃ gs' w' ops DC,runT P (crowd gs (w.at d) sl) i=(.next (crowd gs' w' sl),ops)∧wo P af Cs (N.shut i c k) γ DC tp gs' w' (t++ops):=by
 have hlt:i<gs.size:=(aR.1 hi).1
 have oI:i<N.n:=by rw[← h.size]; exact hlt
 obtain⟨⟨s,tm,hc⟩,C6⟩:=h.chan c oJ
 rw[uS] at hc
 have hst:=hst s s tm hc
 have hrun:=runT_crowd_go (P:=P) (sl:=sl) hi hst
 obtain⟨zw,Ak⟩:=Fh Ba
 have pN:∀ y,y≠i→(N.shut i c k).pr y=N.pr y:=fun y h1=>upd_ne _ _ h1
 have A4:(N.shut i c k).pr i=k:=upd_same _ _ _
 have x4:N.pr i ≠ .stop:=by rw[hs]; simp
 have hrel:∀ y,jd (γ y) w ((w.at d).setChan c 0 #[] true s s tm):=fun y=>zN (C6 y) _ _ _ _ _ _ _ _
 have hu:∀ op∈MemOp.ofEvents i g.frame.fn g.frame.place (closeEvents c),op.g=i:=fun op hop=>by rw[ofEvents_eq] at hop; obtain⟨e,_,rfl⟩:=gz.1 hop; rfl
 obtain⟨ri,Y4⟩:=nS (P:=P) (af:=af) (j:=i) (γ:=γ i) (w:=(w.at d).setChan c 0 #[] true s s tm) (p:=k) (g:=g') Av (by rw[← A4]; exact Ak i oI) (fun e h0=>zw (by rw[← h0,A4,e])) (hk _ (hrel i))
 have fA:∀ (y:Nat) (x:Goroutine),y≠i→gs[y]? = some x→_:=fun y x hy hx=>(h.mem y x hx).shut (a:=g) (a':=g') (c:=c) (s:=s) (tm:=tm) (dd:=d) (hno y (by rw[← h.size]; exact(aR.1 hx).1)).1 hmw Av ⟨_,hc⟩ (hrel y)
  (fun c' v k' e=>by
   have Jr:y<N.n:=by rw[← h.size]; exact(aR.1 hx).1
   obtain⟨h1,h2⟩:=hsend y c' v k' Jr e
   obtain⟨⟨s0,UH,h3⟩,-⟩:=h.chan c' h2
   rw[h1] at h3
   exact⟨fun e2=>EW y v k' Jr (e2▸e),s0,UH,h3⟩)
  (fun c' ok z k' e hb=>by
   have Jr:y<N.n:=by rw[← h.size]; exact(aR.1 hx).1
   have h1:=h.open_ y c' ok z k' x hx hb e
   obtain⟨⟨s0,UH,h3⟩,-⟩:=h.chan c' (hrecv y c' ok z k' Jr e)
   rw[h1] at h3
   exact⟨s0,UH,h3⟩)
 have hex:∀ y:Nat,∃ r',∀ x:Goroutine,y≠i→gs[y]? = some x→Mem P af y (Deaf t y) (γ y) ((w.at d).setChan c 0 #[] true s s tm) (N.pr y) r' (Conc.woken P g g' ((w.at d).setChan c 0 #[] true s s tm) x):=by
  intro y
  by_cases hy:y≠i∧∃ x,gs[y]? = some x
  ·obtain⟨hy,x,hx⟩:=hy
   obtain⟨r',h1,-⟩:=fA y x hy hx
   exact⟨r',fun x' _ jS=>by rw[hx] at jS; cases jS; exact h1⟩
  ·exact⟨.leaf,fun x h1 h2=>absurd ⟨h1,x,h2⟩ hy⟩
 have bn:∀ (y:Nat) (x:Goroutine),((gs.map (Conc.woken P g g' ((w.at d).setChan c 0 #[] true s s tm))).setIfInBounds i g')[y]? = some x→(y=i∧x=g')∨(y≠i∧∃ x0,gs[y]? = some x0∧x=Conc.woken P g g' ((w.at d).setChan c 0 #[] true s s tm) x0):=by
  intro y x hx
  rcases cQ hx with h1 | ⟨h1,h2⟩
  ·exact .inl h1
  ·rw[qN] at h2
   obtain⟨x0,h3,h4⟩:=ai.1 h2
   exact .inr ⟨h1,x0,h3,h4.symm⟩
 have zo:((w.at d).setChan c 0 #[] true s s tm).heap.size=w.heap.size:=by simp[World.setChan,World.at]
 refine⟨_,_,_,upd (fun y=>Classical.choose (hex y)) i ri,hrun,(by rw[qT,Array.size_map]; exact h.size),h.pos,fun y x hx => ?_,(by rw[zo]; exact h.ti.shut oI hs _ _),fun c' hc' => ?_,fun y c' ok' z' k' x hx hb hp => ?_,fun y y' c' v' k' ok' z' UO x x' hx jS hb nO hp rE => ?_,fun x hx => ?_⟩
 ·rcases bn y x hx with ⟨rfl,rfl⟩ | ⟨hy,x0,GM,rfl⟩
  ·rw[upd_same,A4,Deaf_own,h.ti.hears y (.inl x4)]
   exact Y4
  ·rw[upd_ne _ _ hy,pN y hy,Deaf_other t (Ne.symm hy) _ hu]
   exact qQ (hex y) x0 hy GM
 ·obtain⟨⟨s0,UH,h3⟩,h4⟩:=h.chan c' hc'
  refine⟨?_,h4⟩
  by_cases hcc:c'=c
  ·subst hcc
   have hl:c'<w.heap.size:=(aR.1 h3).1
   refine⟨s,tm,?_⟩
   show _=some (Obj.chan 0 #[] (upd N.cl c' _ c').isSome s s tm)
   rw[upd_same]
   simp[World.setChan,World.at,hl]
  ·refine⟨s0,UH,?_⟩
   show _=some (Obj.chan 0 #[] (upd N.cl c _ c').isSome s0 s0 UH)
   rw[upd_ne _ _ hcc]
   simp only[World.setChan,World.at]
   rw[eG (Ne.symm hcc)]
   exact h3
 ·rcases bn y x hx with ⟨rfl,rfl⟩ | ⟨hy,x0,GM,rfl⟩
  ·rw[Av] at hb; cases hb
  ·rw[pN y hy] at hp
   obtain⟨_,-,h2,-⟩:=fA y x0 hy GM
   obtain⟨h3,h4⟩:=h2 c' ok' z' k' hp hb
   show upd N.cl c _ c'=none
   rw[upd_ne _ _ h4]
   exact h.open_ y c' ok' z' k' x0 GM h3 hp
 ·rcases bn y x hx with ⟨rfl,rfl⟩ | ⟨hy,x0,GM,rfl⟩
  ·rw[Av] at hb; cases hb
  ·rcases bn y' x' jS with ⟨rfl,rfl⟩ | ⟨Ul,x1,GL,rfl⟩
   ·rw[Av] at nO; cases nO
   ·rw[pN y hy] at hp
    rw[pN y' Ul] at rE
    obtain⟨_,-,-,h2,-⟩:=fA y x0 hy GM
    obtain⟨_,-,-,h2',-⟩:=fA y' x1 Ul GL
    exact h.apart y y' c' v' k' ok' z' UO x0 x1 GM GL (h2 hb) (h2' nO) hp rE
 ·rcases bn 0 x hx with ⟨h1,rfl⟩ | ⟨hy,x0,GM,rfl⟩
  ·have h1:i=0:=h1.symm
   subst h1
   have jF:=qd (b:=False) hP true g (h.frames g hi) (w.at d)
   rw[show stepG P true g (w.at d)=_ from hst] at jF
   exact jF.2.1
  ·obtain⟨_,-,-,-,h2,h3,h4⟩:=fA 0 x0 hy GM
   have:=h.frames x0 GM
   unfold Fr at *
   rw[h2,h3,h4]
   exact this
end Go.Co
end
