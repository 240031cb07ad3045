import Derived.Test.YtedcgbkilmlbhaaGreatPk21
section
namespace Go.Co
open Go Go.Conc
open Go.ConcN (sumTo upd upd_same upd_ne)
variable {P:Program} {aa:Machine→Trace→Prop}
def Ad (P:Program) (aa:Machine→Trace→Prop) (main:Bool):Pc→So→Goroutine→World→Prop
 | .send c v k=>fun γ g w=>AtSend P main c v g w∧∀ w1,gU γ w w1→Pr P aa main k γ (Conc.served g undef) w1
 | .recv c ok z k=>fun γ g w=>AtRecv P main c ok z g w∧∀ x w1,gU γ w w1→Pr P aa main (k x) γ (Conc.served g (recvd ok (x.getD z) x.isSome)) w1
 | .close c k=>fun γ g w=>g.status = .running∧mayWake P g=true∧∃ g',g'.status = .running∧(∀ s r tm,w.heap[c]? = some (.chan 0 #[] false s r tm)→stepG P main g w = .go g' (w.setChan c 0 #[] true s r tm) (closeEvents c))∧∀ w1,gU γ w w1→Pr P aa main k γ g' w1
 | .go child k=>fun γ g w=>g.status = .running∧∃ g' ch,g'.status = .running∧stepG P main g w = .spawn g' ch w∧ch.status = .running∧(∀ w1,gU γ.give w w1→Pr P aa false child γ.give ch w1)∧∀ w1,gU γ.give w w1→Pr P aa main k γ.give g' w1
 | _=>fun _ _ _=>False
def Pc.live (p:Pc):Prop:=p ≠ .stop∧p ≠ .ret∧p ≠ .bad
theorem J5 {main:Bool} {p:Pc} (hp:p.live) {γ:So} {g:Goroutine} {w:World} (h:Pr P aa main p γ g w):∃ r,RD P main gU EL (Ad P aa main p) r γ g w:=by
 cases p with
 | stop=>exact absurd rfl hp.1
 | ret=>exact absurd rfl hp.2.1
 | bad=>exact absurd rfl hp.2.2
 | send c v k=>exact h
 | recv c ok z k=>exact h
 | close c k=>exact h
 | go ch k=>exact h
theorem Ep {main:Bool} {p:Pc} {γ:So} {g:Goroutine} {w:World} (h:Ad P aa main p γ g w):g.status = .running:=by
 cases p with
 | send c v k=>exact h.1.1
 | recv c ok z k=>exact h.1.1
 | close c k=>exact h.1
 | go ch k=>exact h.1
 | stop=>exact h.elim
 | ret=>exact h.elim
 | bad=>exact h.elim
theorem wC (γ:So) (w:World) (d:Nat):gU γ w (w.at d):=⟨ai _,fun _ _=>rfl,rfl,rfl,rfl⟩
theorem gG (γ:So) (w:World):gU γ w w:=PR _ _ _
theorem dh {main:Bool} {p:Pc} {r:Tr} {γ:So} {g:Goroutine} {w:World} (h:RD P main gU EL (Ad P aa main p) r γ g w):g.status = .running:=by
 cases r with
 | leaf=>exact Ep (h w (gG _ _))
 | node f=>exact h.1
inductive Mem (P:Program) (aa:Machine→Trace→Prop) (j d:Nat) (γ:So) (w:World):Pc→Tr→Goroutine→Prop
 | stop (n:Nat) (g:Goroutine):j≠0→QuitsD P n d g→Mem P aa j d γ w .stop (Tr.nat n) g
 | ret (r:Tr) (g:Goroutine):g.status = .running→g.dying=none→gM P aa () g w→Mem P aa j d γ w .ret r g
 | run (p:Pc) (r:Tr) (g:Goroutine):p.live→RD P (j==0) gU EL (Ad P aa (j==0) p) r γ g w→Mem P aa j d γ w p r.up g
 | send (c:Nat) (v:Value) (k:Pc) (g:Goroutine) (z:Value):(∀ w1,gU γ w w1→Pr P aa (j==0) k γ (Conc.served g undef) w1)→Mem P aa j d γ w (.send c v k) .leaf (parked g #[scase c v z] .send)
 | recv (c:Nat) (ok:Bool) (z:Value) (k:Option Value→Pc) (g:Goroutine):(∀ w1,gU γ w w1→AtRecv P (j==0) c ok z (core g) w1)→(∀ x w1,gU γ w w1→Pr P aa (j==0) (k x) γ (Conc.served g (recvd ok (x.getD z) x.isSome)) w1)→Mem P aa j d γ w (.recv c ok z k) .leaf (parked g #[rcase c z] (.recv ok))
theorem mA {j:Nat} {γ:So} {w:World} {p:Pc} {g:Goroutine} (hs:g.status = .running) (hb:p ≠ .bad) (h0:p = .stop→j≠0) (h:Pr P aa (j==0) p γ g w):∃ r,Mem P aa j 0 γ w p r g:=by
 by_cases h1:p = .stop
 ·subst h1
  obtain⟨n,hn⟩:=h
  exact⟨_,.stop n g (h0 rfl) hn⟩
 ·by_cases h2:p = .ret
  ·subst h2
   exact⟨.leaf,.ret _ _ hs h.1 h.2⟩
  ·obtain⟨r,hr⟩:=J5 ⟨h1,h2,hb⟩ h
   exact⟨_,.run p r g ⟨h1,h2,hb⟩ hr⟩
structure uz (P:Program) (aa:Machine→Trace→Prop) (Cs:Nat→Prop) (N:Net) (γ:Nat→So) (rk:Nat→Tr) (tp:Nat) (gs:Array Goroutine) (w:World) (t:Trace):Prop where
 size:gs.size=N.n
 pos:0<N.n
 mem:∀ j g,gs[j]? = some g→Mem P aa j (Deaf t j) (γ j) w (N.pr j) (rk j) g
 ti:TI N γ w.heap.size tp t
 chan:∀ c,Cs c→(∃ s tm,w.heap[c]? = some (.chan 0 #[] (N.cl c).isSome s s tm))∧∀ j,¬ (γ j).1 c∧¬ (γ j).2 c
 open_:∀ j c ok z k g,gs[j]? = some g→g.status = .blocked→N.pr j = .recv c ok z k→N.cl c=none
 apart:∀ i j c v k ok z k' g g',gs[i]? = some g→gs[j]? = some g'→g.status = .blocked→g'.status = .blocked→N.pr i = .send c v k→N.pr j = .recv c ok z k'→False
 frames:∀ g,gs[0]? = some g→Fr g
theorem Mem.rely {j d:Nat} {γ:So} {w w1:World} {p:Pc} {r:Tr} {g:Goroutine} (hp:p ≠ .ret) (h:Mem P aa j d γ w p r g) (hr:gU γ w w1):Mem P aa j d γ w1 p r g:=by
 cases h with
 | stop n g h1 h2=>exact .stop n g h1 h2
 | ret r g h1 h2 h3=>exact absurd rfl hp
 | run p r g h1 h2=>exact .run p r g h1 (AG B8 h2 hr)
 | send c v k g z h1=>exact .send c v k g z fun w2 h2=>h1 w2 (fZ hr h2)
 | recv c ok z k g h1 h2=>exact .recv c ok z k g (fun w2 h3=>h1 w2 (fZ hr h3)) fun x w2 h3=>h2 x w2 (fZ hr h3)
theorem GK {N:Net} {γ:Nat→So} {tp:Nat} {t:Trace} {w w':World} {i j:Nat} (h:TI N γ w.heap.size tp t) (Jj:j≠i) {O':Nat→Prop} {es:Array Event} (hs:Sto (γ i).1 (γ i).2 w O' w' es):gU (γ j) w w':=by
 obtain⟨-,h2,h3,h4,h5,h6,-⟩:=hs
 refine⟨h2,fun b hb=>h3 b (h.Dl j b hb) fun hO => ?_,h4,h5,h6⟩
 have:=h.uI i j b hO
 rcases hb with hb | hb
 ·exact this.1 hb
 ·exact this.2 (Ne.symm Jj) hb
theorem Mem.awake {j d:Nat} {γ:So} {w:World} {p:Pc} {r:Tr} {g:Goroutine} (h:Mem P aa j d γ w p r g):g.status = .running∨g.status = .blocked∨g.status = .finished:=by
 cases h with
 | stop n g h1 h2=>exact h2.status.imp id .inr
 | ret r g h1 h2 h3=>exact .inl h1
 | run p r g h1 h2=>exact .inl (dh h2)
 | send c v k g z h1=>exact .inr (.inl rfl)
 | recv c ok z k g h1 h2=>exact .inr (.inl rfl)
theorem Mem.woken {j d:Nat} {γ:So} {w w':World} {p:Pc} {r:Tr} {g:Goroutine} (h:Mem P aa j d γ w p r g) (hc:∀ c,(∃ v k,p = .send c v k)∨(∃ ok z k,p = .recv c ok z k)→g.status = .blocked→∃ s tm,w'.heap[c]? = some (.chan 0 #[] false s s tm)) (a a':Goroutine):Conc.woken P a a' w' g=g:=by
 cases h with
 | stop n g h1 h2=>exact woken_quitsD h2
 | ret r g h1 h2 h3=>exact woken_run h1
 | run p r g h1 h2=>exact woken_run (dh h2)
 | send c v k g z h1 =>
  obtain⟨s,tm,h⟩:=hc c (.inl ⟨v,k,rfl⟩) rfl
  exact woken_send_open a a' h
 | recv c ok z k g h1 h2 =>
  obtain⟨s,tm,h⟩:=hc c (.inr ⟨ok,z,k,rfl⟩) rfl
  exact woken_recv_open a a' h
open Classical in
theorem Qk {Cs:Nat→Prop} {N:Net} {γ:Nat→So} {rk:Nat→Tr} {tp:Nat} {gs:Array Goroutine} {w:World} {sl:Option (Nat×Nat)} {t:Trace} (h:uz P aa Cs N γ rk tp gs w t)
  (h0:N.pr 0 = .ret) (hd:∀ j,0<j→j<N.n→N.pr j = .stop∧N.D 0 j):Ra P aa (crowd gs w sl) t:=by
 have hlt:0<gs.size:=by rw[h.size]; exact h.pos
 obtain⟨g,hg⟩:∃ g,gs[0]? = some g:=⟨gs[0],bL hlt⟩
 have hm:=h.mem 0 g hg
 rw[h0] at hm
 generalize Zx:rk 0=r at hm
 cases hm with
 | run p r g h1 h2=>exact absurd rfl h1.2.1
 | ret r g h1 h2 h3 =>
  have hq:∀ j,∃ n,∀ x,0<j→gs[j]? = some x→QuitsD P n (Deaf t j) x:=by
   intro j
   by_cases hj:0<j∧∃ x,gs[j]? = some x
   ·obtain⟨hj,x,hx⟩:=hj
    have kY:j<N.n:=by rw[← h.size]; exact(aG.1 hx).1
    have ZC:=h.mem j x hx
    rw[(hd j hj kY).1] at ZC
    generalize MP:rk j=r2 at ZC
    cases ZC with
    | stop n g h4 h5=>exact⟨n,fun y _ hy=>by rw[hx] at hy; cases hy; exact h5⟩
    | run p r g h4 h5=>exact absurd rfl h4.1
   ·exact⟨0,fun x h4 h5=>absurd ⟨h4,x,h5⟩ hj⟩
  have known:∀ i a,touchAt t i=some a→a.loc.isMemory=true→Knows t 0 i:=by
   intro i a ha qp
   rcases Nat.lt_or_ge i tp with hi | hi
   ·exact h.ti.pre i a 0 hi ha qp (by rw[h0]; simp) h.pos
   ·obtain⟨z,hz,-⟩:=touch_of ha
    have hgz:t.g? i=some z.g:=by unfold Trace.g?; rw[hz]; rfl
    by_cases EO:z.g=0
    ·exact wK (EO▸hgz)
    ·have hn:=h.ti.num i z.g hi hgz
     obtain⟨h4,h5⟩:=hd z.g (by omega) hn
     exact h.ti.kn i a z.g 0 hi ha hgz h4 h5 (.inl rfl) h.pos
  have Fg:mO t:=by
   refine⟨h.ti.clean,known,fun i g hg hne hc => ?_,h.ti.hears 0 (.inl (by rw[h0]; simp))⟩
   obtain⟨x,hx,hm,-⟩:=hc
   obtain⟨q,z,hz,EO,hb⟩:=known i x hx hm
   have hzg:t.g? q=some 0:=by unfold Trace.g?; rw[hz]; simp[EO]
   rcases hb with rfl | hb
   ·rw[hzg] at hg
    exact absurd (bU hg).symm hne
   ·exact⟨q,hzg,hb⟩
  exact h3 w.drawn (h.frames g hg) h1 h2 gs sl t (fun j=>Classical.choose (hq j)) hg ⟨fun j x hj hx=>rR (hq j) x hj hx,fun j hj=>h.ti.hears j (.inr (by rw[← h.size]; exact hj))⟩ Fg
theorem cv {gs:Array Goroutine} {i j:Nat} {g' x:Goroutine} (h:(gs.setIfInBounds i g')[j]? = some x):(j=i∧x=g')∨(j≠i∧gs[j]? = some x):=by
 by_cases fH:i=j
 ·subst fH
  by_cases hlt:i<gs.size
  ·rw[ji hlt] at h
   exact .inl ⟨rfl,(bU h).symm⟩
  ·rw[jR (by simpa using hlt)] at h; cases h
 ·rw[dM fH] at h
  exact .inr ⟨Ne.symm fH,h⟩
theorem CL {gs:Array Goroutine} {i:Nat} {f:Goroutine→Goroutine} {g':Goroutine} (h:∀ (j:Nat) (x:Goroutine),j≠i→gs[j]? = some x→f x=x):(gs.map f).setIfInBounds i g'=gs.setIfInBounds i g':=by
 apply Array.ext_getElem?
 intro j
 by_cases hj:i=j
 ·subst hj
  by_cases hlt:i<gs.size
  ·rw[ji (by simpa using hlt),ji hlt]
  ·rw[jR (by simpa using hlt),jR (by simpa using hlt)]
 ·rw[dM hj,dM hj,pJ]
  cases hx:gs[j]? with
  | none=>rfl
  | some x=>simp[h j x (Ne.symm hj) hx]
theorem uz.woken {Cs:Nat→Prop} {N:Net} {γ:Nat→So} {rk:Nat→Tr} {tp:Nat} {gs:Array Goroutine} {w w':World} {t:Trace} (h:uz P aa Cs N γ rk tp gs w t)
  (hsend:∀ i c v k,i<N.n→N.pr i = .send c v k→N.cl c=none∧Cs c) (hrecv:∀ j c ok z k,j<N.n→N.pr j = .recv c ok z k→Cs c) (hc:∀ c,Cs c→w'.heap[c]? = w.heap[c]?) (a a':Goroutine) :
  ∀ (j:Nat) (x:Goroutine),gs[j]? = some x→Conc.woken P a a' w' x=x:=by
 intro j x hx
 have kY:j<N.n:=by rw[← h.size]; exact(aG.1 hx).1
 refine(h.mem j x hx).woken (fun c hcc hbl => ?_) a a'
 rcases hcc with ⟨v,k,hp⟩ | ⟨ok,z,k,hp⟩
 ·obtain⟨h1,h2⟩:=hsend j c v k kY hp
  obtain⟨⟨s,tm,h3⟩,-⟩:=h.chan c h2
  rw[h1] at h3
  exact⟨s,tm,(hc c h2).trans h3⟩
 ·have h2:=hrecv j c ok z k kY hp
  have h1:=h.open_ j c ok z k x hx hbl hp
  obtain⟨⟨s,tm,h3⟩,-⟩:=h.chan c h2
  rw[h1] at h3
  exact⟨s,tm,(hc c h2).trans h3⟩
theorem PC (hP:Plain P) {Cs:Nat→Prop} {N:Net} {γ:Nat→So} {rk:Nat→Tr} {tp:Nat} {gs:Array Goroutine} {w:World} {t:Trace} (h:uz P aa Cs N γ rk tp gs w t)
  (hno:∀ j,j<N.n→N.pr j ≠ .ret∧N.pr j ≠ .bad) (hsend:∀ i c v k,i<N.n→N.pr i = .send c v k→N.cl c=none∧Cs c) (hrecv:∀ j c ok z k,j<N.n→N.pr j = .recv c ok z k→Cs c)
  {i:Nat} {g g':Goroutine} {d:Nat} {sl:Option (Nat×Nat)} {w':World} {es:Array Event} {γ':So} {r':Tr} (hi:gs[i]? = some g) (hl:(N.pr i).live)
  (hst:stepG P (i==0) g (w.at d) = .go g' w' es) (hS:EL (γ i) (w.at d) γ' w' es) (hG:RD P (i==0) gU EL (Ad P aa (i==0) (N.pr i)) r' γ' g' w') :
  runT P (crowd gs (w.at d) sl) i=(.next (crowd (gs.setIfInBounds i g') w' sl),MemOp.ofEvents i g.frame.fn g.frame.place es) ∧
  uz P aa Cs N (upd γ i γ') (upd rk i r'.up) tp (gs.setIfInBounds i g') w' (t++MemOp.ofEvents i g.frame.fn g.frame.place es):=by
 obtain⟨UQ,EH⟩:=hS
 have nk:i<N.n:=by rw[← h.size]; exact(aG.1 hi).1
 have hlt:i<gs.size:=(aG.1 hi).1
 have hγ:γ'=((γ i).1,γ'.2):=by rw[← UQ]
 have Jv:∀ c,Cs c→w'.heap[c]? = w.heap[c]? := by
  intro c hc
  obtain⟨⟨s,tm,h3⟩,h4⟩:=h.chan c hc
  refine EH.2.2.1 c ?_ (h4 i).2
  show c<w.heap.size
  exact(aG.1 h3).1
 have hrun:=runT_crowd_go (P:=P) (sl:=sl) hi hst
 rw[CL fun j x _ hx=>h.woken hsend hrecv Jv g g' j x hx] at hrun
 refine⟨hrun,?_⟩
 have YP:=h.ti.step nk hl.1 (O':=γ'.2) (es:=es) g.frame.fn g.frame.place (sz':=w'.heap.size) EH.2.1 EH.1 EH.2.2.2.2.2.2
 rw[← hγ] at YP
 have hrel:∀ j,j≠i→gU (γ j) w w':=fun j hj=>GK h.ti hj (w:=w) (O':=γ'.2) (es:=es) ⟨EH.1,EH.2.1,EH.2.2.1,EH.2.2.2.1,EH.2.2.2.2.1,EH.2.2.2.2.2.1,EH.2.2.2.2.2.2⟩
 have lp:=dh hG
 have hu:∀ op∈MemOp.ofEvents i g.frame.fn g.frame.place es,op.g=i:=fun op hop=>by rw[ofEvents_eq] at hop; obtain⟨e,_,rfl⟩:=eZ.1 hop; rfl
 refine⟨by simpa using h.size,h.pos,fun j x hx => ?_,YP,fun c hc => ?_,fun j c ok z k x hx hb hp => ?_,fun j j' c v k ok z k' x x' hx iU hb mo hp qb => ?_,fun x hx => ?_⟩
 ·rcases cv hx with ⟨rfl,rfl⟩ | ⟨hj,iU⟩
  ·rw[upd_same,upd_same]
   exact .run _ r' x hl hG
  ·rw[upd_ne _ _ hj,upd_ne _ _ hj,Deaf_other t (Ne.symm hj) _ hu]
   have kY:j<N.n:=by rw[← h.size]; exact(aG.1 iU).1
   exact(h.mem j x iU).rely (hno j kY).1 (hrel j hj)
 ·obtain⟨⟨s,tm,h3⟩,h4⟩:=h.chan c hc
  refine⟨⟨s,tm,(Jv c hc).trans h3⟩,fun j => ?_⟩
  by_cases hj:j=i
  ·subst hj
   rw[upd_same]
   refine⟨by rw[UQ]; exact(h4 j).1,fun hO => ?_⟩
   rcases (EH.1 c).1 hO with h5 | ⟨h5,-⟩
   ·exact(h4 j).2 h5
   ·have:c<w.heap.size:=(aG.1 h3).1
    have Y8:w.heap.size≤c:=h5
    omega
  ·rw[upd_ne _ _ hj]
   exact h4 j
 ·rcases cv hx with ⟨rfl,rfl⟩ | ⟨hj,iU⟩
  ·rw[lp] at hb; cases hb
  ·exact h.open_ j c ok z k x iU hb hp
 ·rcases cv hx with ⟨rfl,rfl⟩ | ⟨hj,EP⟩
  ·rw[lp] at hb; cases hb
  ·rcases cv iU with ⟨rfl,rfl⟩ | ⟨yY,Bt⟩
   ·rw[lp] at mo; cases mo
   ·exact h.apart j j' c v k ok z k' x x' EP Bt hb mo hp qb
 ·rcases cv hx with ⟨zB,rfl⟩ | ⟨hj,iU⟩
  ·subst zB
   have jY:=oz (b:=False) hP true g (h.frames g hi) (w.at d)
   rw[show stepG P true g (w.at d)=_ from hst] at jY
   exact jY.2.1
  ·exact h.frames x iU
end Go.Co
end
section
namespace Go.Co
open Go Go.Conc
open Go.ConcN (sumTo upd upd_same upd_ne)
variable {P:Program} {aa:Machine→Trace→Prop} {Cs:Nat→Prop} {N:Net} {γ:Nat→So} {rk:Nat→Tr} {tp:Nat} {gs:Array Goroutine} {w:World} {t:Trace}
theorem HQ (h:uz P aa Cs N γ rk tp gs w t) (hno:∀ j,j<N.n→N.pr j ≠ .ret∧N.pr j ≠ .bad) (d:Nat):uz P aa Cs N γ rk tp gs (w.at d) t :=
 ⟨h.size,h.pos,fun j x hx=>(h.mem j x hx).rely (hno j (by rw[← h.size]; exact(aG.1 hx).1)).1 (wC _ _ _),h.ti,h.chan,h.open_,h.apart,h.frames⟩
theorem PF (h:uz P aa Cs N γ rk tp gs w t)
  {i n:Nat} {g g':Goroutine} {sl:Option (Nat×Nat)} {es:Array Event} (hi:gs[i]? = some g) (hp:N.pr i = .stop) (zB:i≠0)
  (hm:∀ e∈es,Event.mute e=true) (hst:∀ w,stepG P false g w = .go g' w es) (hq:QuitsD P n (deafBehind (Deaf t i) es) g')
  (hsend:∀ i c v k,i<N.n→N.pr i = .send c v k→N.cl c=none∧Cs c) (hrecv:∀ j c ok z k,j<N.n→N.pr j = .recv c ok z k→Cs c) :
  runT P (crowd gs w sl) i=(.next (crowd (gs.setIfInBounds i g') w sl),MemOp.ofEvents i g.frame.fn g.frame.place es) ∧
  uz P aa Cs N γ (upd rk i (Tr.nat n)) tp (gs.setIfInBounds i g') w (t++MemOp.ofEvents i g.frame.fn g.frame.place es):=by
 have hlt:i<gs.size:=(aG.1 hi).1
 have nk:i<N.n:=by rw[← h.size]; exact hlt
 have hib:(i==0)=false:=by simpa using zB
 have hrun:=runT_crowd_go (P:=P) (sl:=sl) hi (by rw[hib]; exact hst w)
 rw[CL fun j x _ hx=>h.woken hsend hrecv (fun _ _=>rfl) g g' j x hx] at hrun
 refine⟨hrun,?_⟩
 have hu:∀ op∈MemOp.ofEvents i g.frame.fn g.frame.place es,op.g=i∧op.act.touch? = none:=fun op hop=>by
  rw[ofEvents_eq] at hop
  obtain⟨e,he,rfl⟩:=eZ.1 hop
  exact⟨rfl,touch_mute (hm e he)⟩
 have YP:TI N γ w.heap.size tp (t++MemOp.ofEvents i g.frame.fn g.frame.place es):=by
  refine h.ti.move (fun op hop=>(hu op hop).2) (fun j hj => ?_) (ai _) (fun op hop=>by rw[(hu op hop).1]; exact nk) (fun j hj kY=>⟨j,kY,hj,fun x hx=>hx.app _,fun b hb => .inl hb⟩) (fun _ _ hb=>hb) ?_ ?_ h.ti.uI h.ti.Dl h.ti.Jn h.ti.dst
  ·have fH:j≠i:=by
    rcases hj with h1 | h1
    ·exact fun e=>h1 (e▸hp)
    ·omega
   rw[Deaf_other t (Ne.symm fH) _ fun op hop=>(hu op hop).1]
   exact h.ti.hears j hj
  ·intro x y hD hy hx B4 q a Ni ha hg
   exact(h.ti.kn q a y x Ni ha hg hy hD hx B4).app _
  ·intro c E hE
   obtain⟨q,z,Ni,hz,hh,hk⟩:=h.ti.kc c E hE
   exact⟨q,z,by rw[getElem?_append_old (lt_size_of_getElem? Ni)]; exact Ni,hz,(heard_old (lt_size_of_getElem? Ni)).2 hh,fun x a y hx ha hgx Nx=>(hk x a y hx ha hgx Nx).app _⟩
 refine⟨by simpa using h.size,h.pos,fun j x hx => ?_,YP,h.chan,fun j c ok z k x hx hb uA => ?_,fun j j' c v k ok z k' x x' hx iU hb mo uA wz => ?_,fun x hx => ?_⟩
 ·rcases cv hx with ⟨rfl,rfl⟩ | ⟨hj,iU⟩
  ·rw[hp,upd_same,Deaf_own]
   exact .stop n x zB hq
  ·rw[upd_ne _ _ hj,Deaf_other t (Ne.symm hj) _ fun op hop=>(hu op hop).1]
   exact h.mem j x iU
 ·rcases cv hx with ⟨rfl,rfl⟩ | ⟨hj,iU⟩
  ·rw[hp] at uA; cases uA
  ·exact h.open_ j c ok z k x iU hb uA
 ·rcases cv hx with ⟨rfl,rfl⟩ | ⟨hj,EP⟩
  ·rw[hp] at uA; cases uA
  ·rcases cv iU with ⟨rfl,rfl⟩ | ⟨yY,Bt⟩
   ·rw[hp] at wz; cases wz
   ·exact h.apart j j' c v k ok z k' x x' EP Bt hb mo uA wz
 ·rcases cv hx with ⟨acP,rfl⟩ | ⟨hj,iU⟩
  ·exact absurd acP.symm zB
  ·exact h.frames x iU
theorem FO (h:uz P aa Cs N γ rk tp gs w t) {i:Nat} {g x0:Goroutine} (hi:gs[i]? = some g) (hf:x0.frame=g.frame) (hc:x0.callers=g.callers) (hd:x0.dying=g.dying)
  (hm:Mem P aa i (Deaf t i) (γ i) w (N.pr i) .leaf x0) (hop:∀ c ok z k,N.pr i = .recv c ok z k→N.cl c=none)
  (Nv:∀ j x c v k ok z k',j≠i→gs[j]? = some x→x.status = .blocked→(N.pr i = .send c v k→N.pr j = .recv c ok z k'→False)∧(N.pr j = .send c v k→N.pr i = .recv c ok z k'→False)) :
  uz P aa Cs N γ (upd rk i .leaf) tp (gs.setIfInBounds i x0) w t:=by
 refine⟨by simpa using h.size,h.pos,fun j x hx => ?_,h.ti,h.chan,fun j c ok z k x hx hb uA => ?_,fun j j' c v k ok z k' x x' hx iU hb mo uA wz => ?_,fun x hx => ?_⟩
 ·rcases cv hx with ⟨rfl,rfl⟩ | ⟨hj,iU⟩
  ·rw[upd_same]; exact hm
  ·rw[upd_ne _ _ hj]
   exact h.mem j x iU
 ·rcases cv hx with ⟨rfl,rfl⟩ | ⟨hj,iU⟩
  ·exact hop c ok z k uA
  ·exact h.open_ j c ok z k x iU hb uA
 ·rcases cv hx with ⟨rfl,rfl⟩ | ⟨hj,EP⟩
  ·rcases cv iU with ⟨rfl,rfl⟩ | ⟨yY,Bt⟩
   ·rw[uA] at wz; cases wz
   ·exact(Nv j' x' c v k ok z k' yY Bt mo).1 uA wz
  ·rcases cv iU with ⟨rfl,rfl⟩ | ⟨yY,Bt⟩
   ·exact(Nv j x c v k ok z k' hj EP hb).2 uA wz
   ·exact h.apart j j' c v k ok z k' x x' EP Bt hb mo uA wz
 ·rcases cv hx with ⟨rfl,rfl⟩ | ⟨hj,iU⟩
  ·have:=h.frames g hi
   unfold Fr at *
   rw[hf,hc,hd]
   exact this
  ·exact h.frames x iU
end Go.Co
end
section
namespace Go.Co
open Go Go.Conc
open Go.ConcN (sumTo upd upd_same upd_ne)
variable {P:Program} {aa:Machine→Trace→Prop} {Cs:Nat→Prop} {N:Net} {γ:Nat→So} {rk:Nat→Tr} {tp:Nat} {gs:Array Goroutine} {w:World} {t:Trace}
theorem Dz {N:Net} (h:zC Cs N):N.pr 0 ≠ .stop∧∀ j,j<N.n→N.pr j ≠ .bad:=by
 cases h with
 | done _ h1 h2 =>
  refine⟨by rw[h1]; simp,fun j hj => ?_⟩
  by_cases h0:j=0
  ·rw[h0,h1]; simp
  ·rw[(h2 j (by omega) hj).1]; simp
 | step _ h1 h2=>exact⟨h2,fun j hj=>(h1 j hj).2⟩
theorem yd {γ:So} {c:Nat} (hc:¬ γ.1 c∧¬ γ.2 c) (w:World) (d cap:Nat) (buf:Array Value) (cl:Bool) (s r:Nat) (tm:Bool):gU γ w ((w.at d).setChan c cap buf cl s r tm):=by
 refine⟨by simp[World.setChan,World.at],fun b hb => ?_,rfl,rfl,rfl⟩
 have:c≠b:=by
  rintro rfl
  exact hb.elim hc.1 hc.2
 simp only[World.setChan,World.at]
 rw[dM this]
theorem FN (h:uz P aa Cs N γ rk tp gs w t) (hno:∀ j,j<N.n→N.pr j ≠ .ret∧N.pr j ≠ .bad) {i j c s:Nat} {v:Value} {k:Pc} {ok:Bool} {z:Value} {kr:Option Value→Pc} (Jj:i≠j) (hi:i<N.n) (hj:j<N.n) (nK:Cs c)
  (hs:N.pr i = .send c v k) (hr:N.pr j = .recv c ok z kr) (sW:N.cl c=none) {gi gj:Goroutine} {gs':Array Goroutine} {d:Nat} {tm:Bool} {f f':FuncId} {p p':String}
  (hsz:gs'.size=gs.size) (hgi:gs'[i]? = some gi) (Nq:gs'[j]? = some gj) (hgo:∀ y,y≠i→y≠j→gs'[y]? = gs[y]?)
  (hsi:gi.status = .running) (hsj:gj.status = .running) (zy:∀ w1,gU (γ i) w w1→Pr P aa (i==0) k (γ i) gi w1) (uA:∀ w1,gU (γ j) w w1→Pr P aa (j==0) (kr (some v)) (γ j) gj w1)
  (ZI:∀ x,gs'[0]? = some x→Fr x) (zF:zC Cs (N.meet i j k (kr (some v)))) :
  ∃ B2,uz P aa Cs (N.meet i j k (kr (some v))) γ B2 tp gs' ((w.at d).setChan c 0 #[] false (s+1) (s+1) tm) (t++ei i j c s f f' p p'):=by
 have Jv:=h.chan c nK
 obtain⟨xW,yM⟩:=Dz zF
 have oe:∀ y,y≠i→y≠j→(N.meet i j k (kr (some v))).pr y=N.pr y:=fun y h1 h2=>by
  show upd (upd N.pr i k) j _ y=_
  rw[upd_ne _ _ h2,upd_ne _ _ h1]
 have wz:(N.meet i j k (kr (some v))).pr j=kr (some v):=upd_same _ _ _
 have WV:(N.meet i j k (kr (some v))).pr i=k:=by
  show upd (upd N.pr i k) j _ i=_
  rw[upd_ne _ _ Jj,upd_same]
 have hrel:∀ y,gU (γ y) w ((w.at d).setChan c 0 #[] false (s+1) (s+1) tm):=fun y=>yd (Jv.2 y) _ _ _ _ _ _ _ _
 obtain⟨ri,Wa⟩:=mA hsi (by rw[← WV]; exact yM i hi) (fun e h0=>xW (by rw[← h0,WV,e])) (zy _ (hrel i))
 obtain⟨rj,ZC⟩:=mA hsj (by rw[← wz]; exact yM j hj) (fun e h0=>xW (by rw[← h0,wz,e])) (uA _ (hrel j))
 have wq:N.pr i ≠ .stop:=by rw[hs]; simp
 have Nl:N.pr j ≠ .stop:=by rw[hr]; simp
 have xU:((w.at d).setChan c 0 #[] false (s+1) (s+1) tm).heap.size=w.heap.size:=by simp[World.setChan,World.at]
 refine⟨upd (upd rk i ri) j rj,hsz.trans h.size,h.pos,fun y x hx => ?_,?_,fun c' hc' => ?_,fun y c' ok' z' k' x hx hb hp => ?_,fun y y' c' v' k' ok' z' Rm x x' hx iU hb mo hp qb => ?_,ZI⟩
 ·by_cases h2:y=j
  ·subst h2
   rw[Nq] at hx
   cases hx
   rw[upd_same,wz,cI (iI _ _ _ _ _ _ _ _),h.ti.hears y (.inl Nl)]
   exact ZC
  ·by_cases h1:y=i
   ·subst h1
    rw[hgi] at hx
    cases hx
    rw[upd_ne _ _ h2,upd_same,WV,cI (iI _ _ _ _ _ _ _ _),h.ti.hears y (.inl wq)]
    exact Wa
   ·rw[hgo y h1 h2] at hx
    rw[upd_ne _ _ h2,upd_ne _ _ h1,oe y h1 h2,cI (iI _ _ _ _ _ _ _ _)]
    have Hp:y<N.n:=by rw[← h.size]; exact(aG.1 hx).1
    exact(h.mem y x hx).rely (hno y Hp).1 (hrel y)
 ·rw[xU]
  exact h.ti.meet hi hj Jj hs hr f f' p p'
 ·obtain⟨⟨s0,Rg,h3⟩,h4⟩:=h.chan c' hc'
  refine⟨?_,h4⟩
  by_cases hcc:c'=c
  ·subst hcc
   have hlt:c'<w.heap.size:=(aG.1 h3).1
   refine⟨s+1,tm,?_⟩
   show _=some (Obj.chan 0 #[] (N.cl c').isSome (s+1) (s+1) tm)
   rw[sW]
   simp[World.setChan,World.at,hlt]
  ·refine⟨s0,Rg,?_⟩
   show ((w.at d).setChan c 0 #[] false (s+1) (s+1) tm).heap[c']? = some (Obj.chan 0 #[] (N.cl c').isSome s0 s0 Rg)
   simp only[World.setChan,World.at]
   rw[dM (Ne.symm hcc)]
   exact h3
 ·by_cases h2:y=j
  ·subst h2
   rw[Nq] at hx; cases hx
   rw[hsj] at hb; cases hb
  ·by_cases h1:y=i
   ·subst h1
    rw[hgi] at hx; cases hx
    rw[hsi] at hb; cases hb
   ·rw[hgo y h1 h2] at hx
    rw[oe y h1 h2] at hp
    exact h.open_ y c' ok' z' k' x hx hb hp
 ·have live:∀ y x,gs'[y]? = some x→x.status = .blocked→y≠i∧y≠j:=fun y x hx hb=>by
   refine⟨?_,?_⟩
   ·rintro rfl
    rw[hgi] at hx; cases hx
    rw[hsi] at hb; cases hb
   ·rintro rfl
    rw[Nq] at hx; cases hx
    rw[hsj] at hb; cases hb
  obtain⟨a1,a2⟩:=live y x hx hb
  obtain⟨b1,b2⟩:=live y' x' iU mo
  rw[oe y a1 a2] at hp
  rw[oe y' b1 b2] at qb
  rw[hgo y a1 a2] at hx
  rw[hgo y' b1 b2] at iU
  exact h.apart y y' c' v' k' ok' z' Rm x x' hx iU hb mo hp qb
theorem vS (h:uz P aa Cs N γ rk tp gs w t) {i c j k:Nat} (hp:(j,k)∈partners (gs.setIfInBounds i ph) c false) :
  k=0∧j≠i∧j<N.n∧∃ g0 ok z kr,gs[j]? = some (parked g0 #[rcase c z] (.recv ok))∧N.pr j = .recv c ok z kr∧∀ x w1,gU (γ j) w w1→Pr P aa (j==0) (kr x) (γ j) (Conc.served g0 (recvd ok (x.getD z) x.isSome)) w1:=by
 obtain⟨g,hg,hk⟩:=mem_partners.1 hp
 rcases cv hg with ⟨rfl,rfl⟩ | ⟨fH,lp⟩
 ·rw[offersAt_ph] at hk; cases hk
 ·have kY:j<N.n:=by rw[← h.size]; exact(aG.1 lp).1
  have hm:=h.mem j g lp
  generalize uA:N.pr j=pj at hm
  generalize rk j=rj at hm
  cases hm with
  | stop n g h1 h2 =>
   rw[offersAt_of_not_blocked (by rcases h2.status with e | e<;>simp[e])] at hk; cases hk
  | ret r g h1 h2 h3=>rw[offersAt_of_not_blocked (by simp[h1])] at hk; cases hk
  | run p r g h1 h2=>rw[offersAt_of_not_blocked (by simp[dh h2])] at hk; cases hk
  | send c' v k' g z h1=>rw[offersAt_parked_send'] at hk; cases hk
  | recv c' ok z k' g h1 h2 =>
   rw[offersAt_parked_recv] at hk
   split at hk
   ·rename_i hcc
    subst hcc
    simp only[bH] at hk
    exact⟨hk,fH,kY,g,ok,z,k',lp,rfl,h2⟩
   ·cases hk
theorem pX (h:uz P aa Cs N γ rk tp gs w t) {i c j k:Nat} (hp:(j,k)∈partners (gs.setIfInBounds i ph) c true) :
  k=0∧j≠i∧j<N.n∧∃ g0 v z kr,gs[j]? = some (parked g0 #[scase c v z] .send)∧N.pr j = .send c v kr∧∀ w1,gU (γ j) w w1→Pr P aa (j==0) kr (γ j) (Conc.served g0 undef) w1:=by
 obtain⟨g,hg,hk⟩:=mem_partners.1 hp
 rcases cv hg with ⟨rfl,rfl⟩ | ⟨fH,lp⟩
 ·rw[offersAt_ph] at hk; cases hk
 ·have kY:j<N.n:=by rw[← h.size]; exact(aG.1 lp).1
  have hm:=h.mem j g lp
  generalize uA:N.pr j=pj at hm
  generalize rk j=rj at hm
  cases hm with
  | stop n g h1 h2 =>
   rw[offersAt_of_not_blocked (by rcases h2.status with e | e<;>simp[e])] at hk; cases hk
  | ret r g h1 h2 h3=>rw[offersAt_of_not_blocked (by simp[h1])] at hk; cases hk
  | run p r g h1 h2=>rw[offersAt_of_not_blocked (by simp[dh h2])] at hk; cases hk
  | recv c' ok z k' g h1 h2=>rw[offersAt_parked_recv'] at hk; cases hk
  | send c' v k' g z h1 =>
   rw[offersAt_parked_send] at hk
   split at hk
   ·rename_i hcc
    subst hcc
    simp only[bH] at hk
    exact⟨hk,fH,kY,g,v,z,k',lp,rfl,h1⟩
   ·cases hk
end Go.Co
end
section
namespace Go.Co
open Go Go.Conc
open Go.ConcN (sumTo upd upd_same upd_ne)
variable {P:Program} {aa:Machine→Trace→Prop} {Cs:Nat→Prop} {N:Net} {γ:Nat→So} {rk:Nat→Tr} {tp:Nat} {gs:Array Goroutine} {w:World} {t:Trace}
theorem ofEvents_none (g:Nat) (fn:FuncId) (pos:String):MemOp.ofEvents g fn pos #[]=#[]:=rfl
theorem s8 {g g0:Goroutine} {cs iB:Array CommCase} {sh Zk:CommShape} (h:parked g cs sh=parked g0 iB Zk) (v:Value):Conc.served g v=Conc.served g0 v:=by
 have:Conc.served (parked g cs sh) v=Conc.served (parked g0 iB Zk) v:=by rw[h]
 exact this
theorem vV {g g0:Goroutine} {cs iB:Array CommCase} {sh Zk:CommShape} (h:parked g cs sh=parked g0 iB Zk):g.frame=g0.frame∧g.callers=g0.callers∧g.dying=g0.dying∧cs=iB∧sh=Zk:=by
 have:=congrArg (fun(x:Goroutine)=>(x.frame,x.callers,x.dying,x.offers)) h
 simp[parked] at this
 exact⟨this.1,this.2.1,this.2.2.1,this.2.2.2.1,this.2.2.2.2⟩
theorem oK {g:Goroutine} (h:Fr g) (v:Value):Fr (Conc.served g v):=dB h v
theorem PI (h:uz P aa Cs N γ rk tp gs w t) (hno:∀ j,j<N.n→N.pr j ≠ .ret∧N.pr j ≠ .bad) {i c:Nat} {v:Value} {k:Pc} {g:Goroutine} {d:Nat} {sl:Option (Nat×Nat)} (hi:gs[i]? = some g) (hs:N.pr i = .send c v k) (sW:N.cl c=none) (nK:Cs c)
  (Wm:AtSend P (i==0) c v g (w.at d)) (hk:∀ w1,gU (γ i) (w.at d) w1→Pr P aa (i==0) k (γ i) (Conc.served g undef) w1)
  (zF:∀ j ok z kr,j<N.n→N.pr j = .recv c ok z kr→zC Cs (N.meet i j k (kr (some v)))) :
  (∃ gs',runT P (crowd gs (w.at d) sl) i=(.next (crowd gs' (w.at d) sl),#[])∧uz P aa Cs N γ (upd rk i .leaf) tp gs' w t) ∨
  (∃ N' gs' w' ops B2,runT P (crowd gs (w.at d) sl) i=(.next (crowd gs' w' sl),ops)∧zC Cs N'∧(∃ j ok z kr,j<N.n∧N.pr j = .recv c ok z kr∧N'=N.meet i j k (kr (some v)))∧uz P aa Cs N' γ B2 tp gs' w' (t++ops)):=by
 obtain⟨hr,z,hst⟩:=Wm
 have nk:i<N.n:=by rw[← h.size]; exact(aG.1 hi).1
 have hlt:i<gs.size:=(aG.1 hi).1
 obtain⟨⟨s,tm,hc⟩,-⟩:=h.chan c nK
 rw[sW] at hc
 have hc':(w.at d).heap[c]? = some (.chan 0 #[] false s s tm):=hc
 by_cases hne:partners (gs.setIfInBounds i ph) c false=[]
 ·left
  refine⟨gs.setIfInBounds i (parked (core g) #[scase c v z] .send),?_,?_⟩
  ·have:=crowd_waits (P:=P) (sl:=sl) hi hst (fun cc hcc=>by
    simp only[dA,bH] at hcc
    subst hcc
    exact ways_send_none hc' (by simp) hne)
   rw[this,ofEvents_none]
  ·refine FO h hi rfl rfl rfl ?_ (fun c' ok' z' k' e=>by rw[hs] at e; cases e) fun j x c' v' k' ok' z' Rm hj hx hb=>⟨fun e1 e2 => ?_,fun e1 e2=>by rw[hs] at e2; cases e2⟩
   ·rw[hs]
    exact .send c v k (core g) z fun w1 h1=>hk w1 h1
   ·rw[hs] at e1
    cases e1
    have hm:=h.mem j x hx
    rw[e2] at hm
    generalize rk j=rj at hm
    cases hm with
    | run p r g h1 h2=>rw[dh h2] at hb; cases hb
    | recv _ _ _ _ g h1 h2 =>
     have:(j,0)∈partners (gs.setIfInBounds i ph) c false:=mem_partners.2 ⟨_,stand_get hj hx,by rw[offersAt_parked_recv]; simp⟩
     rw[hne] at this; cases this
 ·right
  obtain⟨j,gj,zj,shj,d2,fH,Nq,hrun⟩:=crowd_send_meets_some (P:=P) (sl:=sl) hi hst hc' hne fun j k hp=>by
   obtain⟨h1,h2,-,g0,ok,z,kr,h3,-⟩:=vS h hp
   exact⟨h1,h2,g0,z,_,h3⟩
  have hp:(j,0)∈partners (gs.setIfInBounds i ph) c false:=mem_partners.2 ⟨_,stand_get fH Nq,by rw[offersAt_parked_recv]; simp⟩
  obtain⟨-,-,kY,g0,ok,z0,kr,h3,h4,h5⟩:=vS h hp
  rw[Nq] at h3
  have h3:=bU h3
  obtain⟨Ns,UM,hf3,-,YR⟩:=vV h3
  have Zp:Conc.served gj (recvd ok v true)=Conc.served g0 (recvd ok v true):=s8 h3 _
  subst YR
  rw[finishComm_recv,finishComm_send,Zp,ofEvents_none] at hrun
  have hw:=zF j ok z0 kr kY h4
  obtain⟨B2,nO⟩:=FN (gs':=(gs.setIfInBounds j (Conc.served g0 (recvd ok v true))).setIfInBounds i (Conc.served (core g) undef)) (d:=d2) (tm:=tm) (s:=s) (f:=(core g).frame.fn) (p:=(core g).frame.place) (f':=gj.frame.fn) (p':=gj.frame.place) h hno (Ne.symm fH) nk kY nK hs h4 sW (by simp) (gi:=Conc.served (core g) undef) (gj:=Conc.served g0 (recvd ok v true))
   (by simp[hlt]) (by
    rw[dM (Ne.symm fH)]
    have:j<gs.size:=by rw[h.size]; exact kY
    simp[this]) (fun y h1 h2=>by rw[dM (Ne.symm h1),dM (Ne.symm h2)]) rfl rfl (fun w1 h1=>hk w1 h1) (fun w1 h1=>h5 (some v) w1 h1) (fun x hx=>by
    rcases cv hx with ⟨h1,rfl⟩ | ⟨h1,iU⟩
    ·subst h1
     exact oK (h.frames g hi) undef
    ·rcases cv iU with ⟨h2,rfl⟩ | ⟨h2,Bt⟩
     ·subst h2
      rw[← Zp]
      exact oK (h.frames _ Nq) _
     ·exact h.frames x Bt) hw
  refine⟨_,_,_,_,B2,hrun,hw,⟨j,ok,z0,kr,kY,h4,rfl⟩,?_⟩
  rw[Array.empty_append]
  exact nO
end Go.Co
end
section
namespace Go.Co
open Go Go.Conc
open Go.ConcN (sumTo upd upd_same upd_ne)
variable {P:Program} {aa:Machine→Trace→Prop} {Cs:Nat→Prop} {N:Net} {γ:Nat→So} {rk:Nat→Tr} {tp:Nat} {gs:Array Goroutine} {w:World} {t:Trace}
theorem PJ (h:uz P aa Cs N γ rk tp gs w t) (hno:∀ j,j<N.n→N.pr j ≠ .ret∧N.pr j ≠ .bad) {i c:Nat} {ok:Bool} {z:Value} {kr:Option Value→Pc} {g:Goroutine} {d:Nat} {sl:Option (Nat×Nat)} (hi:gs[i]? = some g) (hs:N.pr i = .recv c ok z kr) (sW:N.cl c=none) (nK:Cs c)
  (Wm:AtRecv P (i==0) c ok z g (w.at d)) (ac1:∀ w1,gU (γ i) w w1→AtRecv P (i==0) c ok z g w1) (hk:∀ x w1,gU (γ i) w w1→Pr P aa (i==0) (kr x) (γ i) (Conc.served g (recvd ok (x.getD z) x.isSome)) w1)
  (zF:∀ j v k,j<N.n→N.pr j = .send c v k→zC Cs (N.meet j i k (kr (some v)))) :
  (∃ gs',runT P (crowd gs (w.at d) sl) i=(.next (crowd gs' (w.at d) sl),#[])∧uz P aa Cs N γ (upd rk i .leaf) tp gs' w t) ∨
  (∃ N' gs' w' ops B2,runT P (crowd gs (w.at d) sl) i=(.next (crowd gs' w' sl),ops)∧zC Cs N'∧(∃ j v k,j<N.n∧N.pr j = .send c v k∧N'=N.meet j i k (kr (some v)))∧uz P aa Cs N' γ B2 tp gs' w' (t++ops)):=by
 obtain⟨hr,hst⟩:=Wm
 have nk:i<N.n:=by rw[← h.size]; exact(aG.1 hi).1
 have hlt:i<gs.size:=(aG.1 hi).1
 obtain⟨⟨s,tm,hc⟩,-⟩:=h.chan c nK
 rw[sW] at hc
 have hc':(w.at d).heap[c]? = some (.chan 0 #[] false s s tm):=hc
 by_cases hne:partners (gs.setIfInBounds i ph) c true=[]
 ·left
  refine⟨gs.setIfInBounds i (parked (core g) #[rcase c z] (.recv ok)),?_,?_⟩
  ·have:=crowd_waits (P:=P) (sl:=sl) hi hst (fun cc hcc=>by
    simp only[dA,bH] at hcc
    subst hcc
    exact ways_recv_none hc' hne)
   rw[this,ofEvents_none]
  ·refine FO h hi rfl rfl rfl ?_ (fun c' ok' z' k' e=>by rw[hs] at e; cases e; exact sW) fun j x c' v' k' ok' z' Rm hj hx hb=>⟨fun e1 e2=>(by rw[hs] at e1; cases e1),fun e1 e2 => ?_⟩
   ·rw[hs]
    exact .recv c ok z kr (core g) (fun w1 h1=>⟨rfl,by
     have e:stepG P (i==0) (core g) w1=stepG P (i==0) g w1:=stepG_same rfl rfl rfl w1
     show stepG P (i==0) (core g) w1=_
     rw[e]
     exact(ac1 w1 h1).2⟩) fun x w1 h1=>hk x w1 h1
   ·rw[hs] at e2
    cases e2
    have hm:=h.mem j x hx
    rw[e1] at hm
    generalize rk j=rj at hm
    cases hm with
    | run p r g h1 h2=>rw[dh h2] at hb; cases hb
    | send _ _ _ g _ h1 =>
     have:(j,0)∈partners (gs.setIfInBounds i ph) c true:=mem_partners.2 ⟨_,stand_get hj hx,by rw[offersAt_parked_send]; simp⟩
     rw[hne] at this; cases this
 ·right
  obtain⟨j,gj,vj,zj,shj,d2,fH,Nq,hrun⟩:=crowd_recv_meets_some (P:=P) (sl:=sl) hi hst hc' hne fun j k hp=>by
   obtain⟨h1,h2,-,g0,v,z,kr,h3,-⟩:=pX h hp
   exact⟨h1,h2,g0,v,z,_,h3⟩
  have hp:(j,0)∈partners (gs.setIfInBounds i ph) c true:=mem_partners.2 ⟨_,stand_get fH Nq,by rw[offersAt_parked_send]; simp⟩
  obtain⟨-,-,kY,g0,v,z0,k,h3,h4,h5⟩:=pX h hp
  rw[Nq] at h3
  have h3:=bU h3
  obtain⟨Ns,UM,hf3,hcc,YR⟩:=vV h3
  have hv:vj=v:=by simp[scase] at hcc; exact hcc.1
  subst hv
  have Zp:Conc.served gj undef=Conc.served g0 undef:=s8 h3 _
  subst YR
  rw[finishComm_send,finishComm_recv,Zp,ofEvents_none] at hrun
  have hw:=zF j vj k kY h4
  obtain⟨B2,nO⟩:=FN (gs':=(gs.setIfInBounds j (Conc.served g0 undef)).setIfInBounds i (Conc.served (core g) (recvd ok vj true))) (d:=d2) (tm:=tm) (s:=s) (f':=(core g).frame.fn) (p':=(core g).frame.place) (f:=gj.frame.fn) (p:=gj.frame.place) h hno fH kY nk nK h4 hs sW (by simp) (gj:=Conc.served (core g) (recvd ok vj true)) (gi:=Conc.served g0 undef)
   (by
    rw[dM (Ne.symm fH)]
    have:j<gs.size:=by rw[h.size]; exact kY
    simp[this]) (by simp[hlt]) (fun y h1 h2=>by rw[dM (Ne.symm h2),dM (Ne.symm h1)]) rfl rfl (fun w1 h1=>h5 w1 h1) (fun w1 h1=>hk (some vj) w1 h1) (fun x hx=>by
    rcases cv hx with ⟨h1,rfl⟩ | ⟨h1,iU⟩
    ·subst h1
     exact oK (h.frames g hi) _
    ·rcases cv iU with ⟨h2,rfl⟩ | ⟨h2,Bt⟩
     ·subst h2
      rw[← Zp]
      exact oK (h.frames _ Nq) _
     ·exact h.frames x Bt) hw
  refine⟨_,_,_,_,B2,hrun,hw,⟨j,vj,k,kY,h4,rfl⟩,?_⟩
  rw[Array.empty_append]
  exact nO
end Go.Co
end
section
namespace Go.Co
open Go Go.Conc
open Go.ConcN (sumTo upd upd_same upd_ne)
variable {P:Program} {aa:Machine→Trace→Prop} {Cs:Nat→Prop} {N:Net} {γ:Nat→So} {rk:Nat→Tr} {tp:Nat} {gs:Array Goroutine} {w:World} {t:Trace}
theorem PK (h:uz P aa Cs N γ rk tp gs w t) (hsend:∀ i c v k,i<N.n→N.pr i = .send c v k→N.cl c=none∧Cs c) {i c:Nat} {ok:Bool} {z:Value} {kr:Option Value→Pc} {E:Nat→Prop} {g:Goroutine} {d:Nat} {sl:Option (Nat×Nat)} (hi:gs[i]? = some g) (hs:N.pr i = .recv c ok z kr) (qC:N.cl c=some E) (nK:Cs c)
  (Wm:AtRecv P (i==0) c ok z g (w.at d)) (hk:∀ x w1,gU (γ i) w w1→Pr P aa (i==0) (kr x) (γ i) (Conc.served g (recvd ok (x.getD z) x.isSome)) w1)
  (zF:zC Cs (N.hear i (kr none) E)) :
  ∃ gs' ops B2,runT P (crowd gs (w.at d) sl) i=(.next (crowd gs' (w.at d) sl),ops)∧uz P aa Cs (N.hear i (kr none) E) γ B2 tp gs' w (t++ops):=by
 obtain⟨hr,hst⟩:=Wm
 have nk:i<N.n:=by rw[← h.size]; exact(aG.1 hi).1
 have hlt:i<gs.size:=(aG.1 hi).1
 obtain⟨⟨s,tm,hc⟩,-⟩:=h.chan c nK
 rw[qC] at hc
 have hc':(w.at d).heap[c]? = some (.chan 0 #[] true s s tm):=hc
 have ZB:partners (gs.setIfInBounds i ph) c true=[]:=by
  cases hp:partners (gs.setIfInBounds i ph) c true with
  | nil=>rfl
  | cons x l =>
   obtain⟨j,k⟩:=x
   obtain⟨-,-,kY,g0,v,z0,k',-,h4,-⟩:=pX h (i:=i) (c:=c) (j:=j) (k:=k) (by rw[hp]; simp)
   rw[(hsend j c v k' kY h4).1] at qC
   cases qC
 have hrun:=crowd_recv_closed (P:=P) (sl:=sl) hi hst hc' ZB
 rw[finishComm_recv,ofEvents_none,Array.empty_append] at hrun
 obtain⟨xW,yM⟩:=Dz zF
 have oe:∀ y,y≠i→(N.hear i (kr none) E).pr y=N.pr y:=fun y h1=>upd_ne _ _ h1
 have zy:(N.hear i (kr none) E).pr i=kr none:=upd_same _ _ _
 have wq:N.pr i ≠ .stop:=by rw[hs]; simp
 obtain⟨ri,Wa⟩:=mA (P:=P) (aa:=aa) (j:=i) (γ:=γ i) (w:=w) (p:=kr none) (g:=Conc.served (core g) (recvd ok z false)) rfl (by rw[← zy]; exact yM i nk) (fun e h0=>xW (by rw[← h0,zy,e])) (hk none w (gG _ _))
 have xF:kP #[({ g:=i,fn:=(core g).frame.fn,pos:=(core g).frame.place,act := .recvClosed c }:MemOp)]:=by
  intro op hop m
  simp only[dA,bH] at hop
  subst hop; simp
 refine⟨_,_,upd rk i ri,hrun,(by rw[rT]; exact h.size),h.pos,fun y x hx => ?_,h.ti.hear nk hs qC _ _,h.chan,fun y c' ok' z' k' x hx hb hp => ?_,fun y y' c' v' k' ok' z' Rm x x' hx iU hb mo hp qb => ?_,fun x hx => ?_⟩
 ·rcases cv hx with ⟨rfl,rfl⟩ | ⟨hy,iU⟩
  ·rw[upd_same,zy,cI xF,h.ti.hears y (.inl wq)]
   exact Wa
  ·rw[upd_ne _ _ hy,oe y hy,cI xF]
   exact h.mem y x iU
 ·rcases cv hx with ⟨rfl,rfl⟩ | ⟨hy,iU⟩
  ·cases hb
  ·rw[oe y hy] at hp
   exact h.open_ y c' ok' z' k' x iU hb hp
 ·rcases cv hx with ⟨rfl,rfl⟩ | ⟨hy,EP⟩
  ·cases hb
  ·rcases cv iU with ⟨rfl,rfl⟩ | ⟨UE,Bt⟩
   ·cases mo
   ·rw[oe y hy] at hp
    rw[oe y' UE] at qb
    exact h.apart y y' c' v' k' ok' z' Rm x x' EP Bt hb mo hp qb
 ·rcases cv hx with ⟨h1,rfl⟩ | ⟨h1,iU⟩
  ·subst h1
   exact oK (h.frames g hi) _
  ·exact h.frames x iU
end Go.Co
end
section
namespace Go.Co
open Go Go.Conc
open Go.ConcN (sumTo upd upd_same upd_ne)
variable {P:Program} {aa:Machine→Trace→Prop} {Cs:Nat→Prop} {N:Net} {γ:Nat→So} {rk:Nat→Tr} {tp:Nat} {gs:Array Goroutine} {w:World} {t:Trace}
theorem LG (hP:Plain P) (h:uz P aa Cs N γ rk tp gs w t) {i:Nat} {ch k:Pc} {g g' x0:Goroutine} {d:Nat} {sl:Option (Nat×Nat)} (hi:gs[i]? = some g) (hs:N.pr i = .go ch k)
  (hst:stepG P (i==0) g (w.at d) = .spawn g' x0 (w.at d)) (xE:g'.status = .running) (Hs:x0.status = .running)
  (hch:∀ w1,gU (γ i).give (w.at d) w1→Pr P aa false ch (γ i).give x0 w1) (hk:∀ w1,gU (γ i).give (w.at d) w1→Pr P aa (i==0) k (γ i).give g' w1)
  (zF:zC Cs (N.start i ch k)) :
  ∃ gs' ops B2,runT P (crowd gs (w.at d) sl) i=(.next (crowd gs' (w.at d) sl),ops)∧uz P aa Cs (N.start i ch k) (upd (upd γ i (γ i).give) N.n (γ i).give) B2 tp gs' w (t++ops):=by
 have hlt:i<gs.size:=(aG.1 hi).1
 have nk:i<N.n:=by rw[← h.size]; exact hlt
 have hrun:=runT_crowd_spawn (P:=P) (sl:=sl) hi hst
 have R8:i≠N.n:=by omega
 have uw:N.n≠0:=by omega
 have e:(((MemOp.ofEvents i g.frame.fn g.frame.place #[]).push { g:=i,fn:=g.frame.fn,pos:=g.frame.place,act := .go gs.size }).push { g:=gs.size,fn:=x0.frame.fn,pos:=g.frame.place,act := .start })=qI i N.n g.frame.fn x0.frame.fn g.frame.place g.frame.place:=by
  rw[ofEvents_none,h.size]; rfl
 rw[e] at hrun
 obtain⟨xW,yM⟩:=Dz zF
 have oe:∀ y,y≠i→y≠N.n→(N.start i ch k).pr y=N.pr y:=fun y h1 h2=>by
  show upd (upd N.pr i k) N.n ch y=_
  rw[upd_ne _ _ h2,upd_ne _ _ h1]
 have hpn:(N.start i ch k).pr N.n=ch:=upd_same _ _ _
 have zy:(N.start i ch k).pr i=k:=by
  show upd (upd N.pr i k) N.n ch i=_
  rw[upd_ne _ _ R8,upd_same]
 have wq:N.pr i ≠ .stop:=by rw[hs]; simp
 have back:gU (γ i).give (w.at d) w:=⟨ai _,fun _ _=>rfl,rfl,rfl,rfl⟩
 obtain⟨ri,Wa⟩:=mA (j:=i) xE (by rw[← zy]; exact yM i (nF nk)) (fun e h0=>xW (by rw[← h0,zy,e])) (hk w back)
 obtain⟨rn,hmn⟩:=mA (P:=P) (aa:=aa) (j:=N.n) (γ:=(γ i).give) (w:=w) (p:=ch) (g:=x0) Hs (by rw[← hpn]; exact yM N.n (Nat.lt_succ_self _)) (fun _=>uw) (by rw[show (N.n==0)=false by simpa using uw]; exact hch w back)
 have YP:=h.ti.start nk hs g.frame.fn x0.frame.fn g.frame.place g.frame.place
 have xF:=uo i N.n g.frame.fn x0.frame.fn g.frame.place g.frame.place
 have bh:∀ (y:Nat) (x:Goroutine),((gs.setIfInBounds i g').push x0)[y]? = some x→(y=N.n∧x=x0)∨(y=i∧x=g')∨(y≠i∧y≠N.n∧gs[y]? = some x):=by
  intro y x hx
  rw[Array.getElem?_push] at hx
  split at hx
  ·rename_i hy
   rw[rT,h.size] at hy
   exact .inl ⟨hy,(bU hx).symm⟩
  ·rename_i hy
   rw[rT,h.size] at hy
   rcases cv hx with ⟨h1,h2⟩ | ⟨h1,h2⟩
   ·exact .inr (.inl ⟨h1,h2⟩)
   ·exact .inr (.inr ⟨h1,hy,h2⟩)
 refine⟨_,_,upd (upd rk i ri) N.n rn,hrun,?_,Nat.succ_pos _,fun y x hx => ?_,YP,fun c hc => ?_,fun y c' ok' z' k' x hx hb hp => ?_,fun y y' c' v' k' ok' z' Rm x x' hx iU hb mo hp qb => ?_,fun x hx => ?_⟩
 ·rw[Array.size_push,rT,h.size]; rfl
 ·rcases bh y x hx with ⟨rfl,rfl⟩ | ⟨rfl,rfl⟩ | ⟨h1,h2,iU⟩
  ·rw[upd_same,upd_same,hpn,cI xF,h.ti.hears N.n (.inr (ai _))]
   exact hmn
  ·rw[upd_ne _ _ R8,upd_same,upd_ne _ _ R8,upd_same,zy,cI xF,h.ti.hears y (.inl wq)]
   exact Wa
  ·rw[upd_ne _ _ h2,upd_ne _ _ h1,upd_ne _ _ h2,upd_ne _ _ h1,oe y h1 h2,cI xF]
   exact h.mem y x iU
 ·obtain⟨h3,h4⟩:=h.chan c hc
  refine⟨h3,fun y => ?_⟩
  have hgv:¬ ((γ i).give).1 c∧¬ ((γ i).give).2 c:=⟨fun hx=>hx.elim (h4 i).1 (h4 i).2,fun hx=>hx⟩
  by_cases h2:y=N.n
  ·rw[h2,upd_same]; exact hgv
  ·by_cases h1:y=i
   ·rw[h1,upd_ne _ _ R8,upd_same]; exact hgv
   ·rw[upd_ne _ _ h2,upd_ne _ _ h1]; exact h4 y
 ·rcases bh y x hx with ⟨rfl,rfl⟩ | ⟨rfl,rfl⟩ | ⟨h1,h2,iU⟩
  ·rw[Hs] at hb; cases hb
  ·rw[xE] at hb; cases hb
  ·rw[oe y h1 h2] at hp
   exact h.open_ y c' ok' z' k' x iU hb hp
 ·rcases bh y x hx with ⟨rfl,rfl⟩ | ⟨rfl,rfl⟩ | ⟨h1,h2,EP⟩
  ·rw[Hs] at hb; cases hb
  ·rw[xE] at hb; cases hb
  ·rcases bh y' x' iU with ⟨rfl,rfl⟩ | ⟨rfl,rfl⟩ | ⟨EW,h2',Bt⟩
   ·rw[Hs] at mo; cases mo
   ·rw[xE] at mo; cases mo
   ·rw[oe y h1 h2] at hp
    rw[oe y' EW h2'] at qb
    exact h.apart y y' c' v' k' ok' z' Rm x x' EP Bt hb mo hp qb
 ·rcases bh 0 x hx with ⟨h1,-⟩ | ⟨h1,rfl⟩ | ⟨_,_,iU⟩
  ·exact absurd h1.symm uw
  ·have h1:i=0:=h1.symm
   subst h1
   have jY:=oz (b:=False) hP true g (h.frames g hi) (w.at d)
   rw[show stepG P true g (w.at d)=_ from hst] at jY
   exact jY.2
  ·exact h.frames x iU
end Go.Co
end
section
namespace Go.Co
open Go Go.Conc
open Go.ConcN (sumTo upd upd_same upd_ne)
variable {P:Program} {aa:Machine→Trace→Prop} {Cs:Nat→Prop} {N:Net} {γ:Nat→So} {rk:Nat→Tr} {tp:Nat} {gs:Array Goroutine} {w:World} {t:Trace}
theorem Lr {a a':Goroutine} {w':World} {o:Goroutine} (hm:mayWake P a=true) (hr:a'.status = .running):Conc.woken P a a' w' o=o.again w':=by
 unfold Conc.woken
 simp[hm,hr]
theorem Mem.shut {j d dd:Nat} {γ:So} {w:World} {p:Pc} {r:Tr} {g:Goroutine} {c s:Nat} {tm:Bool} {a a':Goroutine} (h:Mem P aa j d γ w p r g) (hp:p ≠ .ret) (hm:mayWake P a=true) (hr:a'.status = .running)
  (hcw:∃ x,w.heap[c]? = some x) (hrel:gU γ w ((w.at dd).setChan c 0 #[] true s s tm))
  (hsend:∀ c' v k,p = .send c' v k→c'≠c∧∃ s tm,w.heap[c']? = some (.chan 0 #[] false s s tm))
  (hrecv:∀ c' ok z k,p = .recv c' ok z k→g.status = .blocked→∃ s tm,w.heap[c']? = some (.chan 0 #[] false s s tm)) :
  ∃ r',Mem P aa j d γ ((w.at dd).setChan c 0 #[] true s s tm) p r' (Conc.woken P a a' ((w.at dd).setChan c 0 #[] true s s tm) g) ∧
   (∀ c' ok z k,p = .recv c' ok z k→(Conc.woken P a a' ((w.at dd).setChan c 0 #[] true s s tm) g).status = .blocked→g.status = .blocked∧c'≠c) ∧
   ((Conc.woken P a a' ((w.at dd).setChan c 0 #[] true s s tm) g).status = .blocked→g.status = .blocked)∧(Conc.woken P a a' ((w.at dd).setChan c 0 #[] true s s tm) g).frame=g.frame∧(Conc.woken P a a' ((w.at dd).setChan c 0 #[] true s s tm) g).callers=g.callers∧(Conc.woken P a a' ((w.at dd).setChan c 0 #[] true s s tm) g).dying=g.dying:=by
 obtain⟨x,hx⟩:=hcw
 have hlt:c<w.heap.size:=(aG.1 hx).1
 have nV:∀ c',c'≠c→((w.at dd).setChan c 0 #[] true s s tm).heap[c']? = w.heap[c']? := fun c' hc'=>by
  simp only[World.setChan,World.at]
  rw[dM (Ne.symm hc')]
 have abn:((w.at dd).setChan c 0 #[] true s s tm).heap[c]? = some (Obj.chan 0 #[] true s s tm):=by simp[World.setChan,World.at,hlt]
 have h':=h.rely hp hrel
 cases h with
 | stop n g h1 h2 =>
  rw[woken_quitsD h2]
  exact⟨_,h',fun _ _ _ _ e=>(by cases e),id,rfl,rfl,rfl⟩
 | ret r g h1 h2 h3=>exact absurd rfl hp
 | run p r g h1 h2 =>
  have Wl:=dh h2
  rw[woken_run Wl]
  exact⟨_,h',fun _ _ _ _ _ hb=>(by rw[Wl] at hb; cases hb),id,rfl,rfl,rfl⟩
 | send c' v k g z h1 =>
  obtain⟨hne,s',tm',h2⟩:=hsend c' v k rfl
  rw[woken_send_open a a' ((nV c' hne).trans h2)]
  exact⟨_,h',fun _ _ _ _ e=>(by cases e),id,rfl,rfl,rfl⟩
 | recv c' ok z k g h1 h2 =>
  by_cases hcc:c'=c
  ·subst hcc
   rw[Lr hm hr,again_recv_closed abn]
   refine⟨_,.run (.recv c' ok z k) .leaf _ ⟨by simp,by simp,by simp⟩ (fun w1 h3=>⟨⟨rfl,?_⟩,fun x w2 h4 => ?_⟩),fun _ _ _ _ _ hb=>(by cases hb),fun hb=>(by cases hb),rfl,rfl,rfl⟩
   ·have:=(h1 w1 (fZ hrel h3)).2
    have e:stepG P (j==0) { parked g #[rcase c' z] (.recv ok) with status := .running } w1=stepG P (j==0) (core g) w1:=stepG_same rfl rfl rfl w1
    rw[e]
    exact this
   ·exact h2 x w2 (fZ (fZ hrel h3) h4)
  ·obtain⟨s',tm',h3⟩:=hrecv c' ok z k rfl rfl
   rw[woken_recv_open a a' ((nV c' hcc).trans h3)]
   exact⟨_,h',fun _ _ _ _ e _=>(by cases e; exact⟨rfl,hcc⟩),id,rfl,rfl,rfl⟩
end Go.Co
end
section
namespace Go.Co
open Go Go.Conc
open Go.ConcN (sumTo upd upd_same upd_ne)
variable {P:Program} {aa:Machine→Trace→Prop} {Cs:Nat→Prop} {N:Net} {γ:Nat→So} {rk:Nat→Tr} {tp:Nat} {gs:Array Goroutine} {w:World} {t:Trace}
open Classical in
theorem PG (hP:Plain P) (h:uz P aa Cs N γ rk tp gs w t) (hno:∀ j,j<N.n→N.pr j ≠ .ret∧N.pr j ≠ .bad) (hsend:∀ i c v k,i<N.n→N.pr i = .send c v k→N.cl c=none∧Cs c) (hrecv:∀ j c ok z k,j<N.n→N.pr j = .recv c ok z k→Cs c)
  {i c:Nat} {k:Pc} {g g':Goroutine} {d:Nat} {sl:Option (Nat×Nat)} (hi:gs[i]? = some g) (hs:N.pr i = .close c k) (sW:N.cl c=none) (nK:Cs c) (hmw:mayWake P g=true) (xE:g'.status = .running)
  (hst:∀ s r tm,(w.at d).heap[c]? = some (.chan 0 #[] false s r tm)→stepG P (i==0) g (w.at d) = .go g' ((w.at d).setChan c 0 #[] true s r tm) (closeEvents c))
  (hk:∀ w1,gU (γ i) w w1→Pr P aa (i==0) k (γ i) g' w1) (Df:∀ j v k',j<N.n→N.pr j ≠ .send c v k') (zF:zC Cs (N.shut i c k)) :
  ∃ gs' w' ops B2,runT P (crowd gs (w.at d) sl) i=(.next (crowd gs' w' sl),ops)∧uz P aa Cs (N.shut i c k) γ B2 tp gs' w' (t++ops):=by
 have hlt:i<gs.size:=(aG.1 hi).1
 have nk:i<N.n:=by rw[← h.size]; exact hlt
 obtain⟨⟨s,tm,hc⟩,BB⟩:=h.chan c nK
 rw[sW] at hc
 have hst:=hst s s tm hc
 have hrun:=runT_crowd_go (P:=P) (sl:=sl) hi hst
 obtain⟨xW,yM⟩:=Dz zF
 have oe:∀ y,y≠i→(N.shut i c k).pr y=N.pr y:=fun y h1=>upd_ne _ _ h1
 have zy:(N.shut i c k).pr i=k:=upd_same _ _ _
 have wq:N.pr i ≠ .stop:=by rw[hs]; simp
 have hrel:∀ y,gU (γ y) w ((w.at d).setChan c 0 #[] true s s tm):=fun y=>yd (BB y) _ _ _ _ _ _ _ _
 have hu:∀ op∈MemOp.ofEvents i g.frame.fn g.frame.place (closeEvents c),op.g=i:=fun op hop=>by rw[ofEvents_eq] at hop; obtain⟨e,_,rfl⟩:=eZ.1 hop; rfl
 obtain⟨ri,Wa⟩:=mA (P:=P) (aa:=aa) (j:=i) (γ:=γ i) (w:=(w.at d).setChan c 0 #[] true s s tm) (p:=k) (g:=g') xE (by rw[← zy]; exact yM i nk) (fun e h0=>xW (by rw[← h0,zy,e])) (hk _ (hrel i))
 have ew:∀ (y:Nat) (x:Goroutine),y≠i→gs[y]? = some x→_:=fun y x hy hx=>(h.mem y x hx).shut (a:=g) (a':=g') (c:=c) (s:=s) (tm:=tm) (dd:=d) (hno y (by rw[← h.size]; exact(aG.1 hx).1)).1 hmw xE ⟨_,hc⟩ (hrel y)
  (fun c' v k' e=>by
   have Hp:y<N.n:=by rw[← h.size]; exact(aG.1 hx).1
   obtain⟨h1,h2⟩:=hsend y c' v k' Hp e
   obtain⟨⟨s0,Rg,h3⟩,-⟩:=h.chan c' h2
   rw[h1] at h3
   exact⟨fun e2=>Df y v k' Hp (e2▸e),s0,Rg,h3⟩)
  (fun c' ok z k' e hb=>by
   have Hp:y<N.n:=by rw[← h.size]; exact(aG.1 hx).1
   have h1:=h.open_ y c' ok z k' x hx hb e
   obtain⟨⟨s0,Rg,h3⟩,-⟩:=h.chan c' (hrecv y c' ok z k' Hp e)
   rw[h1] at h3
   exact⟨s0,Rg,h3⟩)
 have hex:∀ y:Nat,∃ r',∀ x:Goroutine,y≠i→gs[y]? = some x→Mem P aa y (Deaf t y) (γ y) ((w.at d).setChan c 0 #[] true s s tm) (N.pr y) r' (Conc.woken P g g' ((w.at d).setChan c 0 #[] true s s tm) x):=by
  intro y
  by_cases hy:y≠i∧∃ x,gs[y]? = some x
  ·obtain⟨hy,x,hx⟩:=hy
   obtain⟨r',h1,-⟩:=ew y x hy hx
   exact⟨r',fun x' _ iU=>by rw[hx] at iU; cases iU; exact h1⟩
  ·exact⟨.leaf,fun x h1 h2=>absurd ⟨h1,x,h2⟩ hy⟩
 have bh:∀ (y:Nat) (x:Goroutine),((gs.map (Conc.woken P g g' ((w.at d).setChan c 0 #[] true s s tm))).setIfInBounds i g')[y]? = some x→(y=i∧x=g')∨(y≠i∧∃ x0,gs[y]? = some x0∧x=Conc.woken P g g' ((w.at d).setChan c 0 #[] true s s tm) x0):=by
  intro y x hx
  rcases cv hx with h1 | ⟨h1,h2⟩
  ·exact .inl h1
  ·rw[pJ] at h2
   obtain⟨x0,h3,h4⟩:=ah.1 h2
   exact .inr ⟨h1,x0,h3,h4.symm⟩
 have xU:((w.at d).setChan c 0 #[] true s s tm).heap.size=w.heap.size:=by simp[World.setChan,World.at]
 refine⟨_,_,_,upd (fun y=>Classical.choose (hex y)) i ri,hrun,(by rw[rT,Array.size_map]; exact h.size),h.pos,fun y x hx => ?_,(by rw[xU]; exact h.ti.shut nk hs _ _),fun c' hc' => ?_,fun y c' ok' z' k' x hx hb hp => ?_,fun y y' c' v' k' ok' z' Rm x x' hx iU hb mo hp qb => ?_,fun x hx => ?_⟩
 ·rcases bh y x hx with ⟨rfl,rfl⟩ | ⟨hy,x0,ER,rfl⟩
  ·rw[upd_same,zy,Deaf_own,h.ti.hears y (.inl wq)]
   exact Wa
  ·rw[upd_ne _ _ hy,oe y hy,Deaf_other t (Ne.symm hy) _ hu]
   exact rR (hex y) x0 hy ER
 ·obtain⟨⟨s0,Rg,h3⟩,h4⟩:=h.chan c' hc'
  refine⟨?_,h4⟩
  by_cases hcc:c'=c
  ·subst hcc
   have hl:c'<w.heap.size:=(aG.1 h3).1
   refine⟨s,tm,?_⟩
   show _=some (Obj.chan 0 #[] (upd N.cl c' _ c').isSome s s tm)
   rw[upd_same]
   simp[World.setChan,World.at,hl]
  ·refine⟨s0,Rg,?_⟩
   show _=some (Obj.chan 0 #[] (upd N.cl c _ c').isSome s0 s0 Rg)
   rw[upd_ne _ _ hcc]
   simp only[World.setChan,World.at]
   rw[dM (Ne.symm hcc)]
   exact h3
 ·rcases bh y x hx with ⟨rfl,rfl⟩ | ⟨hy,x0,ER,rfl⟩
  ·rw[xE] at hb; cases hb
  ·rw[oe y hy] at hp
   obtain⟨_,-,h2,-⟩:=ew y x0 hy ER
   obtain⟨h3,h4⟩:=h2 c' ok' z' k' hp hb
   show upd N.cl c _ c'=none
   rw[upd_ne _ _ h4]
   exact h.open_ y c' ok' z' k' x0 ER h3 hp
 ·rcases bh y x hx with ⟨rfl,rfl⟩ | ⟨hy,x0,ER,rfl⟩
  ·rw[xE] at hb; cases hb
  ·rcases bh y' x' iU with ⟨rfl,rfl⟩ | ⟨UE,x1,EP,rfl⟩
   ·rw[xE] at mo; cases mo
   ·rw[oe y hy] at hp
    rw[oe y' UE] at qb
    obtain⟨_,-,-,h2,-⟩:=ew y x0 hy ER
    obtain⟨_,-,-,h2',-⟩:=ew y' x1 UE EP
    exact h.apart y y' c' v' k' ok' z' Rm x0 x1 ER EP (h2 hb) (h2' mo) hp qb
 ·rcases bh 0 x hx with ⟨h1,rfl⟩ | ⟨hy,x0,ER,rfl⟩
  ·have h1:i=0:=h1.symm
   subst h1
   have jY:=oz (b:=False) hP true g (h.frames g hi) (w.at d)
   rw[show stepG P true g (w.at d)=_ from hst] at jY
   exact jY.2.1
  ·obtain⟨_,-,-,-,h2,h3,h4⟩:=ew 0 x0 hy ER
   have:=h.frames x0 ER
   unfold Fr at *
   rw[h2,h3,h4]
   exact this
end Go.Co
end
