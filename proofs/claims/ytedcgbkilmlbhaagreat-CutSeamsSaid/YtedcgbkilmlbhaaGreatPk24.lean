import Derived.Test.YtedcgbkilmlbhaaGreatPk23
import Derived.Conc.CompanyMem
import Derived.Conc.AppendWalk
import Derived.Laws.AppendOwn
import Derived.Below
import Derived.Test.YtedcgbkilmlbhaaGreatPk17
import Derived.AtR
section
namespace Go.Co
open Go Go.Conc
open Go.ConcN (sumTo upd upd_same upd_ne)
variable {P:Program} {af:Machine→Trace→Prop} {Cs:Nat→Prop}
def ze (n:Nat) (rk:Nat→Tr):List Tr:=(List.range n).map rk
theorem Od {n i:Nat} {rk:Nat→Tr} {r:Tr} (hi:i<n):ze n (upd rk i r)=(ze n rk).set i r:=by
 apply kZ
 intro j
 unfold ze
 rw[aQ]
 by_cases hj:i=j
 ·subst hj
  simp[hi,upd_same]
 ·by_cases mN:j<n
  ·simp[hj,mN,upd_ne _ _ (Ne.symm hj)]
  ·simp[hj,mN]
theorem xy {n i:Nat} {rk:Nat→Tr} {r:Tr} (hi:i<n) (h:Zj r (rk i)):LLt (ze n (upd rk i r)) (ze n rk):=by
 rw[Od hi]
 exact .mk _ i (rk i) r (by simp[ze,hi]) h
variable {N:Net} {γ:Nat→So} {rk:Nat→Tr} {tp:Nat} {gs:Array Goroutine} {w:World} {t:Trace}
theorem wY (h:wo P af Cs N γ rk tp gs w t) {i:Nat} (hi:i<N.n):∃ g,gs[i]? = some g:=by
 have:i<gs.size:=by rw[h.size]; exact hi
 exact⟨gs[i],bW this⟩
theorem Sq (h:wo P af Cs N γ rk tp gs w t)
  (hen:(∃ i j c v k ok z k',i<N.n∧j<N.n∧N.pr i = .send c v k∧N.pr j = .recv c ok z k')∨(∃ i c k,i<N.n∧N.pr i = .close c k)∨(∃ j c ok z k E,j<N.n∧N.pr j = .recv c ok z k∧N.cl c=some E)∨(∃ i ch k,i<N.n∧N.pr i = .go ch k)) :
  ∃ (i:Nat) (g:Goroutine),gs[i]? = some g∧g.status = .running:=by
 rcases hen with ⟨i,j,c,v,k,ok,z,k',hi,hj,A4,wz⟩ | ⟨i,c,k,hi,hp⟩ | ⟨j,c,ok,z,k,E,hj,hp,hE⟩ | ⟨i,ch,k,hi,hp⟩
 ·obtain⟨g,hg⟩:=wY h hi
  obtain⟨g',lQ⟩:=wY h hj
  have hm:=h.mem i g hg
  have Jk:=h.mem j g' lQ
  rw[A4] at hm
  rw[wz] at Jk
  rcases hm.awake with e | e | e
  ·exact⟨i,g,hg,e⟩
  ·rcases Jk.awake with e' | e' | e'
   ·exact⟨j,g',lQ,e'⟩
   ·exact(h.apart i j c v k ok z k' g g' hg lQ e e' A4 wz).elim
   ·generalize rk j=rj at Jk
    cases Jk with
    | run p r g h1 h2=>rw[dO h2] at e'; cases e'
    | recv _ _ _ _ g h1 h2=>cases e'
  ·generalize rk i=ri at hm
   cases hm with
   | run p r g h1 h2=>rw[dO h2] at e; cases e
   | send _ _ _ g _ h1=>cases e
 ·obtain⟨g,hg⟩:=wY h hi
  have hm:=h.mem i g hg
  rw[hp] at hm
  generalize rk i=ri at hm
  cases hm with
  | run p r g h1 h2=>exact⟨i,_,hg,dO h2⟩
 ·obtain⟨g,hg⟩:=wY h hj
  have hm:=h.mem j g hg
  rw[hp] at hm
  generalize rk j=rj at hm
  cases hm with
  | run p r g h1 h2=>exact⟨j,_,hg,dO h2⟩
  | recv _ _ _ _ g h1 h2 =>
   rw[h.open_ j c ok z k _ hg rfl hp] at hE
   cases hE
 ·obtain⟨g,hg⟩:=wY h hi
  have hm:=h.mem i g hg
  rw[hp] at hm
  generalize rk i=ri at hm
  cases hm with
  | run p r g h1 h2=>exact⟨i,_,hg,dO h2⟩
end Go.Co
end
section
namespace Go.Co
open Go Go.Conc
open Go.ConcN (sumTo upd upd_same upd_ne)
variable {P:Program} {af:Machine→Trace→Prop} {Cs:Nat→Prop}
theorem OC (hP:Plain P) {N:Net} (hW:A7 Cs N):∀ (γ:Nat→So) (rk:Nat→Tr) (tp:Nat) (gs:Array Goroutine) (w:World) (sl:Option (Nat×Nat)) (t:Trace),wo P af Cs N γ rk tp gs w t→UA P af (crowd gs w sl) t:=by
 induction hW with
 | done N h0 hd=>exact fun γ rk tp gs w sl t h=>Tg h h0 hd
 | step N hno h0 hsend hrecv hen Yy aeZ adl adr hstart ihm ihs ihh ihg =>
  intro γ rk tp gs w sl t h
  have acc:=MH (ze N.n rk)
  generalize hl:ze N.n rk=l at acc
  induction acc generalizing γ rk tp gs w sl t with
  | intro l _ ih =>
   subst hl
   have Pj:∀ g∈gs,awake g:=by
    intro x hx
    obtain⟨i,hi,rfl⟩:=Array.mem_iff_getElem.1 hx
    exact awake_of ((h.mem i _ (bW hi)).awake)
   obtain⟨i,g,d,sl',hi,hg,hst⟩:=crowd_pick (P:=P) (w:=w) (sl:=sl) Pj (Sq h hen)
   have oI:i<N.n:=by rw[← h.size]; exact(aR.1 hi).1
   have hm:=h.mem i g hi
   generalize hrk:rk i=r at hm
   generalize PE:N.pr i=p at hm
   have h2:=JU h hno d
   cases hm with
   | stop n g h3 h4 =>
    cases n with
    | zero=>rw[h4.1] at hg; cases hg
    | succ n =>
     rcases h4 with ⟨hf,_⟩ | ⟨_,g',es,hmu,P0,hq⟩
     ·rw[hf] at hg; cases hg
     obtain⟨hrun,pq⟩:=Ss (sl:=sl') h2 hi PE h3 hmu P0 hq hsend hrecv
     rw[hrun] at hst
     exact iN hst (ih _ (xy oI (by rw[hrk]; exact V4 n)) _ _ _ _ _ sl' _ pq rfl)
   | ret r g h3 h4 h5=>exact absurd PE (hno i oI).1
   | send c v k g z h3=>cases hg
   | recv c ok z k g h3 h4=>cases hg
   | run p r0 g iV hG =>
    subst PE
    cases r0 with
    | node f =>
     obtain⟨g',w',es,γ',e1,hS,hG'⟩:=hG.2 (w.at d) (yh _ _ _)
     obtain⟨hrun,pq⟩:=Sn (sl:=sl') hP h hno hsend hrecv hi iV e1 hS hG'
     rw[hrun] at hst
     exact iN hst (ih _ (xy oI (by rw[hrk]; exact aaG f (w.at d))) _ _ _ _ _ sl' _ pq rfl)
    | leaf =>
     have hS:=hG (w.at d) (yh _ _ _)
     cases hp:N.pr i with
     | stop=>exact absurd hp iV.1
     | ret=>exact absurd hp iV.2.1
     | bad=>exact absurd hp iV.2.2
     | send c v k =>
      rw[hp] at hS
      obtain⟨GB,x5⟩:=hsend i c v k oI hp
      rcases Sv (sl:=sl') h hno hi hp GB x5 hS.1 hS.2 (fun j ok z kr hj hr=>Yy i j c v k ok z kr oI hj hp hr) with ⟨gs',hrun,pq⟩ | ⟨N',gs',w',ops,DC,hrun,-,⟨j,ok,z,kr,hj,hr,rfl⟩,pq⟩
      ·rw[hrun] at hst
       refine iN hst ?_
       rw[Array.append_empty]
       exact ih _ (xy oI (by rw[hrk]; exact HK)) _ _ _ _ _ sl' _ (JU pq hno d) rfl
      ·rw[hrun] at hst
       exact iN hst (ihm i j c v k ok z kr oI hj hp hr _ _ _ _ _ sl' _ pq)
     | recv c ok z kr =>
      rw[hp] at hS hG
      have oJ:=hrecv i c ok z kr oI hp
      have hS0:=hG w (iM _ _)
      cases uw:N.cl c with
      | none =>
       rcases Sw (sl:=sl') h hno hi hp uw oJ hS.1 (fun w1 h1=>(hG w1 h1).1) hS0.2 (fun j v k hj hs=>Yy j i c v k ok z kr hj oI hs hp) with ⟨gs',hrun,pq⟩ | ⟨N',gs',w',ops,DC,hrun,-,⟨j,v,k,hj,hs,rfl⟩,pq⟩
       ·rw[hrun] at hst
        refine iN hst ?_
        rw[Array.append_empty]
        exact ih _ (xy oI (by rw[hrk]; exact HK)) _ _ _ _ _ sl' _ (JU pq hno d) rfl
       ·rw[hrun] at hst
        exact iN hst (ihm j i c v k ok z kr hj oI hs hp _ _ _ _ _ sl' _ pq)
      | some E =>
       obtain⟨gs',ops,DC,hrun,pq⟩:=Sy (sl:=sl') (d:=d) h2 hsend hi hp uw oJ hS.1 hS.2 (adr i c ok z kr E oI hp uw)
       have hrun:runT P (crowd gs (w.at d) sl') i=_:=hrun
       rw[hrun] at hst
       exact iN hst (ihh i c ok z kr E oI hp uw _ _ _ _ _ sl' _ pq)
     | close c k =>
      rw[hp] at hS
      obtain⟨-,hmw,g',Av,hstep,hk⟩:=hS
      obtain⟨GB,x5⟩:=aeZ i c k oI hp
      have hw:=adl i c k oI hp
      have EW:∀ j v k',j<N.n→N.pr j ≠ .send c v k':=by
       intro j v k' hj e
       have gO:j≠i:=by rintro rfl; rw[hp] at e; cases e
       have e':(N.shut i c k).pr j = .send c v k':=(upd_ne _ _ gO).trans e
       have uw:(N.shut i c k).cl c≠none:=by
        show upd N.cl c _ c≠none
        rw[upd_same]; simp
       cases hw with
       | done _ h3 h4 =>
        by_cases Ng:j=0
        ·rw[Ng,h3] at e'; cases e'
        ·rw[(h4 j (by omega) hj).1] at e'; cases e'
       | step _ _ _ h5=>exact uw (h5 j c v k' hj e').1
      obtain⟨gs',w',ops,DC,hrun,pq⟩:=Su (sl:=sl') (d:=d) hP h2 hno hsend hrecv hi hp GB x5 hmw Av hstep hk EW hw
      have hrun:runT P (crowd gs (w.at d) sl') i=_:=hrun
      rw[hrun] at hst
      exact iN hst (ihs i c k oI hp _ _ _ _ _ sl' _ pq)
     | go ch k =>
      rw[hp] at hS
      obtain⟨xX,g',x0,Av,e1,Ju,hch,hk⟩:=hS
      obtain⟨gs',ops,DC,hrun,pq⟩:=NX (sl:=sl') (d:=d) hP h2 hi hp e1 Av Ju hch hk (hstart i ch k oI hp)
      have hrun:runT P (crowd gs (w.at d) sl') i=_:=hrun
      rw[hrun] at hst
      exact iN hst (ihg i ch k oI hp _ _ _ _ _ sl' _ pq)
end Go.Co
end
section
namespace Go.Co
open Go Go.Conc
open Go.ConcN (sumTo upd upd_same upd_ne)
variable {P:Program} {af:Machine→Trace→Prop} {Cs:Nat→Prop}
def entry (n:Nat) (p:Pc):Net:=⟨n,fun j=>if j=0 then p else .stop,fun _ j=>0<j∧j<n,fun _=>none⟩
theorem abg (hP:Plain P) {p:Pc} {S O:Nat→Prop} {g:Goroutine} {w:World} (hp:p.live) (pN:Pr P af true p (S,O) g w)
  (hSO:∀ b,O b→¬ S b) (Ny:∀ b,S b∨O b→b<w.heap.size)
  (hc:∀ c,Cs c→(∃ s tm,w.heap[c]? = some (.chan 0 #[] false s s tm))∧¬ S c∧¬ O c)
  (hW:∀ n,0<n→A7 Cs (entry n p)):iz P af () g w:=by
 intro d hf hr hd gs sl t q h0 hL Hq
 have hlt:0<gs.size:=(aR.1 h0).1
 obtain⟨r,hG⟩:=Mq hp pN
 have hG:=Cc DM hG (yh (S,O) w d)
 have hno:∀ i a,t.size≤i→touchAt t i=some a→False:=by
  intro i a hi ha
  obtain⟨x,hx,-⟩:=touch_of ha
  have:=(aR.1 hx).1
  omega
 have iV:∀ j,(entry gs.size p).pr j ≠ .stop→j=0:=by
  intro j hj
  by_cases h:j=0
  ·exact h
  ·exact absurd (by simp[entry,h]) hj
 have afG:(entry gs.size p).pr 0=p:=rfl
 have hγ:∀ j b,((if j=0 then ((S,O):So) else (fun _=>False,fun _=>False)).1 b→j=0∧S b)∧((if j=0 then ((S,O):So) else (fun _=>False,fun _=>False)).2 b→j=0∧O b):=by
  intro j b
  by_cases h:j=0<;>simp[h]
 refine OC hP (hW gs.size hlt) (fun j=>if j=0 then (S,O) else (fun _=>False,fun _=>False)) (fun j=>if j=0 then r.up else Tr.nat (q j)) t.size gs (w.at d) sl t
  ⟨rfl,hlt,fun j x hx => ?_,⟨Hq.clean,fun j hj => ?_,fun i a j hi ha hm hj mN => ?_,fun i a b j hi ha=>(hno i a hi ha).elim,fun i a b j hi ha=>(hno i a hi ha).elim,fun i a b hi ha=>(hno i a hi ha).elim,fun i a hi ha=>(hno i a hi ha).elim,fun i j hi hg => ?_,fun i a j x hi ha=>(hno i a hi ha).elim,fun c E hE=>(by cases hE),fun j j' b hb => ?_,fun j b hb => ?_,fun c E j hE=>(by cases hE),fun x j hj => ?_,ak _⟩,fun c hcc => ?_,fun j c ok z k x hx hb wz=>rfl,fun i j c v k ok z k' x y hx hy hbx => ?_,fun x hx => ?_⟩
 ·by_cases h:j=0
  ·subst h
   rw[h0] at hx
   cases hx
   have:=Mem.run (P:=P) (af:=af) (j:=0) (d:=Deaf t 0) (γ:=(S,O)) (w:=w.at d) p r g hp hG
   simpa [entry] using this
  ·have:=Mem.stop (P:=P) (af:=af) (j:=j) (d:=Deaf t j) (γ:=((fun _=>False,fun _=>False):So)) (w:=w.at d) (q j) x h (hL.old j x (by omega) hx)
   simpa [entry,h] using this
 ·rcases hj with hj | hj
  ·rw[iV j hj]; exact Hq.hears
  ·exact hL.above j hj
 ·rw[iV j hj]
  exact Hq.known i a ha hm
 ·unfold Trace.g? at hg
  obtain⟨z,hz,-⟩:=ai.1 hg
  have:=(aR.1 hz).1
  omega
 ·obtain⟨rfl,hO⟩:=(hγ j b).2 hb
  refine⟨fun hS=>hSO b hO ((hγ j' b).1 hS).2,fun hne nO=>hne ((hγ j' b).2 nO).1.symm⟩
 ·rcases hb with hb | hb
  ·exact Ny b (.inl ((hγ j b).1 hb).2)
  ·exact Ny b (.inr ((hγ j b).2 hb).2)
 ·refine⟨hj.2,?_⟩
  have:j≠0:=by have:=hj.1; omega
  simp[entry,this]
 ·obtain⟨h1,h2,h3⟩:=hc c hcc
  refine⟨h1,fun j=>⟨fun h=>h2 ((hγ j c).1 h).2,fun h=>h3 ((hγ j c).2 h).2⟩⟩
 ·intro hby A4 wz
  have h1:=iV i (by rw[A4]; simp)
  have h2:=iV j (by rw[wz]; simp)
  subst h1; subst h2
  rw[A4] at wz
  cases wz
 ·rw[h0] at hx
  cases hx
  exact hf
variable {fn:FuncId} {γ:So} {c:Code} {a:Act} {w:World}
theorem FA {g:Goroutine} (hd:g.dying=none) (h:iz P af () g w):KG P af true (.ret,γ) g w:=fun _ _=>⟨hd,h⟩
theorem Qx {g:Goroutine} (h:KG P af true (.ret,γ) g w):iz P af () g w:=(h (fun h=>by cases h) (by simp)).2
theorem abI {b:Frame} {k:List Item} {cs:List Frame} {e:Exit} {a:Act} {w:World} (h:Ao (KG P af true) b k cs (.ret,γ) e a w):Ao (iz P af) b k cs () e a w:=by
 cases e with
 | normal=>exact Qx h
 | exit id =>
  obtain⟨k',h1,h2⟩:=h
  exact⟨k',h1,Qx h2⟩
 | ret=>exact fun todo=>Qx (h todo)
 | goto l=>exact h
 | panic ch=>exact h
 | outgrown=>exact h
theorem Xw {b:Frame} {k:List Item} {cs:List Frame} {e:Exit} {a:Act} {w:World} (h:Ao (iz P af) b k cs () e a w):Ao (KG P af true) b k cs (.ret,γ) e a w:=by
 cases e with
 | normal=>exact FA rfl h
 | exit id =>
  obtain⟨k',h1,h2⟩:=h
  exact⟨k',h1,FA rfl h2⟩
 | ret=>exact fun todo=>FA rfl (h todo)
 | goto l=>exact h
 | panic ch=>exact h
 | outgrown=>exact h
theorem Tx {Q:Gm→Exit→Act→World→Prop} (h:KJ (iz P af) fn () c (fun _=>Q (.ret,γ)) a w):KJ (KG P af true) fn (.ret,γ) c Q a w :=
 fun b k cs hb hk hc=>FA rfl (h b k cs hb hk fun _ e a' w' q=>abI (hc _ e a' w' q))
theorem Tw (hP:Plain P) {p:Pc} {S O:Nat→Prop} {Q:Exit→Act→World→Prop} (hp:p.live)
  (hSO:∀ b,O b→¬ S b) (Ny:∀ b,S b∨O b→b<w.heap.size)
  (hc:∀ c,Cs c→(∃ s tm,w.heap[c]? = some (.chan 0 #[] false s s tm))∧¬ S c∧¬ O c)
  (hW:∀ n,0<n→A7 Cs (entry n p))
  (h:KJ (KG P af true) fn (p,(S,O)) c (fun γ' e a' w'=>γ'.1 = .ret∧Q e a' w') a w):KJ (iz P af) fn () c (fun _=>Q) a w:=by
 intro b k cs hb hk ae2
 refine abg hP hp (h b k cs hb hk (fun γ' e a' w' q => ?_) (fun h=>by cases h) hp.1) hSO Ny hc hW
 obtain⟨p',γ'⟩:=γ'
 obtain⟨rfl,q⟩:=q
 exact Xw (ae2 () e a' w' q)
end Go.Co
end
section
namespace Go.Co
open Go Go.Conc
variable {P:Program} {af:Machine→Trace→Prop} {main:Bool} {K:Gm→Goroutine→World→Prop} {fn:FuncId} {p:Pc} {γ:So} {Q:Gm→Exit→Act→World→Prop} {a:Act} {w:World} {ops:Array Oper} {i:Nat} {rest:List Nat} {o:Oper}
theorem UK (hp:p ≠ .ret) {w1:World} (h:Az (p,γ) w w1):jd γ w w1:=by
 unfold Az at h
 cases p<;>first | exact h | exact absurd rfl hp
theorem stg (hp:p ≠ .ret) {s:So} {w':World} {es:Array Event} (h:GG γ w s w' es):E1 (p,γ) w (p,s) w' es:=by
 refine⟨rfl,?_⟩
 cases p<;>first | exact h | exact absurd rfl hp
def NC (P:Program) (af:Machine→Trace→Prop) (γ:Gm) (g:Goroutine) (w:World):Prop:=γ.1 = .bad→∀ w1,jd γ.2 w w1→iz P af () g w1
theorem W4 (hP:Plain P):KC P true (NC P af) Az E1 where
 step:=fun γ fr cs w h hb w0 r0=>by
  obtain⟨p,γ⟩:=γ
  simp only at hb
  subst hb
  refine(xl hP).step () fr cs w0 fun w1 h1 => ?_
  obtain⟨d,rfl⟩:=h1
  obtain⟨fr',jH,w',es,γ',e,⟨rE,-⟩,hk⟩:=h (w0.at d) (ij r0 (yh γ w0 d))
  exact⟨fr',jH,w',es,(),e,trivial,hk rE w' (iM _ _)⟩
 idle:=(zk (af:=af) (main:=true) hP).idle
 rely:=fun γ g w w1 r h hb w2 r2=>by
  obtain⟨p,γ⟩:=γ
  exact h hb w2 (ij (UK (by simp only at hb; subst hb; simp) r) r2)
theorem WZ {c:Code} {Q:Gm→Exit→Act→World→Prop} {Q':Exit→Act→World→Prop} (hq:∀ γ' e a w w1,Q γ' e a w→jd γ'.2 w w1→γ'.1 = .bad→Q' e a w1) (h:KJ (NC P af) fn (.bad,γ) c (fun γ' e a w=>γ'.1 = .bad∧Q γ' e a w) a w):KJ (iz P af) fn () c (fun _=>Q') a w:=by
 intro b k cs hb hk hc
 refine h b k cs hb hk (fun γ' e a' w' q => ?_) rfl w (iM _ _)
 have fA:∀ w1,jd γ'.2 w' w1→Ao (iz P af) b k cs () e a' w1:=fun w1 r=>hc () e a' w1 (hq _ _ _ _ _ q.2 r q.1)
 cases e with
 | normal=>exact fun _ w1 r=>fA w1 r
 | exit id =>
  obtain⟨k',h1,-⟩:=fA w' (iM _ _)
  refine⟨k',h1,fun _ w1 r => ?_⟩
  obtain⟨k2,h2,h3⟩:=fA w1 r
  rw[h1] at h2
  cases h2
  exact h3
 | ret=>exact fun todo _ w1 r=>fA w1 r todo
 | goto l=>exact(fA w' (iM _ _)).elim
 | panic ch=>exact(fA w' (iM _ _)).elim
 | outgrown=>exact(fA w' (iM _ _)).elim
theorem rK {es:Array Event} (ts:Array TypeId) (t:TypeId) (k k':IntKind) (x y:Int):(Builtin.max_ ts t #[.int k x,.int k' y]).events P w es=es:=by
 simp[Builtin.max_,Builtin.max2]
theorem rJ {es:Array Event} (ts:Array TypeId) (t:TypeId) (k k':IntKind) (x y:Int):(Builtin.min_ ts t #[.int k x,.int k' y]).events P w es=es:=by
 simp[Builtin.min_,Builtin.min2]
theorem dQ (C:KC P main K Az E1) {γ:Gm} {v:Value} (ho:ops[i]? = some o) (hw:Region.wanted o (yielded ops a.tmps)=true) (hrun:∀ w,(execOp a.eval o).run P w = .ok (.value v) w) (tC:∀ w,(execOp a.eval o).events P w #[]=#[])
  (h:KO K fn γ ops rest Q (a.put o.dst v) w):KO K fn γ ops (i::rest) Q a w :=
 xh C ho hw fun w₁ r=>by rw[hrun w₁]; exact⟨γ,by rw[listed_nil (tC w₁)]; exact C.idle _ _,F4 C r h⟩
theorem av (C:KC P main K Az E1) {γ:Gm} {v:Value} (h:KO K fn γ ops rest Q (a.put o.dst v) w) (ho:ops[i]? = some o:=by rfl) (hw:Region.wanted o (yielded ops a.tmps)=true:=by rfl) (hrun:∀ w,(execOp a.eval o).run P w = .ok (.value v) w:=by exact fun w=>run_eq_of fun K hK=>(by go_simp; exact hK)) (tC:∀ w,(execOp a.eval o).events P w #[]=#[]:=by intro w; first | (simp[go_sem]; done) | (simp[go_sem, *]; done)):KO K fn γ ops (i::rest) Q a w:=dQ C ho hw hrun tC h
theorem J7 (C:KC P main K Az E1) (hp:p ≠ .ret) (ho:ops[i]? = some o) (hw:Region.wanted o (yielded ops a.tmps)=true)
  (h:∀ w₁,jd γ w w₁→∃ v w' s,(execOp a.eval o).run P w₁ = .ok (.value v) w'∧GG γ w₁ s w' (listed P fn a o w₁)∧KO K fn (p,s) ops rest Q (a.put o.dst v) w'):KO K fn (p,γ) ops (i::rest) Q a w :=
 xh C ho hw fun w₁ r=>by
  obtain⟨v,w',s,h1,h2,h3⟩:=h w₁ (UK hp r)
  rw[h1]
  exact⟨(p,s),stg hp h2,h3⟩
theorem pE (C:KC P main K Az E1) (hp:p ≠ .ret) {v:Value} (ho:ops[i]? = some o) (hw:Region.wanted o (yielded ops a.tmps)=true)
  (hrun:∀ w₁,jd γ w w₁→(execOp a.eval o).run P w₁ = .ok (.value v) w₁∧∀ e∈(execOp a.eval o).events P w₁ #[],U6 γ.1 γ.2 e) (h:KO K fn (p,γ) ops rest Q (a.put o.dst v) w):KO K fn (p,γ) ops (i::rest) Q a w :=
 J7 C hp ho hw fun w₁ r=>⟨v,w₁,γ,(hrun w₁ r).1,⟨rfl,HP fun e he=>(hrun w₁ r).2 e (mem_listed he)⟩,F4 C (by unfold Az; cases p<;>first | exact r | exact absurd rfl hp) h⟩
def So.more (γ:So) (n:Nat):So:=(γ.1,fun b=>γ.2 b∨b=n)
theorem Wa (ob:Obj):GG γ w (γ.more w.heap.size) (w.alloc ob) #[]:=by
 have hsz:(w.alloc ob).heap.size=w.heap.size+1:=by simp
 refine⟨rfl,fun b => ?_,by omega,fun b hb _=>RowKit.Below.heap_alloc _ _ _ hb,rfl,rfl,rfl,by simp⟩
 show γ.2 b∨b=w.heap.size↔_
 rw[hsz]
 refine or_congr_right ?_
 omega
theorem Fw (C:KC P main K Az E1) (hp:p ≠ .ret) {f:Nat→Value} {ob:Obj} (ho:ops[i]? = some o) (hw:Region.wanted o (yielded ops a.tmps)=true)
  (hrun:∀ w,(execOp a.eval o).run P w = .ok (.value (f w.heap.size)) (w.alloc ob)) (tC:∀ w,(execOp a.eval o).events P w #[]=#[])
  (h:∀ w₁,jd γ w w₁→KO K fn (p,γ.more w₁.heap.size) ops rest Q (a.put o.dst (f w₁.heap.size)) (w₁.alloc ob)):KO K fn (p,γ) ops (i::rest) Q a w :=
 J7 C hp ho hw fun w₁ r=>⟨_,_,_,hrun w₁,by rw[listed_nil (tC w₁)]; exact Wa ob,h w₁ r⟩
theorem pF (C:KC P main K Az E1) (hp:p ≠ .ret) {ob:Obj} (ho:ops[i]? = some o) (hw:Region.wanted o (yielded ops a.tmps)=true)
  (hrun:∀ w,(execOp a.eval o).run P w = .ok (.value (.pointer (some ⟨w.heap.size,0,none⟩))) (w.alloc ob)) (tC:∀ w,(execOp a.eval o).events P w #[]=#[])
  (h:∀ w₁,jd γ w w₁→KO K fn (p,γ.more w₁.heap.size) ops rest Q (a.put o.dst (.pointer (some ⟨w₁.heap.size,0,none⟩))) (w₁.alloc ob)):KO K fn (p,γ) ops (i::rest) Q a w :=
 Fw C hp (f:=fun n => .pointer (some ⟨n,0,none⟩)) ho hw hrun tC h
theorem Ru (C:KC P main K Az E1) (hp:p ≠ .ret) {ob:Obj} {n:Nat} (ho:ops[i]? = some o) (hw:Region.wanted o (yielded ops a.tmps)=true)
  (hrun:∀ w,(execOp a.eval o).run P w = .ok (.value (.slice (some ⟨w.heap.size,0,none⟩) n n)) (w.alloc ob)) (tC:∀ w,(execOp a.eval o).events P w #[]=#[])
  (h:∀ w₁,jd γ w w₁→KO K fn (p,γ.more w₁.heap.size) ops rest Q (a.put o.dst (.slice (some ⟨w₁.heap.size,0,none⟩) n n)) (w₁.alloc ob)):KO K fn (p,γ) ops (i::rest) Q a w :=
 Fw C hp (f:=fun m => .slice (some ⟨m,0,none⟩) n n) ho hw hrun tC h
theorem V9 {ad:Addr} {v:Value} {es:Array Event} (hO:γ.2 ad.block) (hes:∀ e∈es,U6 γ.1 γ.2 e):GG γ w γ (w.setCell ad v) es:=by
 have hsz:(w.setCell ad v).heap.size=w.heap.size:=World.size_setCell ..
 refine⟨rfl,fun b=>⟨.inl,fun h=>h.elim id fun h=>absurd h.2 (by omega)⟩,by omega,fun b _ hn => ?_,rfl,rfl,rfl,hes⟩
 exact heap_setCell_other _ _ _ _ (fun e=>hn (e▸hO))
theorem J6 (C:KC P main K Az E1) (hp:p ≠ .ret) {ad:Addr} {v:Value} (ho:ops[i]? = some o) (hw:Region.wanted o (yielded ops a.tmps)=true) (hO:γ.2 ad.block)
  (hrun:∀ w₁,jd γ w w₁→(execOp a.eval o).run P w₁ = .ok .skip (w₁.setCell ad v)∧∀ e∈(execOp a.eval o).events P w₁ #[],e=⟨.cell ad,true,false⟩)
  (h:∀ w₁,jd γ w w₁→KO K fn (p,γ) ops rest Q (a.put o.dst undef) (w₁.setCell ad v)):KO K fn (p,γ) ops (i::rest) Q a w :=
 xh C ho hw fun w₁ r=>by
  obtain⟨h1,h2⟩:=hrun w₁ (UK hp r)
  rw[h1]
  refine⟨(p,γ),stg hp (V9 hO fun e he => ?_),h w₁ (UK hp r)⟩
  rw[h2 e (mem_listed he)]
  exact .inl ⟨ad,true,false,rfl,fun _=>hO,.inr hO⟩
theorem oy {Γ:Type} {K:Γ→Goroutine→World→Prop} {Rl:Γ→World→World→Prop} {St:Γ→World→Γ→World→Array Event→Prop} {γ:Γ} {Q:Γ→Exit→Act→World→Prop} (C:KC P main K Rl St) {c:Code} (I:Nat→Γ→Act→World→Prop) {n:Nat} (h₀:I n γ a w)
  (round:∀ n γ a w,I n γ a w→KJ K fn γ c (fun γ'=>Exit.then (fun a' w'=>∃ m,m<n∧I m γ' a' w') (Q γ')) a w):KJ K fn γ (.loop c) Q a w:=by
 intro b k cs hb hk hc
 have key:∀ n γ a w,I n γ a w→K γ (G (b.at a (.code c :: .inLoop c::k)) cs) w:=by
  intro n
  induction n using Nat.strongRecOn with
  | ind n ih =>
   intro γ a w hI
   refine round n γ a w hI b (.inLoop c::k) cs hb hk fun γ' e a' w' q => ?_
   cases e with
   | normal =>
    obtain⟨m,hm,q⟩:=q
    exact C.go (fun _=>stepG_inLoop) (ih m hm γ' a' w' q)
   | exit id=>exact(hc _ _ _ _ q).push rfl (by simp)
   | ret=>exact Ao.push (x := .inLoop c) rfl (by simp) (hc _ _ _ _ q)
   | goto l=>exact hc _ _ _ _ q
   | panic ch=>exact hc _ _ _ _ q
   | outgrown=>exact hc _ _ _ _ q
 exact C.go (fun _=>stepG_loop) (key n γ a w h₀)
theorem oG {F:(Nat→Value)→Act} (h:a=F fun n=>a.tmps.getD n undef):∃ u,a=F u:=⟨_,h⟩
theorem eB {N:Act→World→Prop} {R:Exit→Act→World→Prop} (h:N a w):Exit.then N R .normal a w:=h
def bE (γ:So) (w:World) (ad:Addr) (v:Value):Prop:=γ.all ad.block∧w.cell? ad=some v
theorem bE.rely {ad:Addr} {v:Value} {w1:World} (h:bE γ w ad v) (r:jd γ w w1):bE γ w1 ad v :=
 ⟨h.1,(World.cell?_of_block (r.2.1 ad.block h.1)).trans h.2⟩
theorem bE.lt {ad:Addr} {v:Value} (h:bE γ w ad v):ad.block<w.heap.size:=World.block_lt_of_cell? w ad h.2
theorem bE.alloc {ad:Addr} {v:Value} (h:bE γ w ad v) (n:Nat) (ob:Obj):bE (γ.more n) (w.alloc ob) ad v :=
 ⟨h.1.imp id .inl,(World.cell?_alloc_lt w ob ad h.lt).trans h.2⟩
theorem bE.put {ad ad':Addr} {v v':Value} (h:bE γ w ad v) (hne:ad'≠ad):bE γ (w.setCell ad' v') ad v :=
 ⟨h.1,(World.cell?_setCell_other w ad' ad v' hne).trans h.2⟩
theorem bE.GD {ad:Addr} {v:Value} (h:bE γ w ad v):U6 γ.1 γ.2 ⟨.cell ad,false,false⟩ := .inl ⟨ad,false,false,rfl,fun h=>(by cases h),h.1⟩
theorem bE.fresh {w:World} {n j:Nat} {cs:Array Value} {t:TypeId} {v:Value} (hn:n=w.heap.size) (h:cs[j]? = some v):bE (γ.more n) (w.alloc (.cells cs t)) ⟨n,j,none⟩ v:=by
 subst hn
 exact⟨.inr (.inr rfl),by rw[World.cell?_alloc_new,h]⟩
theorem jj (C:KC P main K Az E1) (hp:p ≠ .ret) {v:Value} {ad:Addr} {x:Value} (hs:bE γ w ad x) (h:KO K fn (p,γ) ops rest Q (a.put o.dst v) w) (ho:ops[i]? = some o:=by rfl) (hw:Region.wanted o (yielded ops a.tmps)=true:=by rfl) (hrun:∀ w₁:World,w₁.cell? ad=some x→(execOp a.eval o).run P w₁ = .ok (.value v) w₁:=by exact fun w₁ hc=>run_eq_of fun K hK=>(by go_simp; exact hK)) (tC:∀ w₁:World,w₁.cell? ad=some x→U6 γ.1 γ.2 ⟨.cell ad,false,false⟩→∀ e∈(execOp a.eval o).events P w₁ #[],U6 γ.1 γ.2 e:=by intro w₁ hc hv e he; simp[go_sem,hc] at he; subst he; exact hv):KO K fn (p,γ) ops (i::rest) Q a w :=
 pE C hp ho hw (fun w₁ r=>⟨hrun w₁ (hs.rely r).2,tC w₁ (hs.rely r).2 (hs.rely r).GD⟩) h
theorem cr {Γ:Type} {K:Γ→Goroutine→World→Prop} {Rl:Γ→World→World→Prop} {St:Γ→World→Γ→World→Array Event→Prop} {γ:Γ} {Q:Γ→Exit→Act→World→Prop} (C:KC P main K Rl St) {id:Nat} {L:List Nat} (h:KO K fn γ ops L Q a w) (hL:List.range ops.size=L:=by conv=>lhs; simp only[lg,List.length_cons,List.length_nil,Nat.reduceAdd,gy,List.range,List.range.loop]):KJ K fn γ (.region id ops false) Q a w:=yP C (hL▸h)
def xZ (γ:So) (w:World) (v:Value) (l:List Int):Prop:=∃ A cap,v = .slice A l.length cap∧∀ i x,l[i]? = some x→∃ ad,A=some ad∧bE γ w (ad.add i) (.int .i64 x)
theorem xZ.rely {v:Value} {l:List Int} {w1:World} (h:xZ γ w v l) (r:jd γ w w1):xZ γ w1 v l:=by
 obtain⟨A,cap,rfl,h⟩:=h
 exact⟨A,cap,rfl,fun i x hx=>by obtain⟨ad,h1,h2⟩:=h i x hx; exact⟨ad,h1,h2.rely r⟩⟩
theorem xZ.alloc {v:Value} {l:List Int} (h:xZ γ w v l) (n:Nat) (ob:Obj):xZ (γ.more n) (w.alloc ob) v l:=by
 obtain⟨A,cap,rfl,h⟩:=h
 exact⟨A,cap,rfl,fun i x hx=>by obtain⟨ad,h1,h2⟩:=h i x hx; exact⟨ad,h1,h2.alloc n ob⟩⟩
structure Kept (γ:So) (w:World) (γ':So) (w':World):Prop where
 shr:γ'.1=γ.1
 own:∀ b,γ.2 b→γ'.2 b
 blk:∀ b,γ.all b→b<w.heap.size→w'.heap[b]? = w.heap[b]?
 size:w.heap.size≤w'.heap.size
 env:w'.os=w.os∧w'.output=w.output
theorem Kept.all {γ':So} {w':World} (h:Kept γ w γ' w') {b:Nat} (hb:γ.all b):γ'.all b:=hb.imp (by rw[h.shr]; exact id) (h.own b)
theorem Kept.refl (γ:So) (w:World):Kept γ w γ w:=⟨rfl,fun _ h=>h,fun _ _ _=>rfl,ak _,rfl,rfl⟩
theorem Kept.trans {γ' γ'':So} {w' Pu:World} (h:Kept γ w γ' w') (k:Kept γ' w' γ'' Pu):Kept γ w γ'' Pu :=
 ⟨k.shr.trans h.shr,fun b hb=>k.own b (h.own b hb),fun b hb hlt=>(k.blk b (h.all hb) (cH hlt h.size)).trans (h.blk b hb hlt),aS h.size k.size,k.env.1.trans h.env.1,k.env.2.trans h.env.2⟩
theorem Kept.rely {w1:World} (r:jd γ w w1):Kept γ w γ w1:=⟨rfl,fun _ h=>h,fun b hb _=>r.2.1 b hb,r.1,r.2.2.2⟩
theorem Kept.alloc (γ:So) (w:World) (n:Nat) (ob:Obj):Kept γ w (γ.more n) (w.alloc ob):=⟨rfl,fun _ h => .inl h,fun b _ hlt=>RowKit.Below.heap_alloc _ _ _ hlt,by simp,rfl,rfl⟩
theorem Kept.sees {γ':So} {w':World} (h:Kept γ w γ' w') {ad:Addr} {v:Value} (s:bE γ w ad v):bE γ' w' ad v :=
 ⟨h.all s.1,(World.cell?_of_block (h.blk ad.block s.1 s.lt)).trans s.2⟩
theorem Kept.EU {γ':So} {w':World} (h:Kept γ w γ' w') {v:Value} {l:List Int} (s:xZ γ w v l):xZ γ' w' v l:=by
 obtain⟨A,cap,rfl,s⟩:=s
 exact⟨A,cap,rfl,fun i x hx=>by obtain⟨ad,h1,h2⟩:=s i x hx; exact⟨ad,h1,h.sees h2⟩⟩
end Go.Co
end
section
namespace Go.Co
open Go Go.Conc
variable {P:Program} {af:Machine→Trace→Prop} {fn:FuncId} {γ:So} {a:Act} {w:World} {ops:Array Oper} {i:Nat} {rest:List Nat} {o:Oper}
theorem zU (hP:Plain P) {b:Frame} {k:List Item} {cs:List Frame} (hk:b.kind ≠ .early) {f:FuncId} {args:Array Operand} {ats:Array TypeId} {R:Value→World→Prop}
  (ho:ops[i]? = some o) (hw:Region.wanted o (yielded ops a.tmps)=true) (hop:o.op = .call { callee := .value (.func f),args,argTypes:=ats }) {wm:Func} {c:Code} (hf:P.funcs[f]? = some wm) (hb:wm.body=some c)
  (jk:∀ τ,Calls P f (args.map a.eval) (w.re τ 0) fun e w'=>∃ v,e = .returned v∧R v w') (eP:∀ v w',R v w'→∀ τ d,iz P af () (G (b.at (a.put o.dst v) (.inRegion ops rest::k)) cs) (w'.re τ d)):iz P af () (G (b.at a (.inRegion ops (i::rest)::k)) cs) w:=by
 refine ML hP fun _ τ => ?_
 obtain⟨e,w',fr,⟨v,rfl,hR⟩,Ka,Lj,iU⟩:=jk τ (b.at a (.inRegion ops (i::rest)::k)::cs)
 have QH:=eP v w' hR
 have wM:=hP.count f wm hf
 have hstep:step P (lone (b.at a (.inRegion ops (i::rest)::k)) cs (w.re τ 0)) = .next (lone (Frame.enter P f (args.map a.eval) .normal) (b.at a (.inRegion ops (i::rest)::k)::cs) (w.re τ 0)):=by
  refine step_lone_go ?_
  have:=goes_call (P:=P) (main:=true) (b:=b) (k:=k) (cs:=cs) (w:=w.re τ 0) (K:=fun g w' es=>g=G ((base f).at { tmps:=args.map a.eval++Array.replicate (wm.ntmps-(args.map a.eval).size) undef,defers:=[] } [.code c]) (b.at a (.inRegion ops (i::rest)::k)::cs)∧w'=w.re τ 0∧es=#[]) ho hw hk hop hf wM hb ⟨rfl,rfl,rfl⟩
  obtain⟨g',w2,es,e1,e2,e3,e4⟩:=goes_elim this
  subst e2 e3 e4
  have J9:Frame.enter P f (args.map a.eval) .normal=(base f).at { tmps:=args.map a.eval++Array.replicate (wm.ntmps-(args.map a.eval).size) undef,defers:=[] } [.code c]:=by
   simp[Frame.enter,Frame.at,hf,hb,base]
  rw[J9]
  show (stepG P true (G (b.at a (.inRegion ops (i::rest)::k)) cs) (w.re τ 0)).bare=_
  rw[e1]
  rfl
 have QJ:step P (lone fr (b.at a (.inRegion ops (i::rest)::k)::cs) w') = .next (lone (b.at (a.put o.dst v) (.inRegion ops rest::k)) cs w'):=by
  rw[step_leave_returned iU,Frame.finish_at,ho]
  rfl
 have abk:Steps P (lone (b.at a (.inRegion ops (i::rest)::k)) cs (w.re τ 0)) (lone (b.at (a.put o.dst v) (.inRegion ops rest::k)) cs w') :=
  (Steps.one hstep).trans (Steps.trans Ka (Steps.one QJ))
 obtain⟨n,hn⟩:=abk
 exact⟨n,_,w',hn,rfl,rfl,fun τ d=>QH τ d⟩
theorem WN (hP:Plain P) {Q:Unit→Exit→Act→World→Prop} {f:FuncId} {args:Array Operand} {ats:Array TypeId} {R:Value→World→Prop}
  (ho:ops[i]? = some o) (hw:Region.wanted o (yielded ops a.tmps)=true) (hop:o.op = .call { callee := .value (.func f),args,argTypes:=ats }) {wm:Func} {c:Code} (hf:P.funcs[f]? = some wm) (hb:wm.body=some c)
  (jk:∀ τ,Calls P f (args.map a.eval) (w.re τ 0) fun e w'=>∃ v,e = .returned v∧R v w') (eP:∀ v w',R v w'→∀ τ d,KO (iz P af) fn () ops rest Q (a.put o.dst v) (w'.re τ d)):KO (iz P af) fn () ops (i::rest) Q a w :=
 fun b k cs hbf hk hc=>zU hP hk ho hw hop hf hb jk fun v w' hR τ d=>eP v w' hR τ d b k cs hbf hk hc
theorem KU {f:FuncId} {args:Array Value} {Post:Gm→Value→World→Prop} {Post':Value→World→Prop} (hq:∀ γ' v w w1,Post γ' v w→γ'.1 = .bad→jd γ'.2 w w1→Post' v w1)
  (h:wV (NC P af) P (.bad,γ) f args w (fun γ' v w=>γ'.1 = .bad∧Post γ' v w)):wV (iz P af) P () f args w (fun _=>Post'):=by
 obtain⟨wm,c,h1,h2,h3,h4⟩:=h
 refine⟨wm,c,h1,h2,h3,?_⟩
 refine WZ (Q:=fun γ'=>LR P wm Post γ') (fun γ' e a w w1 q r hb => ?_) (xk h4 fun γ' e a w q => ?_)
 ·cases e with
  | normal =>
   obtain⟨hd,v,hr,hp⟩:=q
   exact⟨hd,v,hr,hq _ _ _ _ hp hb r⟩
  | ret =>
   obtain⟨hd,v,hr,hp⟩:=q
   exact⟨hd,v,hr,hq _ _ _ _ hp hb r⟩
  | exit id=>exact q
  | goto l=>exact q
  | panic ch=>exact q
  | outgrown=>exact q
 ·cases e with
  | normal =>
   obtain⟨hd,v,hr,hb,hp⟩:=q
   exact⟨hb,hd,v,hr,hp⟩
  | ret =>
   obtain⟨hd,v,hr,hb,hp⟩:=q
   exact⟨hb,hd,v,hr,hp⟩
  | exit id=>exact q.elim
  | goto l=>exact q.elim
  | panic ch=>exact q.elim
  | outgrown=>exact q.elim
end Go.Co
end
section
namespace Go.Di
open Go Go.Conc Go.Co
variable {P:Program} {af:Machine→Trace→Prop} {ty:ir} {x:Cx} {aM:bV} {call:bP} {yf:fI}
theorem iY (hP:Plain P) {fr:Frame} {cs:List Frame} {w:World} (h:∀ d,∃ fr' jH w' es,stepG P true (G fr cs) (w.at d) = .go (G fr' jH) w' es∧iz P af () (G fr' jH) w'):iz P af () (G fr cs) w :=
 (xl hP).step () fr cs w fun w1 h1=>by
  obtain⟨d,rfl⟩:=h1
  obtain⟨fr',jH,w',es,e,hk⟩:=h d
  exact⟨fr',jH,w',es,(),e,trivial,hk⟩
theorem Hi {g:Goroutine} {w:World} (h:iz P af () g w) (d:Nat):iz P af () g (w.at d):=fun d'=>h d'
theorem dY (hP:Plain P) {fr fr':Frame} {cs jH:List Frame} {w:World} (h:∀ w,∃ es,stepG P true (G fr cs) w = .go (G fr' jH) w es) (hk:iz P af () (G fr' jH) w):iz P af () (G fr cs) w :=
 iY hP fun d=>by
  obtain⟨es,e⟩:=h (w.at d)
  exact⟨fr',jH,_,es,e,Hi hk d⟩
section ade
variable {b:Frame} {a:Act} {k:List Item} {cs:List Frame} {w:World}
theorem Wv:stepG P true (G (b.atR a (.code .skip::k)) cs) w = .go (G (b.atR a k) cs) w #[]:=by simp[G,stepG,stepG.exec,Frame.atR]
theorem SN {l:Nat}:stepG P true (G (b.atR a (.code (.label l)::k)) cs) w = .go (G (b.atR a k) cs) w #[]:=by simp[G,stepG,stepG.exec,Frame.atR]
theorem KH {id:Nat}:stepG P true (G (b.atR a (.inBlock id::k)) cs) w = .go (G (b.atR a k) cs) w #[]:=by simp[G,stepG,stepG.exec,Frame.atR]
theorem KF {c:Code}:stepG P true (G (b.atR a (.inScope c::k)) cs) w = .go (G (b.atR a k) cs) w #[]:=by simp[G,stepG,stepG.exec,Frame.atR]
theorem Fq {x y:Code}:stepG P true (G (b.atR a (.code (.seq x y)::k)) cs) w = .go (G (b.atR a (.code x :: .code y::k)) cs) w #[]:=by simp[G,stepG,stepG.exec,Frame.atR]
theorem Mp {c:Operand} {x y:Code} {t:Bool} (h:a.eval c = .bool t):stepG P true (G (b.atR a (.code (.cond c x y)::k)) cs) w = .go (G (b.atR a (.code (if t then x else y)::k)) cs) w #[]:=by
 have:=congrFun (Frame.eval_atR b a (.code (.cond c x y)::k)) c
 simp only[Frame.atR] at this
 simp[G,stepG,stepG.exec,Frame.atR,this,h]
theorem SO {id:Nat} {c:Code}:stepG P true (G (b.atR a (.code (.block id c)::k)) cs) w = .go (G (b.atR a (.code c :: .inBlock id::k)) cs) w #[]:=by simp[G,stepG,stepG.exec,Frame.atR]
theorem SL {c:Code}:stepG P true (G (b.atR a (.code (.scope c)::k)) cs) w = .go (G (b.atR a (.code c :: .inScope c::k)) cs) w #[]:=by simp[G,stepG,stepG.exec,Frame.atR]
theorem Ww {c:Code}:stepG P true (G (b.atR a (.code (.loop c)::k)) cs) w = .go (G (b.atR a (.code c :: .inLoop c::k)) cs) w #[]:=by simp[G,stepG,stepG.exec,Frame.atR]
theorem Oe {c:Code}:stepG P true (G (b.atR a (.inLoop c::k)) cs) w = .go (G (b.atR a (.code c :: .inLoop c::k)) cs) w #[]:=by simp[G,stepG,stepG.exec,Frame.atR]
theorem Wx {id:Nat} {k':List Item} (h:exitTo id k=some k'):stepG P true (G (b.atR a (.code (.exit id)::k)) cs) w = .go (G (b.atR a k') cs) w #[]:=by simp[G,stepG,stepG.exec,Frame.atR,h]
theorem Eh {id:Nat} {ops:Array Oper}:stepG P true (G (b.atR a (.code (.region id ops false)::k)) cs) w = .go (G (b.atR a (.inRegion ops (List.range ops.size)::k)) cs) w #[]:=by simp[G,stepG,stepG.exec,Frame.atR]
theorem KE {id:Nat} {ops:Array Oper} (hm:P.follows .mixedOrders=true):stepG P true (G (b.atR a (.code (.region id ops true)::k)) cs) w = .go (G (b.atR a (.inRegion ops (Region.linearise .any ops (w.tape w.drawn (.order b.fn id)))::k)) cs) (w.at (w.drawn+1)) #[]:=by
 simp[G,stepG,stepG.exec,Frame.atR,choose,Sem.run,Question.forced,Question.cut,Region.schedule,hm,World.at]
theorem mD {ops:Array Oper}:stepG P true (G (b.atR a (.inRegion ops []::k)) cs) w = .go (G (b.atR a k) cs) w #[]:=by simp[G,stepG,stepG.exec,Frame.atR]
def Mz (o:Op):Bool:=match o with | .defer _=>false | _=>true
theorem FV {ops:Array Oper} {i:Nat} {rest:List Nat} {o:Oper} (ho:ops[i]? = some o) (hw:Region.wanted o (yielded ops a.tmps)=true) (hd:Mz o.op=true) :
  stepG P true (G (b.atR a (.inRegion ops (i::rest)::k)) cs) w=stepG.apply P true (b.atR a (.inRegion ops (i::rest)::k)) cs none (execOp a.eval o) w:=by
 have he:=Frame.eval_atR b a (.inRegion ops (i::rest)::k)
 simp only[Frame.atR] at he
 have h1:stepG P true (G (b.atR a (.inRegion ops (i::rest)::k)) cs) w=stepG.oper P true (b.atR a (.inRegion ops (i::rest)::k)) cs none w:=by
  simp[G,stepG,stepG.exec,Frame.atR,ho,hw]
 rw[h1]
 unfold stepG.oper
 have hop:(b.atR a (.inRegion ops (i::rest)::k)).oper? = some o:=by simp[Frame.oper?,Frame.atR,ho]
 simp only[hop]
 have tC:(b.atR a (.inRegion ops (i::rest)::k)).eval=a.eval:=Frame.eval_atR b a _
 split
 ·rename_i l c h2 h3
  rw[h3] at hd
  cases hd
 ·rw[tC]
theorem s6 {ops:Array Oper} {i:Nat} {rest:List Nat} {o:Oper} (ho:ops[i]? = some o) (hw:Region.wanted o (yielded ops a.tmps)=false) :
  stepG P true (G (b.atR a (.inRegion ops (i::rest)::k)) cs) w = .go (G (b.atR (a.put o.dst undef) (.inRegion ops rest::k)) cs) w #[]:=by
 have hf:=Frame.finish_atR b a ops i rest k undef
 simp only[ho,Option.bind_some] at hf
 rw[← hf]
 simp[G,stepG,stepG.exec,Frame.atR,ho,hw]
end ade
theorem OD (hP:Plain P) {b:Frame} {a:Act} {k:List Item} {cs:List Frame} {ops:Array Oper} {i:Nat} {rest:List Nat} {o:Oper} {d:DV} {S':ax} (hk:b.kind ≠ .early)
  (ho:ops[i]? = some o) (hw:Region.wanted o (yielded ops a.tmps)=true) (hd:Mz o.op=true) (hy:∀ n,Yields (x.dr n) ((execOp a.eval o).run P (x.w.at n)) d S')
  (eP:∀ y v,y.S=S'→Rel y→bZ x y→RV y d v→iz P af () (G (b.atR (a.put o.dst v) (.inRegion ops rest::k)) cs) y.w):iz P af () (G (b.atR a (.inRegion ops (i::rest)::k)) cs) x.w:=by
 refine iY hP fun n => ?_
 obtain⟨v,y,h1,h2,h3,h4,h5⟩:=hy n
 have hf:=Frame.finish_atR b a ops i rest k
 simp only[ho,Option.bind_some] at hf
 have pK:(b.kind==CallKind.early)=false:=by simpa using hk
 rw[FV ho hw hd]
 rcases h1 with h1 | ⟨h1,rfl⟩
 ·refine⟨b.atR (a.put o.dst v) (.inRegion ops rest::k),cs,y.w,seen P b.fn ((execOp a.eval o).events P (x.w.at n) #[]),?_,eP y v h2 h3 ((fe x n).trans h4) h5⟩
  rw[← hf]
  simp[stepG.apply,h1,G,Frame.atR,pK,GStep.after]
 ·refine⟨b.atR (a.put o.dst undef) (.inRegion ops rest::k),cs,y.w,seen P b.fn ((execOp a.eval o).events P (x.w.at n) #[]),?_,eP y undef h2 h3 ((fe x n).trans h4) h5⟩
  rw[← hf]
  simp[stepG.apply,h1,G,Frame.atR,pK,GStep.after]
end Go.Di
end
section
namespace Go.Di
open Go Go.Conc Go.Co
variable {P:Program} {af:Machine→Trace→Prop} {ty:ir} {x:Cx} {aM:bV} {call:bP} {yf:fI}
theorem vE {env:List DV} {a:Act} (h:gn x env a.tmps):wJ x (jb env) a.eval:=by
 intro o d ho
 cases o with
 | tmp t =>
  simp only[jb,aB] at ho
  subst ho
  by_cases ht:t<env.length
  ·have:=h.2 t env[t] (bH ht)
   simpa [Act.eval,aN,ht] using this
  ·have h1:env[t]? = none:=fN (Nat.le_of_not_lt ht)
   have h2:a.tmps[t]? = none:=lp (by rw[h.1]; exact Nat.le_of_not_lt ht)
   have:a.eval (.tmp t)=undef:=by simp[Act.eval,bg,h2]
   rw[this,aN,h1]
   exact .val rfl
 | const v=>exact xx ho
 | func f =>
  simp only[jb,aB] at ho
  subst ho
  exact .fn rfl rfl (by simp) (by simp)
 | global g=>cases ho
theorem Mf {env:List DV} {arr:Array Value} (h:gn x env arr) {t:Nat} {d:DV} {v:Value} (hd:RV x d v):gn x (env.set t d) (arr.setIfInBounds t v):=by
 refine⟨by simpa using h.1,fun j c hc => ?_⟩
 rw[aQ] at hc
 by_cases hj:t=j
 ·subst hj
  rw[if_pos rfl] at hc
  split at hc
  ·rename_i hlt
   simp only[aB] at hc
   subst hc
   have:t<arr.size:=by rw[h.1]; exact hlt
   simpa [bg,this] using hd
  ·cases hc
 ·rw[if_neg hj] at hc
  have:=h.2 j c hc
  simpa [bg,Array.getElem?_setIfInBounds,hj] using this
theorem qE {env:List DV} {a:Act} (h:gn x env a.tmps) {dst:Option Tmp} {d:DV} {v:Value} (hd:RV x d v):gn x (gV env dst d) (a.put dst v).tmps∧(a.put dst v).defers=a.defers:=by
 cases dst with
 | none=>exact⟨h,rfl⟩
 | some t=>exact⟨Mf h hd,rfl⟩
theorem yy {env:List DV} {a:Act} (h:gn x env a.tmps) (ops:Array Oper) (o:Oper):Region.wanted o (yielded ops a.tmps)=cu ops env o:=by
 unfold Region.wanted cu
 cases o.guard with
 | none=>rfl
 | some g =>
  obtain⟨j,want⟩:=g
  simp only[yielded]
  cases hb:(ops[j]?).bind (·.dst) with
  | none=>rfl
  | some t =>
   simp only[Option.bind_some]
   by_cases ht:t<env.length
   ·have h1:=bH ht
    have hr:=h.2 t env[t] h1
    have h2:t<a.tmps.size:=by rw[h.1]; exact ht
    rw[h1,bW h2]
    simp only[bg,bW h2,Option.getD_some] at hr
    generalize env[t]=d at hr
    generalize a.tmps[t]=v at hr
    cases hr with
    | @val v hv=>cases v<;>first | rfl | (simp only; cases want<;>rfl) | (rename_i b; cases b<;>cases want<;>rfl)
    | _=>cases want<;>rfl
   ·rw[fN (Nat.le_of_not_lt ht),lp (by rw[h.1]; exact Nat.le_of_not_lt ht)]
    cases want<;>rfl
def eH (P:Program) (af:Machine→Trace→Prop) (x:Cx) (g:FuncId) (vals:Array Value) (Post:Cx→Value→Prop):Prop :=
 (∃ fn c,P.funcs[g]? = some fn∧fn.body=some c)∧∀ (fr:Frame) (cs:List Frame),(∀ y v,Post y v→iz P af () (G (fr.finish v) cs) y.w)→iz P af () (G (Frame.enter P g vals .normal) (fr::cs)) x.w
theorem eH.mono {g:FuncId} {vals:Array Value} {Post Post':Cx→Value→Prop} (h:eH P af x g vals Post) (hp:∀ y v,Post y v→Post' y v):eH P af x g vals Post' :=
 ⟨h.1,fun fr cs hc=>h.2 fr cs fun y v p=>hc y v (hp y v p)⟩
theorem eH.at {g:FuncId} {vals:Array Value} {Post:Cx→Value→Prop} (h:eH P af x g vals Post) (n:Nat):eH P af (x.dr n) g vals Post :=
 ⟨h.1,fun fr cs hc=>Hi (h.2 fr cs hc) n⟩
def jr (P:Program) (af:Machine→Trace→Prop) (call:bP):Prop :=
 ∀ f args S v S',call f args S=some (v,S')→∀ x vals,Rel x→x.S=S→gn x args vals→eH P af x f vals fun y u=>y.S=S'∧Rel y∧bZ x y∧RV y v u
def wW (P:Program) (af:Machine→Trace→Prop) (aM:bV):Prop :=
 ∀ f args v,aM f args=some v→args.all DV.pure=true→v.pure=true∧∀ x vals,Rel x→gn x args vals→eH P af x f vals fun y u=>y.S=x.S∧Rel y∧bZ x y∧RV y v u
def wT (P:Program) (af:Machine→Trace→Prop) (yf:fI):Prop :=
 ∀ id args S v S',yf id args S=some (v,S')→∀ x vals,Rel x→x.S=S→gn x args vals→∃ lo:Loop,x.w.heap[x.μ id]? = some (.loop lo)∧vals.size=lo.params.size ∧
  ∀ (fr:Frame) (cs:List Frame),(∀ y u,(y.S=S'∧Rel y∧bZ x y∧RV y v u)→iz P af () (G (fr.finish u) cs) y.w)→iz P af () (G (Frame.round (x.μ id) lo.fn ((lo.params.zip vals).foldl (fun tmps (t,a)=>tmps.setIfInBounds t a) lo.tmps) lo.assign lo.body .normal) (fr::cs)) x.w
theorem Ua (hc:jr P af call) (hi:wW P af aM) {g:FuncId} {args:List DV} {S S':ax} {v:DV} (h:wR aM call g args S=some (v,S')) {vals:Array Value} (hR:Rel x) (hS:x.S=S) (ha:gn x args vals) :
  eH P af x g vals fun y u=>y.S=S'∧Rel y∧bZ x y∧RV y v u:=by
 unfold wR at h
 split at h
 ·rename_i hp
  split at h
  ·rename_i v' h1
   cases h
   subst hS
   refine(hi _ _ _ h1 hp).2 x vals hR ⟨by simpa using ha.1,fun j c hj => ?_⟩
   simp only[eE,ai] at hj
   obtain⟨c',h2,rfl⟩:=hj
   exact(ha.2 j c' h2).strip
  ·exact hc _ _ _ _ _ h x vals hR hS ha
 ·exact hc _ _ _ _ _ h x vals hR hS ha
theorem kE {l m:List DV} {a b:Array Value} (h:gn x l a) (k:gn x m b):gn x (l++m) (a++b):=by
 refine⟨by simp[h.1,k.1],fun j c hc => ?_⟩
 simp only[bg]
 by_cases hj:j<l.length
 ·rw[fq hj] at hc
  rw[xq (by rw[h.1]; exact hj)]
  simpa [bg] using h.2 j c hc
 ·rw[gF (by omega)] at hc
  rw[xu (by rw[h.1]; omega),h.1]
  simpa [bg] using k.2 _ c hc
theorem Il (hP:Plain P) {b:Frame} {a:Act} {k:List Item} {cs:List Frame} {ops:Array Oper} {i:Nat} {rest:List Nat} {o:Oper} {g:FuncId} {fs vs:Array Value} {c:Call} {f:Operand} {Post:Cx→Value→Prop} (hk:b.kind ≠ .early)
  (ho:ops[i]? = some o) (hw:Region.wanted o (yielded ops a.tmps)=true) (hop:o.op = .call c) (ZW:c.callee = .value f) (hf:a.eval f = .func (.func g) fs vs) (he:eH P af x g (fs++c.args.map a.eval++vs) Post)
  (eP:∀ y v,Post y v→iz P af () (G (b.atR (a.put o.dst v) (.inRegion ops rest::k)) cs) y.w):iz P af () (G (b.atR a (.inRegion ops (i::rest)::k)) cs) x.w:=by
 refine iY hP fun n => ?_
 have rP:=Frame.finish_atR b a ops i rest k
 simp only[ho,Option.bind_some] at rP
 have pK:(b.kind==CallKind.early)=false:=by simpa using hk
 rw[FV ho hw (by rw[hop]; rfl)]
 obtain⟨⟨fn,cd,h1,h2⟩,h3⟩:=he
 have wM:=hP.count g fn h1
 have hrun:(execOp a.eval o).run P (x.w.at n) = .ok (.enter g (fs++c.args.map a.eval++vs)) (x.w.at n):=by
  unfold execOp
  simp only[hop,resolve,ZW,hf,Deferred.ofValue,Sem.run_bind,Sem.run_pure,Result.andThen_ok,invoke,callFunc,run_program,h1,wM,aF,if_false,h2,Option.isNone_some]
 refine⟨Frame.enter P g (fs++c.args.map a.eval++vs) .normal,b.atR a (.inRegion ops (i::rest)::k)::cs,x.w.at n,seen P b.fn ((execOp a.eval o).events P (x.w.at n) #[]),?_,Hi (h3 _ cs fun y v hp => ?_) n⟩
 ·simp[stepG.apply,hrun,G,Frame.atR,pK,GStep.after]
 ·rw[rP]
  exact eP y v hp
theorem Ti (hP:Plain P) {b:Frame} {a:Act} {k:List Item} {cs:List Frame} {ops:Array Oper} {i:Nat} {rest:List Nat} {o:Oper} {l:Nat} {lo:Loop} {c:Call} {f:Operand} {Post:Cx→Value→Prop} (hk:b.kind ≠ .early)
  (ho:ops[i]? = some o) (hw:Region.wanted o (yielded ops a.tmps)=true) (hop:o.op = .call c) (ZW:c.callee = .value f) (hf:a.eval f = .func (.yield l) #[] #[]) (hl:x.w.heap[l]? = some (.loop lo)) (hsz:(c.args.map a.eval).size=lo.params.size)
  (he:∀ (fr:Frame) (cs:List Frame),(∀ y u,Post y u→iz P af () (G (fr.finish u) cs) y.w)→iz P af () (G (Frame.round l lo.fn ((lo.params.zip (c.args.map a.eval)).foldl (fun tmps (t,a)=>tmps.setIfInBounds t a) lo.tmps) lo.assign lo.body .normal) (fr::cs)) x.w)
  (eP:∀ y v,Post y v→iz P af () (G (b.atR (a.put o.dst v) (.inRegion ops rest::k)) cs) y.w):iz P af () (G (b.atR a (.inRegion ops (i::rest)::k)) cs) x.w:=by
 refine iY hP fun n => ?_
 have rP:=Frame.finish_atR b a ops i rest k
 simp only[ho,Option.bind_some] at rP
 have pK:(b.kind==CallKind.early)=false:=by simpa using hk
 rw[FV ho hw (by rw[hop]; rfl)]
 have hg:=jw (P:=P) (w:=x.w.at n) (show (x.w.at n).heap[l]? = some (.loop lo) from hl) (by simp)
 have hrun:(execOp a.eval o).run P (x.w.at n) = .ok (.round l lo.fn ((lo.params.zip (c.args.map a.eval)).foldl (fun tmps (t,a)=>tmps.setIfInBounds t a) lo.tmps) lo.assign lo.body) (x.w.at n):=by
  have hne:¬ ((#[]++c.args.map a.eval).size≠lo.params.size):=by simpa using hsz
  unfold execOp
  simp only[hop,resolve,ZW,hf,Deferred.ofValue,Sem.run_bind,Sem.run_pure,Result.andThen_ok,invoke,Instr.yield,Instr.getLoop,hg,if_neg hne]
  simp
 refine⟨Frame.round l lo.fn _ lo.assign lo.body .normal,b.atR a (.inRegion ops (i::rest)::k)::cs,x.w.at n,seen P b.fn ((execOp a.eval o).events P (x.w.at n) #[]),?_,Hi (he _ cs fun y v hp => ?_) n⟩
 ·simp[stepG.apply,hrun,G,Frame.atR,pK,GStep.after]
 ·rw[rP]
  exact eP y v hp
theorem Hh (hP:Plain P) (eY:j4 P ty) (hc:jr P af call) (hi:wW P af aM) (Js:wT P af yf) {b:Frame} {a:Act} {k:List Item} {cs:List Frame} {ops:Array Oper} {i:Nat} {rest:List Nat} {o:Oper} {d:DV} {S':ax} {env:List DV} {aH:Nat} (hk:b.kind ≠ .early)
  (ho:ops[i]? = some o) (hw:Region.wanted o (yielded ops a.tmps)=true) (hR:Rel x) (hn:DJ x.S aH) (he:gn x env a.tmps) (h:ah P ty aM call yf (jb env) o x.S aH=some (d,S'))
  (eP:∀ y v,y.S=S'→Rel y→bZ x y→RV y d v→iz P af () (G (b.atR (a.put o.dst v) (.inRegion ops rest::k)) cs) y.w):iz P af () (G (b.atR a (.inRegion ops (i::rest)::k)) cs) x.w:=by
 by_cases hl:Op.lone o.op=true
 ·refine OD hP hk ho hw ?_ (fun n=>NT eY (hR.dr n) hn (vE (he.mono (fe x n))) hl h) eP
  cases hop:o.op<;>first | rfl | (simp[ah,hop] at h)
 ·obtain⟨c,hop⟩:∃ c,o.op = .call c:=by
   cases hop:o.op<;>first | (exact⟨_,rfl⟩) | (exact absurd (by rw[hop]; rfl) hl)
  obtain⟨callee,args,ats⟩:=c
  cases callee with
  | builtin bi=>exact absurd (by rw[hop]; rfl) hl
  | invoke r m=>simp[ah,hop] at h
  | value f =>
   simp only[ah,hop] at h
   have tC:=vE he
   split at h
   ·rename_i g fs jH xs hf Py
    have XO:=tC f _ hf
    have kU:=vD tC Py
    generalize hv:a.eval f=vf at XO
    cases XO with
    | @fn _ _ _ vfs vcs h1 h2 h3 h4 =>
     have fA:gn x (fs++xs++jH) (vfs++args.map a.eval++vcs):=by
      have e:(args.toList.map a.eval).toArray=args.map a.eval:=Array.toList_inj.1 (by simp)
      rw[e] at kU
      exact kE (kE ⟨h1,h3⟩ kU) ⟨h2,h4⟩
     split at h
     ·exact Il hP hk ho hw hop rfl hv (hc _ _ _ _ _ h x _ hR rfl fA) fun y v hp=>eP y v hp.1 hp.2.1 hp.2.2.1 hp.2.2.2
     ·exact Il hP hk ho hw hop rfl hv (Ua hc hi h hR rfl fA) fun y v hp=>eP y v hp.1 hp.2.1 hp.2.2.1 hp.2.2.2
   ·rename_i id xs hf Py
    have XO:=tC f _ hf
    have kU:=vD tC Py
    generalize hv:a.eval f=vf at XO
    cases XO with
    | xV hS =>
     have e:(args.toList.map a.eval).toArray=args.map a.eval:=Array.toList_inj.1 (by simp)
     rw[e] at kU
     obtain⟨lo,q1,q2,q3⟩:=Js _ _ _ _ _ h x _ hR rfl kU
     exact Ti hP hk ho hw hop rfl hv q1 q2 q3 fun y v hp=>eP y v hp.1 hp.2.1 hp.2.2.1 hp.2.2.2
   ·cases h
theorem FT (hP:Plain P) (eY:j4 P ty) (hc:jr P af call) (hi:wW P af aM) (Js:wT P af yf) {ops:Array Oper} {b:Frame} {k:List Item} {cs:List Frame} (hk:b.kind ≠ .early) :
  ∀ (r pre:List Oper),ops.toList=pre++r→∀ {env aD:List DV} {S':ax} {a:Act} {x:Cx},E8 P ty aM call yf ops r env x.S=some (aD,S')→Rel x→gn x env a.tmps →
   (∀ y a',y.S=S'→Rel y→bZ x y→gn y aD a'.tmps→a'.defers=a.defers→iz P af () (G (b.atR a' k) cs) y.w)→iz P af () (G (b.atR a (.inRegion ops (List.range' pre.length r.length)::k)) cs) x.w
 | [],pre,_,env,aD,S',a,x,h,hR,he,hn=>by
  simp only[E8,aB,ay] at h
  obtain⟨rfl,rfl⟩:=h
  exact dY hP (fun w=>⟨_,mD⟩) (hn x a rfl hR (bZ.refl x) he rfl)
 | o::r,pre,Ff,env,aD,S',a,x,h,hR,he,hn=>by
  have ho:ops[pre.length]? = some o:=by
   rw[← gE,Ff]
   simp
  have Yw:ops.toList=(pre++[o])++r:=by rw[Ff]; simp
  have hlen:(pre++[o]).length=pre.length+1:=by simp
  simp only[List.length_cons,List.range'_succ]
  unfold E8 at h
  have Um:=yy he ops o
  by_cases hw:cu ops env o=true
  ·rw[if_pos hw] at h
   rw[hw] at Um
   obtain⟨x1,k1,k2,k3,k4,k5⟩:=aa0 (ty:=ty) o hR he
   rw[← k1]
   split at h
   rename_i mH S0 wF
   rw[wF] at k2 k5
   dsimp only at k2 k5
   subst k2
   split at h
   ·rename_i v S1 h1
    refine Hh hP eY hc hi Js hk ho Um k3 (.inl rfl) k5 h1 fun y u hyS hyR XG hyV => ?_
    subst hyS
    have nW:=qE (k5.mono XG) (dst:=o.dst) hyV
    have:=FT hP eY hc hi Js hk r (pre++[o]) Yw h hyR nW.1 fun z a' z1 z2 z3 z4 z5=>hn z a' z1 z2 (k4.trans (XG.trans z3)) z4 (z5.trans nW.2)
    rw[hlen] at this
    exact this
   ·cases h
  ·rw[if_neg hw] at h
   have YW:cu ops env o=false:=by simpa using hw
   rw[YW] at Um
   refine dY hP (fun w=>⟨_,s6 ho Um⟩) ?_
   have nW:=qE he (dst:=o.dst) (d:=bh) (v:=undef) (.val rfl)
   have:=FT hP eY hc hi Js hk r (pre++[o]) Yw h hR nW.1 fun z a' z1 z2 z3 z4 z5=>hn z a' z1 z2 z3 z4 (z5.trans nW.2)
   rw[hlen] at this
   exact this
end Go.Di
end
