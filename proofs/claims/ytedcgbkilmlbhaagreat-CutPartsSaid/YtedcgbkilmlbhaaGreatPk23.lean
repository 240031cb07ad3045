import Derived.Test.YtedcgbkilmlbhaaGreatPk22
import Derived.Conc.CompanyMem
import Derived.Conc.AppendWalk
import Derived.Laws.AppendOwn
import Derived.Below
import Derived.Test.YtedcgbkilmlbhaaGreatPk16
import Derived.AtR
section
namespace Go.Co
open Go Go.Conc
open Go.ConcN (sumTo upd upd_same upd_ne)
variable {P:Program} {aa:Machine→Trace→Prop} {Cs:Nat→Prop}
def xN (n:Nat) (rk:Nat→Tr):List Tr:=(List.range n).map rk
theorem LS {n i:Nat} {rk:Nat→Tr} {r:Tr} (hi:i<n):xN n (upd rk i r)=(xN n rk).set i r:=by
 apply lZ
 intro j
 unfold xN
 rw[aK]
 by_cases hj:i=j
 ·subst hj
  simp[hi,upd_same]
 ·by_cases kY:j<n
  ·simp[hj,kY,upd_ne _ _ (Ne.symm hj)]
  ·simp[hj,kY]
theorem vB {n i:Nat} {rk:Nat→Tr} {r:Tr} (hi:i<n) (h:Wo r (rk i)):LLt (xN n (upd rk i r)) (xN n rk):=by
 rw[LS hi]
 exact .mk _ i (rk i) r (by simp[xN,hi]) h
variable {N:Net} {γ:Nat→So} {rk:Nat→Tr} {tp:Nat} {gs:Array Goroutine} {w:World} {t:Trace}
theorem u5 (h:uz P aa Cs N γ rk tp gs w t) {i:Nat} (hi:i<N.n):∃ g,gs[i]? = some g:=by
 have:i<gs.size:=by rw[h.size]; exact hi
 exact⟨gs[i],bL this⟩
theorem PE (h:uz P aa Cs N γ rk tp gs w t)
  (hen:(∃ i j c v k ok z k',i<N.n∧j<N.n∧N.pr i = .send c v k∧N.pr j = .recv c ok z k')∨(∃ i c k,i<N.n∧N.pr i = .close c k)∨(∃ j c ok z k E,j<N.n∧N.pr j = .recv c ok z k∧N.cl c=some E)∨(∃ i ch k,i<N.n∧N.pr i = .go ch k)) :
  ∃ (i:Nat) (g:Goroutine),gs[i]? = some g∧g.status = .running:=by
 rcases hen with ⟨i,j,c,v,k,ok,z,k',hi,hj,zy,uA⟩ | ⟨i,c,k,hi,hp⟩ | ⟨j,c,ok,z,k,E,hj,hp,hE⟩ | ⟨i,ch,k,hi,hp⟩
 ·obtain⟨g,hg⟩:=u5 h hi
  obtain⟨g',lp⟩:=u5 h hj
  have hm:=h.mem i g hg
  have Hf:=h.mem j g' lp
  rw[zy] at hm
  rw[uA] at Hf
  rcases hm.awake with e | e | e
  ·exact⟨i,g,hg,e⟩
  ·rcases Hf.awake with e' | e' | e'
   ·exact⟨j,g',lp,e'⟩
   ·exact(h.apart i j c v k ok z k' g g' hg lp e e' zy uA).elim
   ·generalize rk j=rj at Hf
    cases Hf with
    | run p r g h1 h2=>rw[dh h2] at e'; cases e'
    | recv _ _ _ _ g h1 h2=>cases e'
  ·generalize rk i=ri at hm
   cases hm with
   | run p r g h1 h2=>rw[dh h2] at e; cases e
   | send _ _ _ g _ h1=>cases e
 ·obtain⟨g,hg⟩:=u5 h hi
  have hm:=h.mem i g hg
  rw[hp] at hm
  generalize rk i=ri at hm
  cases hm with
  | run p r g h1 h2=>exact⟨i,_,hg,dh h2⟩
 ·obtain⟨g,hg⟩:=u5 h hj
  have hm:=h.mem j g hg
  rw[hp] at hm
  generalize rk j=rj at hm
  cases hm with
  | run p r g h1 h2=>exact⟨j,_,hg,dh h2⟩
  | recv _ _ _ _ g h1 h2 =>
   rw[h.open_ j c ok z k _ hg rfl hp] at hE
   cases hE
 ·obtain⟨g,hg⟩:=u5 h hi
  have hm:=h.mem i g hg
  rw[hp] at hm
  generalize rk i=ri at hm
  cases hm with
  | run p r g h1 h2=>exact⟨i,_,hg,dh h2⟩
end Go.Co
end
section
namespace Go.Co
open Go Go.Conc
open Go.ConcN (sumTo upd upd_same upd_ne)
variable {P:Program} {aa:Machine→Trace→Prop} {Cs:Nat→Prop}
theorem Mk (hP:Plain P) {N:Net} (hW:zC Cs N):∀ (γ:Nat→So) (rk:Nat→Tr) (tp:Nat) (gs:Array Goroutine) (w:World) (sl:Option (Nat×Nat)) (t:Trace),uz P aa Cs N γ rk tp gs w t→Ra P aa (crowd gs w sl) t:=by
 induction hW with
 | done N h0 hd=>exact fun γ rk tp gs w sl t h=>Qk h h0 hd
 | step N hno h0 hsend hrecv hen Vy acZ abm abr hstart ihm ihs ihh ihg =>
  intro γ rk tp gs w sl t h
  have acc:=Kp (xN N.n rk)
  generalize hl:xN N.n rk=l at acc
  induction acc generalizing γ rk tp gs w sl t with
  | intro l _ ih =>
   subst hl
   have MV:∀ g∈gs,awake g:=by
    intro x hx
    obtain⟨i,hi,rfl⟩:=Array.mem_iff_getElem.1 hx
    exact awake_of ((h.mem i _ (bL hi)).awake)
   obtain⟨i,g,d,sl',hi,hg,hst⟩:=crowd_pick (P:=P) (w:=w) (sl:=sl) MV (PE h hen)
   have nk:i<N.n:=by rw[← h.size]; exact(aG.1 hi).1
   have hm:=h.mem i g hi
   generalize Zx:rk i=r at hm
   generalize Nj:N.pr i=p at hm
   have h2:=HQ h hno d
   cases hm with
   | stop n g h3 h4 =>
    cases n with
    | zero=>rw[h4.1] at hg; cases hg
    | succ n =>
     rcases h4 with ⟨hf,_⟩ | ⟨_,g',es,hmu,NI,hq⟩
     ·rw[hf] at hg; cases hg
     obtain⟨hrun,nO⟩:=PF (sl:=sl') h2 hi Nj h3 hmu NI hq hsend hrecv
     rw[hrun] at hst
     exact gH hst (ih _ (vB nk (by rw[Zx]; exact SP n)) _ _ _ _ _ sl' _ nO rfl)
   | ret r g h3 h4 h5=>exact absurd Nj (hno i nk).1
   | send c v k g z h3=>cases hg
   | recv c ok z k g h3 h4=>cases hg
   | run p r0 g iZ hG =>
    subst Nj
    cases r0 with
    | node f =>
     obtain⟨g',w',es,γ',e1,hS,hG'⟩:=hG.2 (w.at d) (wC _ _ _)
     obtain⟨hrun,nO⟩:=PC (sl:=sl') hP h hno hsend hrecv hi iZ e1 hS hG'
     rw[hrun] at hst
     exact gH hst (ih _ (vB nk (by rw[Zx]; exact XJ f (w.at d))) _ _ _ _ _ sl' _ nO rfl)
    | leaf =>
     have hS:=hG (w.at d) (wC _ _ _)
     cases hp:N.pr i with
     | stop=>exact absurd hp iZ.1
     | ret=>exact absurd hp iZ.2.1
     | bad=>exact absurd hp iZ.2.2
     | send c v k =>
      rw[hp] at hS
      obtain⟨EG,wu⟩:=hsend i c v k nk hp
      rcases PI (sl:=sl') h hno hi hp EG wu hS.1 hS.2 (fun j ok z kr hj hr=>Vy i j c v k ok z kr nk hj hp hr) with ⟨gs',hrun,nO⟩ | ⟨N',gs',w',ops,B2,hrun,-,⟨j,ok,z,kr,hj,hr,rfl⟩,nO⟩
      ·rw[hrun] at hst
       refine gH hst ?_
       rw[Array.append_empty]
       exact ih _ (vB nk (by rw[Zx]; exact FE)) _ _ _ _ _ sl' _ (HQ nO hno d) rfl
      ·rw[hrun] at hst
       exact gH hst (ihm i j c v k ok z kr nk hj hp hr _ _ _ _ _ sl' _ nO)
     | recv c ok z kr =>
      rw[hp] at hS hG
      have nK:=hrecv i c ok z kr nk hp
      have hS0:=hG w (gG _ _)
      cases qC:N.cl c with
      | none =>
       rcases PJ (sl:=sl') h hno hi hp qC nK hS.1 (fun w1 h1=>(hG w1 h1).1) hS0.2 (fun j v k hj hs=>Vy j i c v k ok z kr hj nk hs hp) with ⟨gs',hrun,nO⟩ | ⟨N',gs',w',ops,B2,hrun,-,⟨j,v,k,hj,hs,rfl⟩,nO⟩
       ·rw[hrun] at hst
        refine gH hst ?_
        rw[Array.append_empty]
        exact ih _ (vB nk (by rw[Zx]; exact FE)) _ _ _ _ _ sl' _ (HQ nO hno d) rfl
       ·rw[hrun] at hst
        exact gH hst (ihm j i c v k ok z kr hj nk hs hp _ _ _ _ _ sl' _ nO)
      | some E =>
       obtain⟨gs',ops,B2,hrun,nO⟩:=PK (sl:=sl') (d:=d) h2 hsend hi hp qC nK hS.1 hS.2 (abr i c ok z kr E nk hp qC)
       have hrun:runT P (crowd gs (w.at d) sl') i=_:=hrun
       rw[hrun] at hst
       exact gH hst (ihh i c ok z kr E nk hp qC _ _ _ _ _ sl' _ nO)
     | close c k =>
      rw[hp] at hS
      obtain⟨-,hmw,g',xE,hstep,hk⟩:=hS
      obtain⟨EG,wu⟩:=acZ i c k nk hp
      have hw:=abm i c k nk hp
      have Df:∀ j v k',j<N.n→N.pr j ≠ .send c v k':=by
       intro j v k' hj e
       have fH:j≠i:=by rintro rfl; rw[hp] at e; cases e
       have e':(N.shut i c k).pr j = .send c v k':=(upd_ne _ _ fH).trans e
       have qC:(N.shut i c k).cl c≠none:=by
        show upd N.cl c _ c≠none
        rw[upd_same]; simp
       cases hw with
       | done _ h3 h4 =>
        by_cases K4:j=0
        ·rw[K4,h3] at e'; cases e'
        ·rw[(h4 j (by omega) hj).1] at e'; cases e'
       | step _ _ _ h5=>exact qC (h5 j c v k' hj e').1
      obtain⟨gs',w',ops,B2,hrun,nO⟩:=PG (sl:=sl') (d:=d) hP h2 hno hsend hrecv hi hp EG wu hmw xE hstep hk Df hw
      have hrun:runT P (crowd gs (w.at d) sl') i=_:=hrun
      rw[hrun] at hst
      exact gH hst (ihs i c k nk hp _ _ _ _ _ sl' _ nO)
     | go ch k =>
      rw[hp] at hS
      obtain⟨wh,g',x0,xE,e1,Hs,hch,hk⟩:=hS
      obtain⟨gs',ops,B2,hrun,nO⟩:=LG (sl:=sl') (d:=d) hP h2 hi hp e1 xE Hs hch hk (hstart i ch k nk hp)
      have hrun:runT P (crowd gs (w.at d) sl') i=_:=hrun
      rw[hrun] at hst
      exact gH hst (ihg i ch k nk hp _ _ _ _ _ sl' _ nO)
end Go.Co
end
section
namespace Go.Co
open Go Go.Conc
open Go.ConcN (sumTo upd upd_same upd_ne)
variable {P:Program} {aa:Machine→Trace→Prop} {Cs:Nat→Prop}
def entry (n:Nat) (p:Pc):Net:=⟨n,fun j=>if j=0 then p else .stop,fun _ j=>0<j∧j<n,fun _=>none⟩
theorem Yf (hP:Plain P) {p:Pc} {S O:Nat→Prop} {g:Goroutine} {w:World} (hp:p.live) (oe:Pr P aa true p (S,O) g w)
  (hSO:∀ b,O b→¬ S b) (Lg:∀ b,S b∨O b→b<w.heap.size)
  (hc:∀ c,Cs c→(∃ s tm,w.heap[c]? = some (.chan 0 #[] false s s tm))∧¬ S c∧¬ O c)
  (hW:∀ n,0<n→zC Cs (entry n p)):gM P aa () g w:=by
 intro d hf hr hd gs sl t q h0 hL Fg
 have hlt:0<gs.size:=(aG.1 h0).1
 obtain⟨r,hG⟩:=J5 hp oe
 have hG:=AG B8 hG (wC (S,O) w d)
 have hno:∀ i a,t.size≤i→touchAt t i=some a→False:=by
  intro i a hi ha
  obtain⟨x,hx,-⟩:=touch_of ha
  have:=(aG.1 hx).1
  omega
 have iZ:∀ j,(entry gs.size p).pr j ≠ .stop→j=0:=by
  intro j hj
  by_cases h:j=0
  ·exact h
  ·exact absurd (by simp[entry,h]) hj
 have adA:(entry gs.size p).pr 0=p:=rfl
 have hγ:∀ j b,((if j=0 then ((S,O):So) else (fun _=>False,fun _=>False)).1 b→j=0∧S b)∧((if j=0 then ((S,O):So) else (fun _=>False,fun _=>False)).2 b→j=0∧O b):=by
  intro j b
  by_cases h:j=0<;>simp[h]
 refine Mk hP (hW gs.size hlt) (fun j=>if j=0 then (S,O) else (fun _=>False,fun _=>False)) (fun j=>if j=0 then r.up else Tr.nat (q j)) t.size gs (w.at d) sl t
  ⟨rfl,hlt,fun j x hx => ?_,⟨Fg.clean,fun j hj => ?_,fun i a j hi ha hm hj kY => ?_,fun i a b j hi ha=>(hno i a hi ha).elim,fun i a b j hi ha=>(hno i a hi ha).elim,fun i a b hi ha=>(hno i a hi ha).elim,fun i a hi ha=>(hno i a hi ha).elim,fun i j hi hg => ?_,fun i a j x hi ha=>(hno i a hi ha).elim,fun c E hE=>(by cases hE),fun j j' b hb => ?_,fun j b hb => ?_,fun c E j hE=>(by cases hE),fun x j hj => ?_,ai _⟩,fun c hcc => ?_,fun j c ok z k x hx hb uA=>rfl,fun i j c v k ok z k' x y hx hy hbx => ?_,fun x hx => ?_⟩
 ·by_cases h:j=0
  ·subst h
   rw[h0] at hx
   cases hx
   have:=Mem.run (P:=P) (aa:=aa) (j:=0) (d:=Deaf t 0) (γ:=(S,O)) (w:=w.at d) p r g hp hG
   simpa [entry] using this
  ·have:=Mem.stop (P:=P) (aa:=aa) (j:=j) (d:=Deaf t j) (γ:=((fun _=>False,fun _=>False):So)) (w:=w.at d) (q j) x h (hL.old j x (by omega) hx)
   simpa [entry,h] using this
 ·rcases hj with hj | hj
  ·rw[iZ j hj]; exact Fg.hears
  ·exact hL.above j hj
 ·rw[iZ j hj]
  exact Fg.known i a ha hm
 ·unfold Trace.g? at hg
  obtain⟨z,hz,-⟩:=ah.1 hg
  have:=(aG.1 hz).1
  omega
 ·obtain⟨rfl,hO⟩:=(hγ j b).2 hb
  refine⟨fun hS=>hSO b hO ((hγ j' b).1 hS).2,fun hne mo=>hne ((hγ j' b).2 mo).1.symm⟩
 ·rcases hb with hb | hb
  ·exact Lg b (.inl ((hγ j b).1 hb).2)
  ·exact Lg b (.inr ((hγ j b).2 hb).2)
 ·refine⟨hj.2,?_⟩
  have:j≠0:=by have:=hj.1; omega
  simp[entry,this]
 ·obtain⟨h1,h2,h3⟩:=hc c hcc
  refine⟨h1,fun j=>⟨fun h=>h2 ((hγ j c).1 h).2,fun h=>h3 ((hγ j c).2 h).2⟩⟩
 ·intro Y4 zy uA
  have h1:=iZ i (by rw[zy]; simp)
  have h2:=iZ j (by rw[uA]; simp)
  subst h1; subst h2
  rw[zy] at uA
  cases uA
 ·rw[h0] at hx
  cases hx
  exact hf
variable {fn:FuncId} {γ:So} {c:Code} {a:Act} {w:World}
theorem DK {g:Goroutine} (hd:g.dying=none) (h:gM P aa () g w):KG P aa true (.ret,γ) g w:=fun _ _=>⟨hd,h⟩
theorem Od {g:Goroutine} (h:KG P aa true (.ret,γ) g w):gM P aa () g w:=(h (fun h=>by cases h) (by simp)).2
theorem YG {b:Frame} {k:List Item} {cs:List Frame} {e:Exit} {a:Act} {w:World} (h:yS (KG P aa true) b k cs (.ret,γ) e a w):yS (gM P aa) b k cs () e a w:=by
 cases e with
 | normal=>exact Od h
 | exit id =>
  obtain⟨k',h1,h2⟩:=h
  exact⟨k',h1,Od h2⟩
 | ret=>exact fun todo=>Od (h todo)
 | goto l=>exact h
 | panic ch=>exact h
 | outgrown=>exact h
theorem Uv {b:Frame} {k:List Item} {cs:List Frame} {e:Exit} {a:Act} {w:World} (h:yS (gM P aa) b k cs () e a w):yS (KG P aa true) b k cs (.ret,γ) e a w:=by
 cases e with
 | normal=>exact DK rfl h
 | exit id =>
  obtain⟨k',h1,h2⟩:=h
  exact⟨k',h1,DK rfl h2⟩
 | ret=>exact fun todo=>DK rfl (h todo)
 | goto l=>exact h
 | panic ch=>exact h
 | outgrown=>exact h
theorem Qt {Q:Gm→Exit→Act→World→Prop} (h:KJ (gM P aa) fn () c (fun _=>Q (.ret,γ)) a w):KJ (KG P aa true) fn (.ret,γ) c Q a w :=
 fun b k cs hb hk hc=>DK rfl (h b k cs hb hk fun _ e a' w' q=>YG (hc _ e a' w' q))
theorem Qs (hP:Plain P) {p:Pc} {S O:Nat→Prop} {Q:Exit→Act→World→Prop} (hp:p.live)
  (hSO:∀ b,O b→¬ S b) (Lg:∀ b,S b∨O b→b<w.heap.size)
  (hc:∀ c,Cs c→(∃ s tm,w.heap[c]? = some (.chan 0 #[] false s s tm))∧¬ S c∧¬ O c)
  (hW:∀ n,0<n→zC Cs (entry n p))
  (h:KJ (KG P aa true) fn (p,(S,O)) c (fun γ' e a' w'=>γ'.1 = .ret∧Q e a' w') a w):KJ (gM P aa) fn () c (fun _=>Q) a w:=by
 intro b k cs hb hk ac2
 refine Yf hP hp (h b k cs hb hk (fun γ' e a' w' q => ?_) (fun h=>by cases h) hp.1) hSO Lg hc hW
 obtain⟨p',γ'⟩:=γ'
 obtain⟨rfl,q⟩:=q
 exact Uv (ac2 () e a' w' q)
end Go.Co
end
section
namespace Go.Co
open Go Go.Conc
variable {P:Program} {aa:Machine→Trace→Prop} {main:Bool} {K:Gm→Goroutine→World→Prop} {fn:FuncId} {p:Pc} {γ:So} {Q:Gm→Exit→Act→World→Prop} {a:Act} {w:World} {ops:Array Oper} {i:Nat} {rest:List Nat} {o:Oper}
theorem Ri (hp:p ≠ .ret) {w1:World} (h:y8 (p,γ) w w1):gU γ w w1:=by
 unfold y8 at h
 cases p<;>first | exact h | exact absurd rfl hp
theorem Zj (hp:p ≠ .ret) {s:So} {w':World} {es:Array Event} (h:EL γ w s w' es):Dm (p,γ) w (p,s) w' es:=by
 refine⟨rfl,?_⟩
 cases p<;>first | exact h | exact absurd rfl hp
def Lj (P:Program) (aa:Machine→Trace→Prop) (γ:Gm) (g:Goroutine) (w:World):Prop:=γ.1 = .bad→∀ w1,gU γ.2 w w1→gM P aa () g w1
theorem TX (hP:Plain P):KC P true (Lj P aa) y8 Dm where
 step:=fun γ fr cs w h hb w0 r0=>by
  obtain⟨p,γ⟩:=γ
  simp only at hb
  subst hb
  refine(vk hP).step () fr cs w0 fun w1 h1 => ?_
  obtain⟨d,rfl⟩:=h1
  obtain⟨fr',iB,w',es,γ',e,⟨qb,-⟩,hk⟩:=h (w0.at d) (fZ r0 (wC γ w0 d))
  exact⟨fr',iB,w',es,(),e,trivial,hk qb w' (gG _ _)⟩
 idle:=(xR (aa:=aa) (main:=true) hP).idle
 rely:=fun γ g w w1 r h hb w2 r2=>by
  obtain⟨p,γ⟩:=γ
  exact h hb w2 (fZ (Ri (by simp only at hb; subst hb; simp) r) r2)
theorem TU {c:Code} {Q:Gm→Exit→Act→World→Prop} {Q':Exit→Act→World→Prop} (hq:∀ γ' e a w w1,Q γ' e a w→gU γ'.2 w w1→γ'.1 = .bad→Q' e a w1) (h:KJ (Lj P aa) fn (.bad,γ) c (fun γ' e a w=>γ'.1 = .bad∧Q γ' e a w) a w):KJ (gM P aa) fn () c (fun _=>Q') a w:=by
 intro b k cs hb hk hc
 refine h b k cs hb hk (fun γ' e a' w' q => ?_) rfl w (gG _ _)
 have ew:∀ w1,gU γ'.2 w' w1→yS (gM P aa) b k cs () e a' w1:=fun w1 r=>hc () e a' w1 (hq _ _ _ _ _ q.2 r q.1)
 cases e with
 | normal=>exact fun _ w1 r=>ew w1 r
 | exit id =>
  obtain⟨k',h1,-⟩:=ew w' (gG _ _)
  refine⟨k',h1,fun _ w1 r => ?_⟩
  obtain⟨k2,h2,h3⟩:=ew w1 r
  rw[h1] at h2
  cases h2
  exact h3
 | ret=>exact fun todo _ w1 r=>ew w1 r todo
 | goto l=>exact(ew w' (gG _ _)).elim
 | panic ch=>exact(ew w' (gG _ _)).elim
 | outgrown=>exact(ew w' (gG _ _)).elim
theorem qm {es:Array Event} (ts:Array TypeId) (t:TypeId) (k k':IntKind) (x y:Int):(Builtin.max_ ts t #[.int k x,.int k' y]).events P w es=es:=by
 simp[Builtin.max_,Builtin.max2]
theorem qj {es:Array Event} (ts:Array TypeId) (t:TypeId) (k k':IntKind) (x y:Int):(Builtin.min_ ts t #[.int k x,.int k' y]).events P w es=es:=by
 simp[Builtin.min_,Builtin.min2]
theorem di (C:KC P main K y8 Dm) {γ:Gm} {v:Value} (ho:ops[i]? = some o) (hw:Region.wanted o (yielded ops a.tmps)=true) (hrun:∀ w,(execOp a.eval o).run P w = .ok (.value v) w) (sU:∀ w,(execOp a.eval o).events P w #[]=#[])
  (h:KO K fn γ ops rest Q (a.put o.dst v) w):KO K fn γ ops (i::rest) Q a w :=
 vg C ho hw fun w₁ r=>by rw[hrun w₁]; exact⟨γ,by rw[listed_nil (sU w₁)]; exact C.idle _ _,Ee C r h⟩
theorem aj (C:KC P main K y8 Dm) {γ:Gm} {v:Value} (h:KO K fn γ ops rest Q (a.put o.dst v) w) (ho:ops[i]? = some o:=by rfl) (hw:Region.wanted o (yielded ops a.tmps)=true:=by rfl) (hrun:∀ w,(execOp a.eval o).run P w = .ok (.value v) w:=by exact fun w=>run_eq_of fun K hK=>(by go_simp; exact hK)) (sU:∀ w,(execOp a.eval o).events P w #[]=#[]:=by intro w; first | (simp[go_sem]; done) | (simp[go_sem, *]; done)):KO K fn γ ops (i::rest) Q a w:=di C ho hw hrun sU h
theorem H9 (C:KC P main K y8 Dm) (hp:p ≠ .ret) (ho:ops[i]? = some o) (hw:Region.wanted o (yielded ops a.tmps)=true)
  (h:∀ w₁,gU γ w w₁→∃ v w' s,(execOp a.eval o).run P w₁ = .ok (.value v) w'∧EL γ w₁ s w' (listed P fn a o w₁)∧KO K fn (p,s) ops rest Q (a.put o.dst v) w'):KO K fn (p,γ) ops (i::rest) Q a w :=
 vg C ho hw fun w₁ r=>by
  obtain⟨v,w',s,h1,h2,h3⟩:=h w₁ (Ri hp r)
  rw[h1]
  exact⟨(p,s),Zj hp h2,h3⟩
theorem nS (C:KC P main K y8 Dm) (hp:p ≠ .ret) {v:Value} (ho:ops[i]? = some o) (hw:Region.wanted o (yielded ops a.tmps)=true)
  (hrun:∀ w₁,gU γ w w₁→(execOp a.eval o).run P w₁ = .ok (.value v) w₁∧∀ e∈(execOp a.eval o).events P w₁ #[],RE γ.1 γ.2 e) (h:KO K fn (p,γ) ops rest Q (a.put o.dst v) w):KO K fn (p,γ) ops (i::rest) Q a w :=
 H9 C hp ho hw fun w₁ r=>⟨v,w₁,γ,(hrun w₁ r).1,⟨rfl,FJ fun e he=>(hrun w₁ r).2 e (mem_listed he)⟩,Ee C (by unfold y8; cases p<;>first | exact r | exact absurd rfl hp) h⟩
def So.more (γ:So) (n:Nat):So:=(γ.1,fun b=>γ.2 b∨b=n)
theorem SX (ob:Obj):EL γ w (γ.more w.heap.size) (w.alloc ob) #[]:=by
 have hsz:(w.alloc ob).heap.size=w.heap.size+1:=by simp
 refine⟨rfl,fun b => ?_,by omega,fun b hb _=>RowKit.Below.heap_alloc _ _ _ hb,rfl,rfl,rfl,by simp⟩
 show γ.2 b∨b=w.heap.size↔_
 rw[hsz]
 refine or_congr_right ?_
 omega
theorem DI (C:KC P main K y8 Dm) (hp:p ≠ .ret) {f:Nat→Value} {ob:Obj} (ho:ops[i]? = some o) (hw:Region.wanted o (yielded ops a.tmps)=true)
  (hrun:∀ w,(execOp a.eval o).run P w = .ok (.value (f w.heap.size)) (w.alloc ob)) (sU:∀ w,(execOp a.eval o).events P w #[]=#[])
  (h:∀ w₁,gU γ w w₁→KO K fn (p,γ.more w₁.heap.size) ops rest Q (a.put o.dst (f w₁.heap.size)) (w₁.alloc ob)):KO K fn (p,γ) ops (i::rest) Q a w :=
 H9 C hp ho hw fun w₁ r=>⟨_,_,_,hrun w₁,by rw[listed_nil (sU w₁)]; exact SX ob,h w₁ r⟩
theorem nU (C:KC P main K y8 Dm) (hp:p ≠ .ret) {ob:Obj} (ho:ops[i]? = some o) (hw:Region.wanted o (yielded ops a.tmps)=true)
  (hrun:∀ w,(execOp a.eval o).run P w = .ok (.value (.pointer (some ⟨w.heap.size,0,none⟩))) (w.alloc ob)) (sU:∀ w,(execOp a.eval o).events P w #[]=#[])
  (h:∀ w₁,gU γ w w₁→KO K fn (p,γ.more w₁.heap.size) ops rest Q (a.put o.dst (.pointer (some ⟨w₁.heap.size,0,none⟩))) (w₁.alloc ob)):KO K fn (p,γ) ops (i::rest) Q a w :=
 DI C hp (f:=fun n => .pointer (some ⟨n,0,none⟩)) ho hw hrun sU h
theorem OT (C:KC P main K y8 Dm) (hp:p ≠ .ret) {ob:Obj} {n:Nat} (ho:ops[i]? = some o) (hw:Region.wanted o (yielded ops a.tmps)=true)
  (hrun:∀ w,(execOp a.eval o).run P w = .ok (.value (.slice (some ⟨w.heap.size,0,none⟩) n n)) (w.alloc ob)) (sU:∀ w,(execOp a.eval o).events P w #[]=#[])
  (h:∀ w₁,gU γ w w₁→KO K fn (p,γ.more w₁.heap.size) ops rest Q (a.put o.dst (.slice (some ⟨w₁.heap.size,0,none⟩) n n)) (w₁.alloc ob)):KO K fn (p,γ) ops (i::rest) Q a w :=
 DI C hp (f:=fun m => .slice (some ⟨m,0,none⟩) n n) ho hw hrun sU h
theorem SV {ad:Addr} {v:Value} {es:Array Event} (hO:γ.2 ad.block) (hes:∀ e∈es,RE γ.1 γ.2 e):EL γ w γ (w.setCell ad v) es:=by
 have hsz:(w.setCell ad v).heap.size=w.heap.size:=World.size_setCell ..
 refine⟨rfl,fun b=>⟨.inl,fun h=>h.elim id fun h=>absurd h.2 (by omega)⟩,by omega,fun b _ hn => ?_,rfl,rfl,rfl,hes⟩
 exact heap_setCell_other _ _ _ _ (fun e=>hn (e▸hO))
theorem H8 (C:KC P main K y8 Dm) (hp:p ≠ .ret) {ad:Addr} {v:Value} (ho:ops[i]? = some o) (hw:Region.wanted o (yielded ops a.tmps)=true) (hO:γ.2 ad.block)
  (hrun:∀ w₁,gU γ w w₁→(execOp a.eval o).run P w₁ = .ok .skip (w₁.setCell ad v)∧∀ e∈(execOp a.eval o).events P w₁ #[],e=⟨.cell ad,true,false⟩)
  (h:∀ w₁,gU γ w w₁→KO K fn (p,γ) ops rest Q (a.put o.dst undef) (w₁.setCell ad v)):KO K fn (p,γ) ops (i::rest) Q a w :=
 vg C ho hw fun w₁ r=>by
  obtain⟨h1,h2⟩:=hrun w₁ (Ri hp r)
  rw[h1]
  refine⟨(p,γ),Zj hp (SV hO fun e he => ?_),h w₁ (Ri hp r)⟩
  rw[h2 e (mem_listed he)]
  exact .inl ⟨ad,true,false,rfl,fun _=>hO,.inr hO⟩
theorem mW {Γ:Type} {K:Γ→Goroutine→World→Prop} {Rl:Γ→World→World→Prop} {St:Γ→World→Γ→World→Array Event→Prop} {γ:Γ} {Q:Γ→Exit→Act→World→Prop} (C:KC P main K Rl St) {c:Code} (I:Nat→Γ→Act→World→Prop) {n:Nat} (h₀:I n γ a w)
  (round:∀ n γ a w,I n γ a w→KJ K fn γ c (fun γ'=>Exit.then (fun a' w'=>∃ m,m<n∧I m γ' a' w') (Q γ')) a w):KJ K fn γ (.loop c) Q a w:=by
 intro b k cs hb hk hc
 have key:∀ n γ a w,I n γ a w→K γ (G (b.at a (.code c :: .inLoop c::k)) cs) w:=by
  intro n
  induction n using Nat.strongRecOn with
  | ind n ih =>
   intro γ a w hI
   refine round n γ a w hI b (.inLoop c::k) cs hb hk fun γ' e a' w' q => ?_
   cases e with
   | normal =>
    obtain⟨m,hm,q⟩:=q
    exact C.go (fun _=>stepG_inLoop) (ih m hm γ' a' w' q)
   | exit id=>exact(hc _ _ _ _ q).push rfl (by simp)
   | ret=>exact yS.push (x := .inLoop c) rfl (by simp) (hc _ _ _ _ q)
   | goto l=>exact hc _ _ _ _ q
   | panic ch=>exact hc _ _ _ _ q
   | outgrown=>exact hc _ _ _ _ q
 exact C.go (fun _=>stepG_loop) (key n γ a w h₀)
theorem nj {F:(Nat→Value)→Act} (h:a=F fun n=>a.tmps.getD n undef):∃ u,a=F u:=⟨_,h⟩
theorem dG {N:Act→World→Prop} {R:Exit→Act→World→Prop} (h:N a w):Exit.then N R .normal a w:=h
def bn (γ:So) (w:World) (ad:Addr) (v:Value):Prop:=γ.all ad.block∧w.cell? ad=some v
theorem bn.rely {ad:Addr} {v:Value} {w1:World} (h:bn γ w ad v) (r:gU γ w w1):bn γ w1 ad v :=
 ⟨h.1,(World.cell?_of_block (r.2.1 ad.block h.1)).trans h.2⟩
theorem bn.lt {ad:Addr} {v:Value} (h:bn γ w ad v):ad.block<w.heap.size:=World.block_lt_of_cell? w ad h.2
theorem bn.alloc {ad:Addr} {v:Value} (h:bn γ w ad v) (n:Nat) (ob:Obj):bn (γ.more n) (w.alloc ob) ad v :=
 ⟨h.1.imp id .inl,(World.cell?_alloc_lt w ob ad h.lt).trans h.2⟩
theorem bn.put {ad Z2:Addr} {v v':Value} (h:bn γ w ad v) (hne:Z2≠ad):bn γ (w.setCell Z2 v') ad v :=
 ⟨h.1,(World.cell?_setCell_other w Z2 ad v' hne).trans h.2⟩
theorem bn.EJ {ad:Addr} {v:Value} (h:bn γ w ad v):RE γ.1 γ.2 ⟨.cell ad,false,false⟩ := .inl ⟨ad,false,false,rfl,fun h=>(by cases h),h.1⟩
theorem bn.fresh {w:World} {n j:Nat} {cs:Array Value} {t:TypeId} {v:Value} (hn:n=w.heap.size) (h:cs[j]? = some v):bn (γ.more n) (w.alloc (.cells cs t)) ⟨n,j,none⟩ v:=by
 subst hn
 exact⟨.inr (.inr rfl),by rw[World.cell?_alloc_new,h]⟩
theorem hU (C:KC P main K y8 Dm) (hp:p ≠ .ret) {v:Value} {ad:Addr} {x:Value} (hs:bn γ w ad x) (h:KO K fn (p,γ) ops rest Q (a.put o.dst v) w) (ho:ops[i]? = some o:=by rfl) (hw:Region.wanted o (yielded ops a.tmps)=true:=by rfl) (hrun:∀ w₁:World,w₁.cell? ad=some x→(execOp a.eval o).run P w₁ = .ok (.value v) w₁:=by exact fun w₁ hc=>run_eq_of fun K hK=>(by go_simp; exact hK)) (sU:∀ w₁:World,w₁.cell? ad=some x→RE γ.1 γ.2 ⟨.cell ad,false,false⟩→∀ e∈(execOp a.eval o).events P w₁ #[],RE γ.1 γ.2 e:=by intro w₁ hc hv e he; simp[go_sem,hc] at he; subst he; exact hv):KO K fn (p,γ) ops (i::rest) Q a w :=
 nS C hp ho hw (fun w₁ r=>⟨hrun w₁ (hs.rely r).2,sU w₁ (hs.rely r).2 (hs.rely r).EJ⟩) h
theorem bP {Γ:Type} {K:Γ→Goroutine→World→Prop} {Rl:Γ→World→World→Prop} {St:Γ→World→Γ→World→Array Event→Prop} {γ:Γ} {Q:Γ→Exit→Act→World→Prop} (C:KC P main K Rl St) {id:Nat} {L:List Nat} (h:KO K fn γ ops L Q a w) (hL:List.range ops.size=L:=by conv=>lhs; simp only[jP,List.length_cons,List.length_nil,Nat.reduceAdd,gQ,List.range,List.range.loop]):KJ K fn γ (.region id ops false) Q a w:=xm C (hL▸h)
def wm (γ:So) (w:World) (v:Value) (l:List Int):Prop:=∃ A cap,v = .slice A l.length cap∧∀ i x,l[i]? = some x→∃ ad,A=some ad∧bn γ w (ad.add i) (.int .i64 x)
theorem wm.rely {v:Value} {l:List Int} {w1:World} (h:wm γ w v l) (r:gU γ w w1):wm γ w1 v l:=by
 obtain⟨A,cap,rfl,h⟩:=h
 exact⟨A,cap,rfl,fun i x hx=>by obtain⟨ad,h1,h2⟩:=h i x hx; exact⟨ad,h1,h2.rely r⟩⟩
theorem wm.alloc {v:Value} {l:List Int} (h:wm γ w v l) (n:Nat) (ob:Obj):wm (γ.more n) (w.alloc ob) v l:=by
 obtain⟨A,cap,rfl,h⟩:=h
 exact⟨A,cap,rfl,fun i x hx=>by obtain⟨ad,h1,h2⟩:=h i x hx; exact⟨ad,h1,h2.alloc n ob⟩⟩
structure Kept (γ:So) (w:World) (γ':So) (w':World):Prop where
 shr:γ'.1=γ.1
 own:∀ b,γ.2 b→γ'.2 b
 blk:∀ b,γ.all b→b<w.heap.size→w'.heap[b]? = w.heap[b]?
 size:w.heap.size≤w'.heap.size
 env:w'.os=w.os∧w'.output=w.output
theorem Kept.all {γ':So} {w':World} (h:Kept γ w γ' w') {b:Nat} (hb:γ.all b):γ'.all b:=hb.imp (by rw[h.shr]; exact id) (h.own b)
theorem Kept.refl (γ:So) (w:World):Kept γ w γ w:=⟨rfl,fun _ h=>h,fun _ _ _=>rfl,ai _,rfl,rfl⟩
theorem Kept.trans {γ' γ'':So} {w' M5:World} (h:Kept γ w γ' w') (k:Kept γ' w' γ'' M5):Kept γ w γ'' M5 :=
 ⟨k.shr.trans h.shr,fun b hb=>k.own b (h.own b hb),fun b hb hlt=>(k.blk b (h.all hb) (cz hlt h.size)).trans (h.blk b hb hlt),bk h.size k.size,k.env.1.trans h.env.1,k.env.2.trans h.env.2⟩
theorem Kept.rely {w1:World} (r:gU γ w w1):Kept γ w γ w1:=⟨rfl,fun _ h=>h,fun b hb _=>r.2.1 b hb,r.1,r.2.2.2⟩
theorem Kept.alloc (γ:So) (w:World) (n:Nat) (ob:Obj):Kept γ w (γ.more n) (w.alloc ob):=⟨rfl,fun _ h => .inl h,fun b _ hlt=>RowKit.Below.heap_alloc _ _ _ hlt,by simp,rfl,rfl⟩
theorem Kept.sees {γ':So} {w':World} (h:Kept γ w γ' w') {ad:Addr} {v:Value} (s:bn γ w ad v):bn γ' w' ad v :=
 ⟨h.all s.1,(World.cell?_of_block (h.blk ad.block s.1 s.lt)).trans s.2⟩
theorem Kept.De {γ':So} {w':World} (h:Kept γ w γ' w') {v:Value} {l:List Int} (s:wm γ w v l):wm γ' w' v l:=by
 obtain⟨A,cap,rfl,s⟩:=s
 exact⟨A,cap,rfl,fun i x hx=>by obtain⟨ad,h1,h2⟩:=s i x hx; exact⟨ad,h1,h.sees h2⟩⟩
end Go.Co
end
section
namespace Go.Co
open Go Go.Conc
variable {P:Program} {aa:Machine→Trace→Prop} {fn:FuncId} {γ:So} {a:Act} {w:World} {ops:Array Oper} {i:Nat} {rest:List Nat} {o:Oper}
theorem GP (hP:Plain P) {b:Frame} {k:List Item} {cs:List Frame} (hk:b.kind ≠ .early) {f:FuncId} {args:Array Operand} {ats:Array TypeId} {R:Value→World→Prop}
  (ho:ops[i]? = some o) (hw:Region.wanted o (yielded ops a.tmps)=true) (hop:o.op = .call { callee := .value (.func f),args,argTypes:=ats }) {wj:Func} {c:Code} (hf:P.funcs[f]? = some wj) (hb:wj.body=some c)
  (kU:∀ τ,Calls P f (args.map a.eval) (w.re τ 0) fun e w'=>∃ v,e = .returned v∧R v w') (dU:∀ v w',R v w'→∀ τ d,gM P aa () (G (b.at (a.put o.dst v) (.inRegion ops rest::k)) cs) (w'.re τ d)):gM P aa () (G (b.at a (.inRegion ops (i::rest)::k)) cs) w:=by
 refine Ks hP fun _ τ => ?_
 obtain⟨e,w',fr,⟨v,rfl,hR⟩,Ie,Nr,jl⟩:=kU τ (b.at a (.inRegion ops (i::rest)::k)::cs)
 have abx:=dU v w' hR
 have uP:=hP.count f wj hf
 have hstep:step P (lone (b.at a (.inRegion ops (i::rest)::k)) cs (w.re τ 0)) = .next (lone (Frame.enter P f (args.map a.eval) .normal) (b.at a (.inRegion ops (i::rest)::k)::cs) (w.re τ 0)):=by
  refine step_lone_go ?_
  have:=goes_call (P:=P) (main:=true) (b:=b) (k:=k) (cs:=cs) (w:=w.re τ 0) (K:=fun g w' es=>g=G ((base f).at { tmps:=args.map a.eval++Array.replicate (wj.ntmps-(args.map a.eval).size) undef,defers:=[] } [.code c]) (b.at a (.inRegion ops (i::rest)::k)::cs)∧w'=w.re τ 0∧es=#[]) ho hw hk hop hf uP hb ⟨rfl,rfl,rfl⟩
  obtain⟨g',w2,es,e1,e2,e3,e4⟩:=goes_elim this
  subst e2 e3 e4
  have Ic:Frame.enter P f (args.map a.eval) .normal=(base f).at { tmps:=args.map a.eval++Array.replicate (wj.ntmps-(args.map a.eval).size) undef,defers:=[] } [.code c]:=by
   simp[Frame.enter,Frame.at,hf,hb,base]
  rw[Ic]
  show (stepG P true (G (b.at a (.inRegion ops (i::rest)::k)) cs) (w.re τ 0)).bare=_
  rw[e1]
  rfl
 have Ot:step P (lone fr (b.at a (.inRegion ops (i::rest)::k)::cs) w') = .next (lone (b.at (a.put o.dst v) (.inRegion ops rest::k)) cs w'):=by
  rw[step_leave_returned jl,Frame.finish_at,ho]
  rfl
 have Yj:Steps P (lone (b.at a (.inRegion ops (i::rest)::k)) cs (w.re τ 0)) (lone (b.at (a.put o.dst v) (.inRegion ops rest::k)) cs w') :=
  (Steps.one hstep).trans (Steps.trans Ie (Steps.one Ot))
 obtain⟨n,hn⟩:=Yj
 exact⟨n,_,w',hn,rfl,rfl,fun τ d=>abx τ d⟩
theorem TH (hP:Plain P) {Q:Unit→Exit→Act→World→Prop} {f:FuncId} {args:Array Operand} {ats:Array TypeId} {R:Value→World→Prop}
  (ho:ops[i]? = some o) (hw:Region.wanted o (yielded ops a.tmps)=true) (hop:o.op = .call { callee := .value (.func f),args,argTypes:=ats }) {wj:Func} {c:Code} (hf:P.funcs[f]? = some wj) (hb:wj.body=some c)
  (kU:∀ τ,Calls P f (args.map a.eval) (w.re τ 0) fun e w'=>∃ v,e = .returned v∧R v w') (dU:∀ v w',R v w'→∀ τ d,KO (gM P aa) fn () ops rest Q (a.put o.dst v) (w'.re τ d)):KO (gM P aa) fn () ops (i::rest) Q a w :=
 fun b k cs hbf hk hc=>GP hP hk ho hw hop hf hb kU fun v w' hR τ d=>dU v w' hR τ d b k cs hbf hk hc
theorem IU {f:FuncId} {args:Array Value} {Post:Gm→Value→World→Prop} {Post':Value→World→Prop} (hq:∀ γ' v w w1,Post γ' v w→γ'.1 = .bad→gU γ'.2 w w1→Post' v w1)
  (h:uX (Lj P aa) P (.bad,γ) f args w (fun γ' v w=>γ'.1 = .bad∧Post γ' v w)):uX (gM P aa) P () f args w (fun _=>Post'):=by
 obtain⟨wj,c,h1,h2,h3,h4⟩:=h
 refine⟨wj,c,h1,h2,h3,?_⟩
 refine TU (Q:=fun γ'=>JF P wj Post γ') (fun γ' e a w w1 q r hb => ?_) (vh h4 fun γ' e a w q => ?_)
 ·cases e with
  | normal =>
   obtain⟨hd,v,hr,hp⟩:=q
   exact⟨hd,v,hr,hq _ _ _ _ hp hb r⟩
  | ret =>
   obtain⟨hd,v,hr,hp⟩:=q
   exact⟨hd,v,hr,hq _ _ _ _ hp hb r⟩
  | exit id=>exact q
  | goto l=>exact q
  | panic ch=>exact q
  | outgrown=>exact q
 ·cases e with
  | normal =>
   obtain⟨hd,v,hr,hb,hp⟩:=q
   exact⟨hb,hd,v,hr,hp⟩
  | ret =>
   obtain⟨hd,v,hr,hb,hp⟩:=q
   exact⟨hb,hd,v,hr,hp⟩
  | exit id=>exact q.elim
  | goto l=>exact q.elim
  | panic ch=>exact q.elim
  | outgrown=>exact q.elim
end Go.Co
end
section
namespace Go.Di
open Go Go.Conc Go.Co
variable {P:Program} {aa:Machine→Trace→Prop} {ty:fI} {x:Cx} {aI:bM} {call:bz} {yf:eE}
theorem gP (hP:Plain P) {fr:Frame} {cs:List Frame} {w:World} (h:∀ d,∃ fr' iB w' es,stepG P true (G fr cs) (w.at d) = .go (G fr' iB) w' es∧gM P aa () (G fr' iB) w'):gM P aa () (G fr cs) w :=
 (vk hP).step () fr cs w fun w1 h1=>by
  obtain⟨d,rfl⟩:=h1
  obtain⟨fr',iB,w',es,e,hk⟩:=h d
  exact⟨fr',iB,w',es,(),e,trivial,hk⟩
theorem Fc {g:Goroutine} {w:World} (h:gM P aa () g w) (d:Nat):gM P aa () g (w.at d):=fun d'=>h d'
theorem eH (hP:Plain P) {fr fr':Frame} {cs iB:List Frame} {w:World} (h:∀ w,∃ es,stepG P true (G fr cs) w = .go (G fr' iB) w es) (hk:gM P aa () (G fr' iB) w):gM P aa () (G fr cs) w :=
 gP hP fun d=>by
  obtain⟨es,e⟩:=h (w.at d)
  exact⟨fr',iB,_,es,e,Fc hk d⟩
section abg
variable {b:Frame} {a:Act} {k:List Item} {cs:List Frame} {w:World}
theorem Tk:stepG P true (G (b.atR a (.code .skip::k)) cs) w = .go (G (b.atR a k) cs) w #[]:=by simp[G,stepG,stepG.exec,Frame.atR]
theorem PY {l:Nat}:stepG P true (G (b.atR a (.code (.label l)::k)) cs) w = .go (G (b.atR a k) cs) w #[]:=by simp[G,stepG,stepG.exec,Frame.atR]
theorem ID {id:Nat}:stepG P true (G (b.atR a (.inBlock id::k)) cs) w = .go (G (b.atR a k) cs) w #[]:=by simp[G,stepG,stepG.exec,Frame.atR]
theorem IC {c:Code}:stepG P true (G (b.atR a (.inScope c::k)) cs) w = .go (G (b.atR a k) cs) w #[]:=by simp[G,stepG,stepG.exec,Frame.atR]
theorem XZ {x y:Code}:stepG P true (G (b.atR a (.code (.seq x y)::k)) cs) w = .go (G (b.atR a (.code x :: .code y::k)) cs) w #[]:=by simp[G,stepG,stepG.exec,Frame.atR]
theorem J4 {c:Operand} {x y:Code} {t:Bool} (h:a.eval c = .bool t):stepG P true (G (b.atR a (.code (.cond c x y)::k)) cs) w = .go (G (b.atR a (.code (if t then x else y)::k)) cs) w #[]:=by
 have:=congrFun (Frame.eval_atR b a (.code (.cond c x y)::k)) c
 simp only[Frame.atR] at this
 simp[G,stepG,stepG.exec,Frame.atR,this,h]
theorem PZ {id:Nat} {c:Code}:stepG P true (G (b.atR a (.code (.block id c)::k)) cs) w = .go (G (b.atR a (.code c :: .inBlock id::k)) cs) w #[]:=by simp[G,stepG,stepG.exec,Frame.atR]
theorem PW {c:Code}:stepG P true (G (b.atR a (.code (.scope c)::k)) cs) w = .go (G (b.atR a (.code c :: .inScope c::k)) cs) w #[]:=by simp[G,stepG,stepG.exec,Frame.atR]
theorem Tl {c:Code}:stepG P true (G (b.atR a (.code (.loop c)::k)) cs) w = .go (G (b.atR a (.code c :: .inLoop c::k)) cs) w #[]:=by simp[G,stepG,stepG.exec,Frame.atR]
theorem LV {c:Code}:stepG P true (G (b.atR a (.inLoop c::k)) cs) w = .go (G (b.atR a (.code c :: .inLoop c::k)) cs) w #[]:=by simp[G,stepG,stepG.exec,Frame.atR]
theorem Tn {id:Nat} {k':List Item} (h:exitTo id k=some k'):stepG P true (G (b.atR a (.code (.exit id)::k)) cs) w = .go (G (b.atR a k') cs) w #[]:=by simp[G,stepG,stepG.exec,Frame.atR,h]
theorem LU {id:Nat} {ops:Array Oper}:stepG P true (G (b.atR a (.code (.region id ops false)::k)) cs) w = .go (G (b.atR a (.inRegion ops (List.range ops.size)::k)) cs) w #[]:=by simp[G,stepG,stepG.exec,Frame.atR]
theorem IB {id:Nat} {ops:Array Oper} (hm:P.follows .mixedOrders=true):stepG P true (G (b.atR a (.code (.region id ops true)::k)) cs) w = .go (G (b.atR a (.inRegion ops (Region.linearise .any ops (w.tape w.drawn (.order b.fn id)))::k)) cs) (w.at (w.drawn+1)) #[]:=by
 simp[G,stepG,stepG.exec,Frame.atR,choose,Sem.run,Question.forced,Question.cut,Region.schedule,hm,World.at]
theorem nX {ops:Array Oper}:stepG P true (G (b.atR a (.inRegion ops []::k)) cs) w = .go (G (b.atR a k) cs) w #[]:=by simp[G,stepG,stepG.exec,Frame.atR]
def Kh (o:Op):Bool:=match o with | .defer _=>false | _=>true
theorem D7 {ops:Array Oper} {i:Nat} {rest:List Nat} {o:Oper} (ho:ops[i]? = some o) (hw:Region.wanted o (yielded ops a.tmps)=true) (hd:Kh o.op=true) :
  stepG P true (G (b.atR a (.inRegion ops (i::rest)::k)) cs) w=stepG.apply P true (b.atR a (.inRegion ops (i::rest)::k)) cs none (execOp a.eval o) w:=by
 have he:=Frame.eval_atR b a (.inRegion ops (i::rest)::k)
 simp only[Frame.atR] at he
 have h1:stepG P true (G (b.atR a (.inRegion ops (i::rest)::k)) cs) w=stepG.oper P true (b.atR a (.inRegion ops (i::rest)::k)) cs none w:=by
  simp[G,stepG,stepG.exec,Frame.atR,ho,hw]
 rw[h1]
 unfold stepG.oper
 have hop:(b.atR a (.inRegion ops (i::rest)::k)).oper? = some o:=by simp[Frame.oper?,Frame.atR,ho]
 simp only[hop]
 have sU:(b.atR a (.inRegion ops (i::rest)::k)).eval=a.eval:=Frame.eval_atR b a _
 split
 ·rename_i l c h2 h3
  rw[h3] at hd
  cases hd
 ·rw[sU]
theorem rm {ops:Array Oper} {i:Nat} {rest:List Nat} {o:Oper} (ho:ops[i]? = some o) (hw:Region.wanted o (yielded ops a.tmps)=false) :
  stepG P true (G (b.atR a (.inRegion ops (i::rest)::k)) cs) w = .go (G (b.atR (a.put o.dst undef) (.inRegion ops rest::k)) cs) w #[]:=by
 have hf:=Frame.finish_atR b a ops i rest k undef
 simp only[ho,Option.bind_some] at hf
 rw[← hf]
 simp[G,stepG,stepG.exec,Frame.atR,ho,hw]
end abg
theorem Ml (hP:Plain P) {b:Frame} {a:Act} {k:List Item} {cs:List Frame} {ops:Array Oper} {i:Nat} {rest:List Nat} {o:Oper} {d:DV} {S':ak} (hk:b.kind ≠ .early)
  (ho:ops[i]? = some o) (hw:Region.wanted o (yielded ops a.tmps)=true) (hd:Kh o.op=true) (hy:∀ n,Yields (x.dr n) ((execOp a.eval o).run P (x.w.at n)) d S')
  (dU:∀ y v,y.S=S'→Rel y→bE x y→RV y d v→gM P aa () (G (b.atR (a.put o.dst v) (.inRegion ops rest::k)) cs) y.w):gM P aa () (G (b.atR a (.inRegion ops (i::rest)::k)) cs) x.w:=by
 refine gP hP fun n => ?_
 obtain⟨v,y,h1,h2,h3,h4,h5⟩:=hy n
 have hf:=Frame.finish_atR b a ops i rest k
 simp only[ho,Option.bind_some] at hf
 have sS:(b.kind==CallKind.early)=false:=by simpa using hk
 rw[D7 ho hw hd]
 rcases h1 with h1 | ⟨h1,rfl⟩
 ·refine⟨b.atR (a.put o.dst v) (.inRegion ops rest::k),cs,y.w,seen P b.fn ((execOp a.eval o).events P (x.w.at n) #[]),?_,dU y v h2 h3 ((ej x n).trans h4) h5⟩
  rw[← hf]
  simp[stepG.apply,h1,G,Frame.atR,sS,GStep.after]
 ·refine⟨b.atR (a.put o.dst undef) (.inRegion ops rest::k),cs,y.w,seen P b.fn ((execOp a.eval o).events P (x.w.at n) #[]),?_,dU y undef h2 h3 ((ej x n).trans h4) h5⟩
  rw[← hf]
  simp[stepG.apply,h1,G,Frame.atR,sS,GStep.after]
end Go.Di
end
section
namespace Go.Di
open Go Go.Conc Go.Co
variable {P:Program} {aa:Machine→Trace→Prop} {ty:fI} {x:Cx} {aI:bM} {call:bz} {yf:eE}
theorem tO {env:List DV} {a:Act} (h:fR x env a.tmps):uL x (gX env) a.eval:=by
 intro o d ho
 cases o with
 | tmp t =>
  simp only[gX,az] at ho
  subst ho
  by_cases ht:t<env.length
  ·have:=h.2 t env[t] (bV ht)
   simpa [Act.eval,aO,ht] using this
  ·have h1:env[t]? = none:=eS (Nat.le_of_not_lt ht)
   have h2:a.tmps[t]? = none:=jR (by rw[h.1]; exact Nat.le_of_not_lt ht)
   have:a.eval (.tmp t)=undef:=by simp[Act.eval,aT,h2]
   rw[this,aO,h1]
   exact .val rfl
 | const v=>exact vz ho
 | func f =>
  simp only[gX,az] at ho
  subst ho
  exact .fn rfl rfl (by simp) (by simp)
 | global g=>cases ho
theorem JW {env:List DV} {arr:Array Value} (h:fR x env arr) {t:Nat} {d:DV} {v:Value} (hd:RV x d v):fR x (env.set t d) (arr.setIfInBounds t v):=by
 refine⟨by simpa using h.1,fun j c hc => ?_⟩
 rw[aK] at hc
 by_cases hj:t=j
 ·subst hj
  rw[if_pos rfl] at hc
  split at hc
  ·rename_i hlt
   simp only[az] at hc
   subst hc
   have:t<arr.size:=by rw[h.1]; exact hlt
   simpa [aT,this] using hd
  ·cases hc
 ·rw[if_neg hj] at hc
  have:=h.2 j c hc
  simpa [aT,Array.getElem?_setIfInBounds,hj] using this
theorem wD {env:List DV} {a:Act} (h:fR x env a.tmps) {dst:Option Tmp} {d:DV} {v:Value} (hd:RV x d v):fR x (iM env dst d) (a.put dst v).tmps∧(a.put dst v).defers=a.defers:=by
 cases dst with
 | none=>exact⟨h,rfl⟩
 | some t=>exact⟨JW h hd,rfl⟩
theorem wP {env:List DV} {a:Act} (h:fR x env a.tmps) (ops:Array Oper) (o:Oper):Region.wanted o (yielded ops a.tmps)=bQ ops env o:=by
 unfold Region.wanted bQ
 cases o.guard with
 | none=>rfl
 | some g =>
  obtain⟨j,want⟩:=g
  simp only[yielded]
  cases hb:(ops[j]?).bind (·.dst) with
  | none=>rfl
  | some t =>
   simp only[Option.bind_some]
   by_cases ht:t<env.length
   ·have h1:=bV ht
    have hr:=h.2 t env[t] h1
    have h2:t<a.tmps.size:=by rw[h.1]; exact ht
    rw[h1,bL h2]
    simp only[aT,bL h2,Option.getD_some] at hr
    generalize env[t]=d at hr
    generalize a.tmps[t]=v at hr
    cases hr with
    | @val v hv=>cases v<;>first | rfl | (simp only; cases want<;>rfl) | (rename_i b; cases b<;>cases want<;>rfl)
    | _=>cases want<;>rfl
   ·rw[eS (Nat.le_of_not_lt ht),jR (by rw[h.1]; exact Nat.le_of_not_lt ht)]
    cases want<;>rfl
def er (P:Program) (aa:Machine→Trace→Prop) (x:Cx) (g:FuncId) (vals:Array Value) (Post:Cx→Value→Prop):Prop :=
 (∃ fn c,P.funcs[g]? = some fn∧fn.body=some c)∧∀ (fr:Frame) (cs:List Frame),(∀ y v,Post y v→gM P aa () (G (fr.finish v) cs) y.w)→gM P aa () (G (Frame.enter P g vals .normal) (fr::cs)) x.w
theorem er.mono {g:FuncId} {vals:Array Value} {Post Post':Cx→Value→Prop} (h:er P aa x g vals Post) (hp:∀ y v,Post y v→Post' y v):er P aa x g vals Post' :=
 ⟨h.1,fun fr cs hc=>h.2 fr cs fun y v p=>hc y v (hp y v p)⟩
theorem er.at {g:FuncId} {vals:Array Value} {Post:Cx→Value→Prop} (h:er P aa x g vals Post) (n:Nat):er P aa (x.dr n) g vals Post :=
 ⟨h.1,fun fr cs hc=>Fc (h.2 fr cs hc) n⟩
def gL (P:Program) (aa:Machine→Trace→Prop) (call:bz):Prop :=
 ∀ f args S v S',call f args S=some (v,S')→∀ x vals,Rel x→x.S=S→fR x args vals→er P aa x f vals fun y u=>y.S=S'∧Rel y∧bE x y∧RV y v u
def xZ (P:Program) (aa:Machine→Trace→Prop) (aI:bM):Prop :=
 ∀ f args v,aI f args=some v→args.all DV.pure=true→v.pure=true∧∀ x vals,Rel x→fR x args vals→er P aa x f vals fun y u=>y.S=x.S∧Rel y∧bE x y∧RV y v u
def xY (P:Program) (aa:Machine→Trace→Prop) (yf:eE):Prop :=
 ∀ id args S v S',yf id args S=some (v,S')→∀ x vals,Rel x→x.S=S→fR x args vals→∃ lo:Loop,x.w.heap[x.μ id]? = some (.loop lo)∧vals.size=lo.params.size ∧
  ∀ (fr:Frame) (cs:List Frame),(∀ y u,(y.S=S'∧Rel y∧bE x y∧RV y v u)→gM P aa () (G (fr.finish u) cs) y.w)→gM P aa () (G (Frame.round (x.μ id) lo.fn ((lo.params.zip vals).foldl (fun tmps (t,a)=>tmps.setIfInBounds t a) lo.tmps) lo.assign lo.body .normal) (fr::cs)) x.w
theorem QL (hc:gL P aa call) (hi:xZ P aa aI) {g:FuncId} {args:List DV} {S S':ak} {v:DV} (h:uU aI call g args S=some (v,S')) {vals:Array Value} (hR:Rel x) (hS:x.S=S) (ha:fR x args vals) :
  er P aa x g vals fun y u=>y.S=S'∧Rel y∧bE x y∧RV y v u:=by
 unfold uU at h
 split at h
 ·rename_i hp
  split at h
  ·rename_i v' h1
   cases h
   subst hS
   refine(hi _ _ _ h1 hp).2 x vals hR ⟨by simpa using ha.1,fun j c hj => ?_⟩
   simp only[en,ah] at hj
   obtain⟨c',h2,rfl⟩:=hj
   exact(ha.2 j c' h2).strip
  ·exact hc _ _ _ _ _ h x vals hR hS ha
 ·exact hc _ _ _ _ _ h x vals hR hS ha
theorem kA {l m:List DV} {a b:Array Value} (h:fR x l a) (k:fR x m b):fR x (l++m) (a++b):=by
 refine⟨by simp[h.1,k.1],fun j c hc => ?_⟩
 simp only[aT]
 by_cases hj:j<l.length
 ·rw[ep hj] at hc
  rw[vr (by rw[h.1]; exact hj)]
  simpa [aT] using h.2 j c hc
 ·rw[fQ (by omega)] at hc
  rw[vt (by rw[h.1]; omega),h.1]
  simpa [aT] using k.2 _ c hc
theorem F6 (hP:Plain P) {b:Frame} {a:Act} {k:List Item} {cs:List Frame} {ops:Array Oper} {i:Nat} {rest:List Nat} {o:Oper} {g:FuncId} {fs vs:Array Value} {c:Call} {f:Operand} {Post:Cx→Value→Prop} (hk:b.kind ≠ .early)
  (ho:ops[i]? = some o) (hw:Region.wanted o (yielded ops a.tmps)=true) (hop:o.op = .call c) (W6:c.callee = .value f) (hf:a.eval f = .func (.func g) fs vs) (he:er P aa x g (fs++c.args.map a.eval++vs) Post)
  (dU:∀ y v,Post y v→gM P aa () (G (b.atR (a.put o.dst v) (.inRegion ops rest::k)) cs) y.w):gM P aa () (G (b.atR a (.inRegion ops (i::rest)::k)) cs) x.w:=by
 refine gP hP fun n => ?_
 have tE:=Frame.finish_atR b a ops i rest k
 simp only[ho,Option.bind_some] at tE
 have sS:(b.kind==CallKind.early)=false:=by simpa using hk
 rw[D7 ho hw (by rw[hop]; rfl)]
 obtain⟨⟨fn,cd,h1,h2⟩,h3⟩:=he
 have uP:=hP.count g fn h1
 have hrun:(execOp a.eval o).run P (x.w.at n) = .ok (.enter g (fs++c.args.map a.eval++vs)) (x.w.at n):=by
  unfold execOp
  simp only[hop,resolve,W6,hf,Deferred.ofValue,Sem.run_bind,Sem.run_pure,Result.andThen_ok,invoke,callFunc,run_program,h1,uP,aD,if_false,h2,Option.isNone_some]
 refine⟨Frame.enter P g (fs++c.args.map a.eval++vs) .normal,b.atR a (.inRegion ops (i::rest)::k)::cs,x.w.at n,seen P b.fn ((execOp a.eval o).events P (x.w.at n) #[]),?_,Fc (h3 _ cs fun y v hp => ?_) n⟩
 ·simp[stepG.apply,hrun,G,Frame.atR,sS,GStep.after]
 ·rw[tE]
  exact dU y v hp
theorem Ql (hP:Plain P) {b:Frame} {a:Act} {k:List Item} {cs:List Frame} {ops:Array Oper} {i:Nat} {rest:List Nat} {o:Oper} {l:Nat} {lo:Loop} {c:Call} {f:Operand} {Post:Cx→Value→Prop} (hk:b.kind ≠ .early)
  (ho:ops[i]? = some o) (hw:Region.wanted o (yielded ops a.tmps)=true) (hop:o.op = .call c) (W6:c.callee = .value f) (hf:a.eval f = .func (.yield l) #[] #[]) (hl:x.w.heap[l]? = some (.loop lo)) (hsz:(c.args.map a.eval).size=lo.params.size)
  (he:∀ (fr:Frame) (cs:List Frame),(∀ y u,Post y u→gM P aa () (G (fr.finish u) cs) y.w)→gM P aa () (G (Frame.round l lo.fn ((lo.params.zip (c.args.map a.eval)).foldl (fun tmps (t,a)=>tmps.setIfInBounds t a) lo.tmps) lo.assign lo.body .normal) (fr::cs)) x.w)
  (dU:∀ y v,Post y v→gM P aa () (G (b.atR (a.put o.dst v) (.inRegion ops rest::k)) cs) y.w):gM P aa () (G (b.atR a (.inRegion ops (i::rest)::k)) cs) x.w:=by
 refine gP hP fun n => ?_
 have tE:=Frame.finish_atR b a ops i rest k
 simp only[ho,Option.bind_some] at tE
 have sS:(b.kind==CallKind.early)=false:=by simpa using hk
 rw[D7 ho hw (by rw[hop]; rfl)]
 have hg:=ir (P:=P) (w:=x.w.at n) (show (x.w.at n).heap[l]? = some (.loop lo) from hl) (by simp)
 have hrun:(execOp a.eval o).run P (x.w.at n) = .ok (.round l lo.fn ((lo.params.zip (c.args.map a.eval)).foldl (fun tmps (t,a)=>tmps.setIfInBounds t a) lo.tmps) lo.assign lo.body) (x.w.at n):=by
  have hne:¬ ((#[]++c.args.map a.eval).size≠lo.params.size):=by simpa using hsz
  unfold execOp
  simp only[hop,resolve,W6,hf,Deferred.ofValue,Sem.run_bind,Sem.run_pure,Result.andThen_ok,invoke,Instr.yield,Instr.getLoop,hg,if_neg hne]
  simp
 refine⟨Frame.round l lo.fn _ lo.assign lo.body .normal,b.atR a (.inRegion ops (i::rest)::k)::cs,x.w.at n,seen P b.fn ((execOp a.eval o).events P (x.w.at n) #[]),?_,Fc (he _ cs fun y v hp => ?_) n⟩
 ·simp[stepG.apply,hrun,G,Frame.atR,sS,GStep.after]
 ·rw[tE]
  exact dU y v hp
theorem Oa (hP:Plain P) (ee:iO P ty) (hc:gL P aa call) (hi:xZ P aa aI) (Hq:xY P aa yf) {b:Frame} {a:Act} {k:List Item} {cs:List Frame} {ops:Array Oper} {i:Nat} {rest:List Nat} {o:Oper} {d:DV} {S':ak} {env:List DV} {ay:Nat} (hk:b.kind ≠ .early)
  (ho:ops[i]? = some o) (hw:Region.wanted o (yielded ops a.tmps)=true) (hR:Rel x) (hn:Bw x.S ay) (he:fR x env a.tmps) (h:af P ty aI call yf (gX env) o x.S ay=some (d,S'))
  (dU:∀ y v,y.S=S'→Rel y→bE x y→RV y d v→gM P aa () (G (b.atR (a.put o.dst v) (.inRegion ops rest::k)) cs) y.w):gM P aa () (G (b.atR a (.inRegion ops (i::rest)::k)) cs) x.w:=by
 by_cases hl:Op.lone o.op=true
 ·refine Ml hP hk ho hw ?_ (fun n=>LC ee (hR.dr n) hn (tO (he.mono (ej x n))) hl h) dU
  cases hop:o.op<;>first | rfl | (simp[af,hop] at h)
 ·obtain⟨c,hop⟩:∃ c,o.op = .call c:=by
   cases hop:o.op<;>first | (exact⟨_,rfl⟩) | (exact absurd (by rw[hop]; rfl) hl)
  obtain⟨callee,args,ats⟩:=c
  cases callee with
  | builtin bi=>exact absurd (by rw[hop]; rfl) hl
  | invoke r m=>simp[af,hop] at h
  | value f =>
   simp only[af,hop] at h
   have sU:=tO he
   split at h
   ·rename_i g fs iB xs hf MN
    have UL:=sU f _ hf
    have lI:=tN sU MN
    generalize hv:a.eval f=vf at UL
    cases UL with
    | @fn _ _ _ vfs vcs h1 h2 h3 h4 =>
     have ew:fR x (fs++xs++iB) (vfs++args.map a.eval++vcs):=by
      have e:(args.toList.map a.eval).toArray=args.map a.eval:=Array.toList_inj.1 (by simp)
      rw[e] at lI
      exact kA (kA ⟨h1,h3⟩ lI) ⟨h2,h4⟩
     split at h
     ·exact F6 hP hk ho hw hop rfl hv (hc _ _ _ _ _ h x _ hR rfl ew) fun y v hp=>dU y v hp.1 hp.2.1 hp.2.2.1 hp.2.2.2
     ·exact F6 hP hk ho hw hop rfl hv (QL hc hi h hR rfl ew) fun y v hp=>dU y v hp.1 hp.2.1 hp.2.2.1 hp.2.2.2
   ·rename_i id xs hf MN
    have UL:=sU f _ hf
    have lI:=tN sU MN
    generalize hv:a.eval f=vf at UL
    cases UL with
    | zx hS =>
     have e:(args.toList.map a.eval).toArray=args.map a.eval:=Array.toList_inj.1 (by simp)
     rw[e] at lI
     obtain⟨lo,q1,q2,q3⟩:=Hq _ _ _ _ _ h x _ hR rfl lI
     exact Ql hP hk ho hw hop rfl hv q1 q2 q3 fun y v hp=>dU y v hp.1 hp.2.1 hp.2.2.1 hp.2.2.2
   ·cases h
theorem D3 (hP:Plain P) (ee:iO P ty) (hc:gL P aa call) (hi:xZ P aa aI) (Hq:xY P aa yf) {ops:Array Oper} {b:Frame} {k:List Item} {cs:List Frame} (hk:b.kind ≠ .early) :
  ∀ (r pre:List Oper),ops.toList=pre++r→∀ {env aC:List DV} {S':ak} {a:Act} {x:Cx},Dr P ty aI call yf ops r env x.S=some (aC,S')→Rel x→fR x env a.tmps →
   (∀ y a',y.S=S'→Rel y→bE x y→fR y aC a'.tmps→a'.defers=a.defers→gM P aa () (G (b.atR a' k) cs) y.w)→gM P aa () (G (b.atR a (.inRegion ops (List.range' pre.length r.length)::k)) cs) x.w
 | [],pre,_,env,aC,S',a,x,h,hR,he,hn=>by
  simp only[Dr,az,av] at h
  obtain⟨rfl,rfl⟩:=h
  exact eH hP (fun w=>⟨_,nX⟩) (hn x a rfl hR (bE.refl x) he rfl)
 | o::r,pre,Dv,env,aC,S',a,x,h,hR,he,hn=>by
  have ho:ops[pre.length]? = some o:=by
   rw[← gy,Dv]
   simp
  have Vw:ops.toList=(pre++[o])++r:=by rw[Dv]; simp
  have hlen:(pre++[o]).length=pre.length+1:=by simp
  simp only[List.length_cons,List.range'_succ]
  unfold Dr at h
  have QW:=wP he ops o
  by_cases hw:bQ ops env o=true
  ·rw[if_pos hw] at h
   rw[hw] at QW
   obtain⟨x1,k1,k2,k3,k4,k5⟩:=X2 (ty:=ty) o hR he
   rw[← k1]
   split at h
   rename_i nR S0 uF
   rw[uF] at k2 k5
   dsimp only at k2 k5
   subst k2
   split at h
   ·rename_i v S1 h1
    refine Oa hP ee hc hi Hq hk ho QW k3 (.inl rfl) k5 h1 fun y u hyS hyR UD hyV => ?_
    subst hyS
    have mE:=wD (k5.mono UD) (dst:=o.dst) hyV
    have:=D3 hP ee hc hi Hq hk r (pre++[o]) Vw h hyR mE.1 fun z a' z1 z2 z3 z4 z5=>hn z a' z1 z2 (k4.trans (UD.trans z3)) z4 (z5.trans mE.2)
    rw[hlen] at this
    exact this
   ·cases h
  ·rw[if_neg hw] at h
   have V2:bQ ops env o=false:=by simpa using hw
   rw[V2] at QW
   refine eH hP (fun w=>⟨_,rm ho QW⟩) ?_
   have mE:=wD he (dst:=o.dst) (d:=aX) (v:=undef) (.val rfl)
   have:=D3 hP ee hc hi Hq hk r (pre++[o]) Vw h hR mE.1 fun z a' z1 z2 z3 z4 z5=>hn z a' z1 z2 z3 z4 (z5.trans mE.2)
   rw[hlen] at this
   exact this
end Go.Di
end
