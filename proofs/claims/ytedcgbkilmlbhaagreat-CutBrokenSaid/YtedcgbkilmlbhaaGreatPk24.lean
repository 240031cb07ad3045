import Derived.Test.YtedcgbkilmlbhaaGreatPk23
import Derived.Conc.CompanyMem
import Derived.Conc.AppendWalk
import Derived.Laws.AppendOwn
import Derived.Below
import Derived.Test.YtedcgbkilmlbhaaGreatPk17
import Derived.AtR
import Derived.RangeFuncIn
section
namespace Go.Co
open Go Go.Conc
open Go.ConcN (sumTo upd upd_same upd_ne)
variable {P:Program} {af:Machine→Trace→Prop} {Cs:Nat→Prop}
def vN (n:Nat) (rk:Nat→Tr):List Tr:=(List.range n).map rk
theorem J4 {n i:Nat} {rk:Nat→Tr} {r:Tr} (hi:i<n):vN n (upd rk i r)=(vN n rk).set i r:=by
 apply List.ext_getElem?
 intro j
 unfold vN
 rw[List.getElem?_set]
 by_cases hj:i=j
 ·subst hj
  simp[hi,upd_same]
 ·by_cases jM:j<n
  ·simp[hj,jM,upd_ne _ _ (Ne.symm hj)]
  ·simp[hj,jM]
theorem tV {n i:Nat} {rk:Nat→Tr} {r:Tr} (hi:i<n) (h:U6 r (rk i)):LLt (vN n (upd rk i r)) (vN n rk):=by
 rw[J4 hi]
 exact .mk _ i (rk i) r (by simp[vN,hi]) h
variable {N:Net} {γ:Nat→So} {rk:Nat→Tr} {tp:Nat} {gs:Array Goroutine} {w:World} {t:Trace}
theorem tF (h:sO P af Cs N γ rk tp gs w t) {i:Nat} (hi:i<N.n):∃ g,gs[i]? = some g:=by
 have:i<gs.size:=by rw[h.size]; exact hi
 exact⟨gs[i],Array.getElem?_eq_getElem this⟩
theorem NY (h:sO P af Cs N γ rk tp gs w t)
  (hen:(∃ i j c v k ok z k',i<N.n∧j<N.n∧N.pr i = .send c v k∧N.pr j = .recv c ok z k')∨(∃ i c k,i<N.n∧N.pr i = .close c k)∨(∃ j c ok z k E,j<N.n∧N.pr j = .recv c ok z k∧N.cl c=some E)∨(∃ i ch k,i<N.n∧N.pr i = .go ch k)) :
  ∃ (i:Nat) (g:Goroutine),gs[i]? = some g∧g.status = .running:=by
 rcases hen with ⟨i,j,c,v,k,ok,z,k',hi,hj,xG,sR⟩ | ⟨i,c,k,hi,hp⟩ | ⟨j,c,ok,z,k,E,hj,hp,hE⟩ | ⟨i,ch,k,hi,hp⟩
 ·obtain⟨g,hg⟩:=tF h hi
  obtain⟨g',jO⟩:=tF h hj
  have hm:=h.mem i g hg
  have FH:=h.mem j g' jO
  rw[xG] at hm
  rw[sR] at FH
  rcases hm.awake with e | e | e
  ·exact⟨i,g,hg,e⟩
  ·rcases FH.awake with e' | e' | e'
   ·exact⟨j,g',jO,e'⟩
   ·exact(h.apart i j c v k ok z k' g g' hg jO e e' xG sR).elim
   ·generalize rk j=rj at FH
    cases FH with
    | run p r g h1 h2=>rw[cD h2] at e'; cases e'
    | recv _ _ _ _ g h1 h2=>cases e'
  ·generalize rk i=ri at hm
   cases hm with
   | run p r g h1 h2=>rw[cD h2] at e; cases e
   | send _ _ _ g _ h1=>cases e
 ·obtain⟨g,hg⟩:=tF h hi
  have hm:=h.mem i g hg
  rw[hp] at hm
  generalize rk i=ri at hm
  cases hm with
  | run p r g h1 h2=>exact⟨i,_,hg,cD h2⟩
 ·obtain⟨g,hg⟩:=tF h hj
  have hm:=h.mem j g hg
  rw[hp] at hm
  generalize rk j=rj at hm
  cases hm with
  | run p r g h1 h2=>exact⟨j,_,hg,cD h2⟩
  | recv _ _ _ _ g h1 h2 =>
   rw[h.open_ j c ok z k _ hg rfl hp] at hE
   cases hE
 ·obtain⟨g,hg⟩:=tF h hi
  have hm:=h.mem i g hg
  rw[hp] at hm
  generalize rk i=ri at hm
  cases hm with
  | run p r g h1 h2=>exact⟨i,_,hg,cD h2⟩
end Go.Co
end
section
namespace Go.Co
open Go Go.Conc
open Go.ConcN (sumTo upd upd_same upd_ne)
variable {P:Program} {af:Machine→Trace→Prop} {Cs:Nat→Prop}
theorem Ks (hP:Plain P) {N:Net} (hW:xJ Cs N):∀ (γ:Nat→So) (rk:Nat→Tr) (tp:Nat) (gs:Array Goroutine) (w:World) (sl:Option (Nat×Nat)) (t:Trace),sO P af Cs N γ rk tp gs w t→PI P af (crowd gs w sl) t:=by
 induction hW with
 | done N h0 hd=>exact fun γ rk tp gs w sl t h=>OH h h0 hd
 | step N hno h0 hsend hrecv hen Ue abS aat aaz hstart ihm ihs ihh ihg =>
  intro γ rk tp gs w sl t h
  have acc:=IW (vN N.n rk)
  generalize hl:vN N.n rk=l at acc
  induction acc generalizing γ rk tp gs w sl t with
  | intro l _ ih =>
   subst hl
   have Ld:∀ g∈gs,awake g:=by
    intro x hx
    obtain⟨i,hi,rfl⟩:=Array.mem_iff_getElem.1 hx
    exact awake_of ((h.mem i _ (Array.getElem?_eq_getElem hi)).awake)
   obtain⟨i,g,d,sl',hi,hg,hst⟩:=crowd_pick (P:=P) (w:=w) (sl:=sl) Ld (NY h hen)
   have lD:i<N.n:=by rw[← h.size]; exact(Array.getElem?_eq_some_iff.1 hi).1
   have hm:=h.mem i g hi
   generalize Yy:rk i=r at hm
   generalize Lz:N.pr i=p at hm
   have h2:=Ge h hno d
   cases hm with
   | stop n g h3 h4 =>
    cases n with
    | zero=>rw[h4.1] at hg; cases hg
    | succ n =>
     rcases h4 with ⟨hf,_⟩ | ⟨_,g',es,hmu,LV,hq⟩
     ·rw[hf] at hg; cases hg
     obtain⟨hrun,mb⟩:=NZ (sl:=sl') h2 hi Lz h3 hmu LV hq hsend hrecv
     rw[hrun] at hst
     exact fH hst (ih _ (tV lD (by rw[Yy]; exact Q6 n)) _ _ _ _ _ sl' _ mb rfl)
   | ret r g h3 h4 h5=>exact absurd Lz (hno i lD).1
   | send c v k g z h3=>cases hg
   | recv c ok z k g h3 h4=>cases hg
   | run p r0 g fV hG =>
    subst Lz
    cases r0 with
    | node f =>
     obtain⟨g',w',es,γ',e1,hS,hG'⟩:=hG.2 (w.at d) (uP _ _ _)
     obtain⟨hrun,mb⟩:=NX (sl:=sl') hP h hno hsend hrecv hi fV e1 hS hG'
     rw[hrun] at hst
     exact fH hst (ih _ (tV lD (by rw[Yy]; exact Wy f (w.at d))) _ _ _ _ _ sl' _ mb rfl)
    | leaf =>
     have hS:=hG (w.at d) (uP _ _ _)
     cases hp:N.pr i with
     | stop=>exact absurd hp fV.1
     | ret=>exact absurd hp fV.2.1
     | bad=>exact absurd hp fV.2.2
     | send c v k =>
      rw[hp] at hS
      obtain⟨Dg,sW⟩:=hsend i c v k lD hp
      rcases N1 (sl:=sl') h hno hi hp Dg sW hS.1 hS.2 (fun j ok z kr hj hr=>Ue i j c v k ok z kr lD hj hp hr) with ⟨gs',hrun,mb⟩ | ⟨N',gs',w',ops,AD,hrun,-,⟨j,ok,z,kr,hj,hr,rfl⟩,mb⟩
      ·rw[hrun] at hst
       refine fH hst ?_
       rw[Array.append_empty]
       exact ih _ (tV lD (by rw[Yy]; exact Eg)) _ _ _ _ _ sl' _ (Ge mb hno d) rfl
      ·rw[hrun] at hst
       exact fH hst (ihm i j c v k ok z kr lD hj hp hr _ _ _ _ _ sl' _ mb)
     | recv c ok z kr =>
      rw[hp] at hS hG
      have jW:=hrecv i c ok z kr lD hp
      have hS0:=hG w (fG _ _)
      cases uD:N.cl c with
      | none =>
       rcases N2 (sl:=sl') h hno hi hp uD jW hS.1 (fun w1 h1=>(hG w1 h1).1) hS0.2 (fun j v k hj hs=>Ue j i c v k ok z kr hj lD hs hp) with ⟨gs',hrun,mb⟩ | ⟨N',gs',w',ops,AD,hrun,-,⟨j,v,k,hj,hs,rfl⟩,mb⟩
       ·rw[hrun] at hst
        refine fH hst ?_
        rw[Array.append_empty]
        exact ih _ (tV lD (by rw[Yy]; exact Eg)) _ _ _ _ _ sl' _ (Ge mb hno d) rfl
       ·rw[hrun] at hst
        exact fH hst (ihm j i c v k ok z kr hj lD hs hp _ _ _ _ _ sl' _ mb)
      | some E =>
       obtain⟨gs',ops,AD,hrun,mb⟩:=N3 (sl:=sl') (d:=d) h2 hsend hi hp uD jW hS.1 hS.2 (aaz i c ok z kr E lD hp uD)
       have hrun:runT P (crowd gs (w.at d) sl') i=_:=hrun
       rw[hrun] at hst
       exact fH hst (ihh i c ok z kr E lD hp uD _ _ _ _ _ sl' _ mb)
     | close c k =>
      rw[hp] at hS
      obtain⟨-,hmw,g',xb,hstep,hk⟩:=hS
      obtain⟨Dg,sW⟩:=abS i c k lD hp
      have hw:=aat i c k lD hp
      have BO:∀ j v k',j<N.n→N.pr j ≠ .send c v k':=by
       intro j v k' hj e
       have eB:j≠i:=by rintro rfl; rw[hp] at e; cases e
       have e':(N.shut i c k).pr j = .send c v k':=(upd_ne _ _ eB).trans e
       have uD:(N.shut i c k).cl c≠none:=by
        show upd N.cl c _ c≠none
        rw[upd_same]; simp
       cases hw with
       | done _ h3 h4 =>
        by_cases Jh:j=0
        ·rw[Jh,h3] at e'; cases e'
        ·rw[(h4 j (by omega) hj).1] at e'; cases e'
       | step _ _ _ h5=>exact uD (h5 j c v k' hj e').1
      obtain⟨gs',w',ops,AD,hrun,mb⟩:=N0 (sl:=sl') (d:=d) hP h2 hno hsend hrecv hi hp Dg sW hmw xb hstep hk BO hw
      have hrun:runT P (crowd gs (w.at d) sl') i=_:=hrun
      rw[hrun] at hst
      exact fH hst (ihs i c k lD hp _ _ _ _ _ sl' _ mb)
     | go ch k =>
      rw[hp] at hS
      obtain⟨uG,g',x0,xb,e1,FP,hch,hk⟩:=hS
      obtain⟨gs',ops,AD,hrun,mb⟩:=JO (sl:=sl') (d:=d) hP h2 hi hp e1 xb FP hch hk (hstart i ch k lD hp)
      have hrun:runT P (crowd gs (w.at d) sl') i=_:=hrun
      rw[hrun] at hst
      exact fH hst (ihg i ch k lD hp _ _ _ _ _ sl' _ mb)
end Go.Co
end
section
namespace Go.Co
open Go Go.Conc
open Go.ConcN (sumTo upd upd_same upd_ne)
variable {P:Program} {af:Machine→Trace→Prop} {Cs:Nat→Prop}
def entry (n:Nat) (p:Pc):Net:=⟨n,fun j=>if j=0 then p else .stop,fun _ j=>0<j∧j<n,fun _=>none⟩
theorem Xe (hP:Plain P) {p:Pc} {S O:Nat→Prop} {g:Goroutine} {w:World} (hp:p.live) (mw:Pr P af true p (S,O) g w)
  (hSO:∀ b,O b→¬ S b) (Jt:∀ b,S b∨O b→b<w.heap.size)
  (hc:∀ c,Cs c→(∃ s tm,w.heap[c]? = some (.chan 0 #[] false s s tm))∧¬ S c∧¬ O c)
  (hW:∀ n,0<n→xJ Cs (entry n p)):eY P af () g w:=by
 intro d hf hr hd gs sl t q h0 hL DZ
 have hlt:0<gs.size:=(Array.getElem?_eq_some_iff.1 h0).1
 obtain⟨r,hG⟩:=ID hp mw
 have hG:=yR AM hG (uP (S,O) w d)
 have hno:∀ i a,t.size≤i→touchAt t i=some a→False:=by
  intro i a hi ha
  obtain⟨x,hx,-⟩:=touch_of ha
  have:=(Array.getElem?_eq_some_iff.1 hx).1
  omega
 have fV:∀ j,(entry gs.size p).pr j ≠ .stop→j=0:=by
  intro j hj
  by_cases h:j=0
  ·exact h
  ·exact absurd (by simp[entry,h]) hj
 have acY:(entry gs.size p).pr 0=p:=rfl
 have hγ:∀ j b,((if j=0 then ((S,O):So) else (fun _=>False,fun _=>False)).1 b→j=0∧S b)∧((if j=0 then ((S,O):So) else (fun _=>False,fun _=>False)).2 b→j=0∧O b):=by
  intro j b
  by_cases h:j=0<;>simp[h]
 refine Ks hP (hW gs.size hlt) (fun j=>if j=0 then (S,O) else (fun _=>False,fun _=>False)) (fun j=>if j=0 then r.up else Tr.nat (q j)) t.size gs (w.at d) sl t
  ⟨rfl,hlt,fun j x hx => ?_,⟨DZ.clean,fun j hj => ?_,fun i a j hi ha hm hj jM => ?_,fun i a b j hi ha=>(hno i a hi ha).elim,fun i a b j hi ha=>(hno i a hi ha).elim,fun i a b hi ha=>(hno i a hi ha).elim,fun i a hi ha=>(hno i a hi ha).elim,fun i j hi hg => ?_,fun i a j x hi ha=>(hno i a hi ha).elim,fun c E hE=>(by cases hE),fun j j' b hb => ?_,fun j b hb => ?_,fun c E j hE=>(by cases hE),fun x j hj => ?_,Nat.le_refl _⟩,fun c hcc => ?_,fun j c ok z k x hx hb sR=>rfl,fun i j c v k ok z k' x y hx hy hbx => ?_,fun x hx => ?_⟩
 ·by_cases h:j=0
  ·subst h
   rw[h0] at hx
   cases hx
   have:=Mem.run (P:=P) (af:=af) (j:=0) (d:=Deaf t 0) (γ:=(S,O)) (w:=w.at d) p r g hp hG
   simpa [entry] using this
  ·have:=Mem.stop (P:=P) (af:=af) (j:=j) (d:=Deaf t j) (γ:=((fun _=>False,fun _=>False):So)) (w:=w.at d) (q j) x h (hL.old j x (by omega) hx)
   simpa [entry,h] using this
 ·rcases hj with hj | hj
  ·rw[fV j hj]; exact DZ.hears
  ·exact hL.above j hj
 ·rw[fV j hj]
  exact DZ.known i a ha hm
 ·unfold Trace.g? at hg
  obtain⟨z,hz,-⟩:=Option.map_eq_some_iff.1 hg
  have:=(Array.getElem?_eq_some_iff.1 hz).1
  omega
 ·obtain⟨rfl,hO⟩:=(hγ j b).2 hb
  refine⟨fun hS=>hSO b hO ((hγ j' b).1 hS).2,fun hne jP=>hne ((hγ j' b).2 jP).1.symm⟩
 ·rcases hb with hb | hb
  ·exact Jt b (.inl ((hγ j b).1 hb).2)
  ·exact Jt b (.inr ((hγ j b).2 hb).2)
 ·refine⟨hj.2,?_⟩
  have:j≠0:=by have:=hj.1; omega
  simp[entry,this]
 ·obtain⟨h1,h2,h3⟩:=hc c hcc
  refine⟨h1,fun j=>⟨fun h=>h2 ((hγ j c).1 h).2,fun h=>h3 ((hγ j c).2 h).2⟩⟩
 ·intro X2 xG sR
  have h1:=fV i (by rw[xG]; simp)
  have h2:=fV j (by rw[sR]; simp)
  subst h1; subst h2
  rw[xG] at sR
  cases sR
 ·rw[h0] at hx
  cases hx
  exact hf
variable {fn:FuncId} {γ:So} {c:Code} {a:Act} {w:World}
theorem Cg {g:Goroutine} (hd:g.dying=none) (h:eY P af () g w):KG P af true (.ret,γ) g w:=fun _ _=>⟨hd,h⟩
theorem Mq {g:Goroutine} (h:KG P af true (.ret,γ) g w):eY P af () g w:=(h (fun h=>by cases h) (by simp)).2
theorem XF {b:Frame} {k:List Item} {cs:List Frame} {e:Exit} {a:Act} {w:World} (h:wW (KG P af true) b k cs (.ret,γ) e a w):wW (eY P af) b k cs () e a w:=by
 cases e with
 | normal=>exact Mq h
 | exit id =>
  obtain⟨k',h1,h2⟩:=h
  exact⟨k',h1,Mq h2⟩
 | ret=>exact fun todo=>Mq (h todo)
 | goto l=>exact h
 | panic ch=>exact h
 | outgrown=>exact h
theorem SG {b:Frame} {k:List Item} {cs:List Frame} {e:Exit} {a:Act} {w:World} (h:wW (eY P af) b k cs () e a w):wW (KG P af true) b k cs (.ret,γ) e a w:=by
 cases e with
 | normal=>exact Cg rfl h
 | exit id =>
  obtain⟨k',h1,h2⟩:=h
  exact⟨k',h1,Cg rfl h2⟩
 | ret=>exact fun todo=>Cg rfl (h todo)
 | goto l=>exact h
 | panic ch=>exact h
 | outgrown=>exact h
theorem OS {Q:Gm→Exit→Act→World→Prop} (h:KJ (eY P af) fn () c (fun _=>Q (.ret,γ)) a w):KJ (KG P af true) fn (.ret,γ) c Q a w :=
 fun b k cs hb hk hc=>Cg rfl (h b k cs hb hk fun _ e a' w' q=>XF (hc _ e a' w' q))
theorem OR (hP:Plain P) {p:Pc} {S O:Nat→Prop} {Q:Exit→Act→World→Prop} (hp:p.live)
  (hSO:∀ b,O b→¬ S b) (Jt:∀ b,S b∨O b→b<w.heap.size)
  (hc:∀ c,Cs c→(∃ s tm,w.heap[c]? = some (.chan 0 #[] false s s tm))∧¬ S c∧¬ O c)
  (hW:∀ n,0<n→xJ Cs (entry n p))
  (h:KJ (KG P af true) fn (p,(S,O)) c (fun γ' e a' w'=>γ'.1 = .ret∧Q e a' w') a w):KJ (eY P af) fn () c (fun _=>Q) a w:=by
 intro b k cs hb hk abV
 refine Xe hP hp (h b k cs hb hk (fun γ' e a' w' q => ?_) (fun h=>by cases h) hp.1) hSO Jt hc hW
 obtain⟨p',γ'⟩:=γ'
 obtain⟨rfl,q⟩:=q
 exact SG (abV () e a' w' q)
end Go.Co
end
section
namespace Go.Co
open Go Go.Conc
variable {P:Program} {af:Machine→Trace→Prop} {main:Bool} {K:Gm→Goroutine→World→Prop} {fn:FuncId} {p:Pc} {γ:So} {Q:Gm→Exit→Act→World→Prop} {a:Act} {w:World} {ops:Array Oper} {i:Nat} {rest:List Nat} {o:Oper}
theorem PT (hp:p ≠ .ret) {w1:World} (h:z8 (p,γ) w w1):gb γ w w1:=by
 unfold z8 at h
 cases p<;>first | exact h | exact absurd rfl hp
theorem Yh (hp:p ≠ .ret) {s:So} {w':World} {es:Array Event} (h:Dk γ w s w' es):Du (p,γ) w (p,s) w' es:=by
 refine⟨rfl,?_⟩
 cases p<;>first | exact h | exact absurd rfl hp
def Jx (P:Program) (af:Machine→Trace→Prop) (γ:Gm) (g:Goroutine) (w:World):Prop:=γ.1 = .bad→∀ w1,gb γ.2 w w1→eY P af () g w1
theorem R5 (hP:Plain P):KC P true (Jx P af) z8 Du where
 step:=fun γ fr cs w h hb w0 r0=>by
  obtain⟨p,γ⟩:=γ
  simp only at hb
  subst hb
  refine(tN hP).step () fr cs w0 fun w1 h1 => ?_
  obtain⟨d,rfl⟩:=h1
  obtain⟨fr',jw,w',es,γ',e,⟨nX,-⟩,hk⟩:=h (w0.at d) (eR r0 (uP γ w0 d))
  exact⟨fr',jw,w',es,(),e,trivial,hk nX w' (fG _ _)⟩
 idle:=(vR (af:=af) (main:=true) hP).idle
 rely:=fun γ g w w1 r h hb w2 r2=>by
  obtain⟨p,γ⟩:=γ
  exact h hb w2 (eR (PT (by simp only at hb; subst hb; simp) r) r2)
theorem R2 {c:Code} {Q:Gm→Exit→Act→World→Prop} {Q':Exit→Act→World→Prop} (hq:∀ γ' e a w w1,Q γ' e a w→gb γ'.2 w w1→γ'.1 = .bad→Q' e a w1) (h:KJ (Jx P af) fn (.bad,γ) c (fun γ' e a w=>γ'.1 = .bad∧Q γ' e a w) a w):KJ (eY P af) fn () c (fun _=>Q') a w:=by
 intro b k cs hb hk hc
 refine h b k cs hb hk (fun γ' e a' w' q => ?_) rfl w (fG _ _)
 have dx:∀ w1,gb γ'.2 w' w1→wW (eY P af) b k cs () e a' w1:=fun w1 r=>hc () e a' w1 (hq _ _ _ _ _ q.2 r q.1)
 cases e with
 | normal=>exact fun _ w1 r=>dx w1 r
 | exit id =>
  obtain⟨k',h1,-⟩:=dx w' (fG _ _)
  refine⟨k',h1,fun _ w1 r => ?_⟩
  obtain⟨k2,h2,h3⟩:=dx w1 r
  rw[h1] at h2
  cases h2
  exact h3
 | ret=>exact fun todo _ w1 r=>dx w1 r todo
 | goto l=>exact(dx w' (fG _ _)).elim
 | panic ch=>exact(dx w' (fG _ _)).elim
 | outgrown=>exact(dx w' (fG _ _)).elim
theorem om {es:Array Event} (ts:Array TypeId) (t:TypeId) (k k':IntKind) (x y:Int):(Builtin.max_ ts t #[.int k x,.int k' y]).events P w es=es:=by
 simp[Builtin.max_,Builtin.max2]
theorem og {es:Array Event} (ts:Array TypeId) (t:TypeId) (k k':IntKind) (x y:Int):(Builtin.min_ ts t #[.int k x,.int k' y]).events P w es=es:=by
 simp[Builtin.min_,Builtin.min2]
theorem ah (C:KC P main K z8 Du) {γ:Gm} {v:Value} (ho:ops[i]? = some o) (hw:Region.wanted o (yielded ops a.tmps)=true) (hrun:∀ w,(execOp a.eval o).run P w = .ok (.value v) w) (sM:∀ w,(execOp a.eval o).events P w #[]=#[])
  (h:KO K fn γ ops rest Q (a.put o.dst v) w):KO K fn γ ops (i::rest) Q a w :=
 tK C ho hw fun w₁ r=>by rw[hrun w₁]; exact⟨γ,by rw[listed_nil (sM w₁)]; exact C.idle _ _,CL C r h⟩
theorem Gs (C:KC P main K z8 Du) (hp:p ≠ .ret) (ho:ops[i]? = some o) (hw:Region.wanted o (yielded ops a.tmps)=true)
  (h:∀ w₁,gb γ w w₁→∃ v w' s,(execOp a.eval o).run P w₁ = .ok (.value v) w'∧Dk γ w₁ s w' (listed P fn a o w₁)∧KO K fn (p,s) ops rest Q (a.put o.dst v) w'):KO K fn (p,γ) ops (i::rest) Q a w :=
 tK C ho hw fun w₁ r=>by
  obtain⟨v,w',s,h1,h2,h3⟩:=h w₁ (PT hp r)
  rw[h1]
  exact⟨(p,s),Yh hp h2,h3⟩
theorem cq (C:KC P main K z8 Du) (hp:p ≠ .ret) {v:Value} (ho:ops[i]? = some o) (hw:Region.wanted o (yielded ops a.tmps)=true)
  (hrun:∀ w₁,gb γ w w₁→(execOp a.eval o).run P w₁ = .ok (.value v) w₁∧∀ e∈(execOp a.eval o).events P w₁ #[],U8 γ.1 γ.2 e) (h:KO K fn (p,γ) ops rest Q (a.put o.dst v) w):KO K fn (p,γ) ops (i::rest) Q a w :=
 Gs C hp ho hw fun w₁ r=>⟨v,w₁,γ,(hrun w₁ r).1,⟨rfl,El fun e he=>(hrun w₁ r).2 e (mem_listed he)⟩,CL C (by unfold z8; cases p<;>first | exact r | exact absurd rfl hp) h⟩
def So.more (γ:So) (n:Nat):So:=(γ.1,fun b=>γ.2 b∨b=n)
theorem Rf (ob:Obj):Dk γ w (γ.more w.heap.size) (w.alloc ob) #[]:=by
 have hsz:(w.alloc ob).heap.size=w.heap.size+1:=by simp
 refine⟨rfl,fun b => ?_,by omega,fun b hb _=>RowKit.Below.heap_alloc _ _ _ hb,rfl,rfl,rfl,by simp⟩
 show γ.2 b∨b=w.heap.size↔_
 rw[hsz]
 refine or_congr_right ?_
 omega
theorem Ce (C:KC P main K z8 Du) (hp:p ≠ .ret) {f:Nat→Value} {ob:Obj} (ho:ops[i]? = some o) (hw:Region.wanted o (yielded ops a.tmps)=true)
  (hrun:∀ w,(execOp a.eval o).run P w = .ok (.value (f w.heap.size)) (w.alloc ob)) (sM:∀ w,(execOp a.eval o).events P w #[]=#[])
  (h:∀ w₁,gb γ w w₁→KO K fn (p,γ.more w₁.heap.size) ops rest Q (a.put o.dst (f w₁.heap.size)) (w₁.alloc ob)):KO K fn (p,γ) ops (i::rest) Q a w :=
 Gs C hp ho hw fun w₁ r=>⟨_,_,_,hrun w₁,by rw[listed_nil (sM w₁)]; exact Rf ob,h w₁ r⟩
theorem mg (C:KC P main K z8 Du) (hp:p ≠ .ret) {ob:Obj} (ho:ops[i]? = some o) (hw:Region.wanted o (yielded ops a.tmps)=true)
  (hrun:∀ w,(execOp a.eval o).run P w = .ok (.value (.pointer (some ⟨w.heap.size,0,none⟩))) (w.alloc ob)) (sM:∀ w,(execOp a.eval o).events P w #[]=#[])
  (h:∀ w₁,gb γ w w₁→KO K fn (p,γ.more w₁.heap.size) ops rest Q (a.put o.dst (.pointer (some ⟨w₁.heap.size,0,none⟩))) (w₁.alloc ob)):KO K fn (p,γ) ops (i::rest) Q a w :=
 Ce C hp (f:=fun n => .pointer (some ⟨n,0,none⟩)) ho hw hrun sM h
theorem Na (C:KC P main K z8 Du) (hp:p ≠ .ret) {ob:Obj} {n:Nat} (ho:ops[i]? = some o) (hw:Region.wanted o (yielded ops a.tmps)=true)
  (hrun:∀ w,(execOp a.eval o).run P w = .ok (.value (.slice (some ⟨w.heap.size,0,none⟩) n n)) (w.alloc ob)) (sM:∀ w,(execOp a.eval o).events P w #[]=#[])
  (h:∀ w₁,gb γ w w₁→KO K fn (p,γ.more w₁.heap.size) ops rest Q (a.put o.dst (.slice (some ⟨w₁.heap.size,0,none⟩) n n)) (w₁.alloc ob)):KO K fn (p,γ) ops (i::rest) Q a w :=
 Ce C hp (f:=fun m => .slice (some ⟨m,0,none⟩) n n) ho hw hrun sM h
theorem Re {ad:Addr} {v:Value} {es:Array Event} (hO:γ.2 ad.block) (hes:∀ e∈es,U8 γ.1 γ.2 e):Dk γ w γ (w.setCell ad v) es:=by
 have hsz:(w.setCell ad v).heap.size=w.heap.size:=World.size_setCell ..
 refine⟨rfl,fun b=>⟨.inl,fun h=>h.elim id fun h=>absurd h.2 (by omega)⟩,by omega,fun b _ hn => ?_,rfl,rfl,rfl,hes⟩
 exact heap_setCell_other _ _ _ _ (fun e=>hn (e▸hO))
theorem Gr (C:KC P main K z8 Du) (hp:p ≠ .ret) {ad:Addr} {v:Value} (ho:ops[i]? = some o) (hw:Region.wanted o (yielded ops a.tmps)=true) (hO:γ.2 ad.block)
  (hrun:∀ w₁,gb γ w w₁→(execOp a.eval o).run P w₁ = .ok .skip (w₁.setCell ad v)∧∀ e∈(execOp a.eval o).events P w₁ #[],e=⟨.cell ad,true,false⟩)
  (h:∀ w₁,gb γ w w₁→KO K fn (p,γ) ops rest Q (a.put o.dst undef) (w₁.setCell ad v)):KO K fn (p,γ) ops (i::rest) Q a w :=
 tK C ho hw fun w₁ r=>by
  obtain⟨h1,h2⟩:=hrun w₁ (PT hp r)
  rw[h1]
  refine⟨(p,γ),Yh hp (Re hO fun e he => ?_),h w₁ (PT hp r)⟩
  rw[h2 e (mem_listed he)]
  exact .inl ⟨ad,true,false,rfl,fun _=>hO,.inr hO⟩
theorem lz {Γ:Type} {K:Γ→Goroutine→World→Prop} {Rl:Γ→World→World→Prop} {St:Γ→World→Γ→World→Array Event→Prop} {γ:Γ} {Q:Γ→Exit→Act→World→Prop} (C:KC P main K Rl St) {c:Code} (I:Nat→Γ→Act→World→Prop) {n:Nat} (h₀:I n γ a w)
  (round:∀ n γ a w,I n γ a w→KJ K fn γ c (fun γ'=>Exit.then (fun a' w'=>∃ m,m<n∧I m γ' a' w') (Q γ')) a w):KJ K fn γ (.loop c) Q a w:=by
 intro b k cs hb hk hc
 have key:∀ n γ a w,I n γ a w→K γ (G (b.at a (.code c :: .inLoop c::k)) cs) w:=by
  intro n
  induction n using Nat.strongRecOn with
  | ind n ih =>
   intro γ a w hI
   refine round n γ a w hI b (.inLoop c::k) cs hb hk fun γ' e a' w' q => ?_
   cases e with
   | normal =>
    obtain⟨m,hm,q⟩:=q
    exact C.go (fun _=>stepG_inLoop) (ih m hm γ' a' w' q)
   | exit id=>exact(hc _ _ _ _ q).push rfl (by simp)
   | ret=>exact wW.push (x := .inLoop c) rfl (by simp) (hc _ _ _ _ q)
   | goto l=>exact hc _ _ _ _ q
   | panic ch=>exact hc _ _ _ _ q
   | outgrown=>exact hc _ _ _ _ q
 exact C.go (fun _=>stepG_loop) (key n γ a w h₀)
theorem lG {F:(Nat→Value)→Act} (h:a=F fun n=>a.tmps.getD n undef):∃ u,a=F u:=⟨_,h⟩
theorem cO {N:Act→World→Prop} {R:Exit→Act→World→Prop} (h:N a w):Exit.then N R .normal a w:=h
def aF (γ:So) (w:World) (ad:Addr) (v:Value):Prop:=γ.all ad.block∧w.cell? ad=some v
theorem aF.rely {ad:Addr} {v:Value} {w1:World} (h:aF γ w ad v) (r:gb γ w w1):aF γ w1 ad v :=
 ⟨h.1,(World.cell?_of_block (r.2.1 ad.block h.1)).trans h.2⟩
theorem aF.lt {ad:Addr} {v:Value} (h:aF γ w ad v):ad.block<w.heap.size:=World.block_lt_of_cell? w ad h.2
theorem aF.alloc {ad:Addr} {v:Value} (h:aF γ w ad v) (n:Nat) (ob:Obj):aF (γ.more n) (w.alloc ob) ad v :=
 ⟨h.1.imp id .inl,(World.cell?_alloc_lt w ob ad h.lt).trans h.2⟩
theorem aF.put {ad ad':Addr} {v v':Value} (h:aF γ w ad v) (hne:ad'≠ad):aF γ (w.setCell ad' v') ad v :=
 ⟨h.1,(World.cell?_setCell_other w ad' ad v' hne).trans h.2⟩
theorem aF.ni {ad:Addr} {v:Value} (h:aF γ w ad v):U8 γ.1 γ.2 ⟨.cell ad,false,false⟩ := .inl ⟨ad,false,false,rfl,fun h=>(by cases h),h.1⟩
theorem aF.fresh {w:World} {n j:Nat} {cs:Array Value} {t:TypeId} {v:Value} (hn:n=w.heap.size) (h:cs[j]? = some v):aF (γ.more n) (w.alloc (.cells cs t)) ⟨n,j,none⟩ v:=by
 subst hn
 exact⟨.inr (.inr rfl),by rw[World.cell?_alloc_new,h]⟩
def uF (γ:So) (w:World) (v:Value) (l:List Int):Prop:=∃ A cap,v = .slice A l.length cap∧∀ i x,l[i]? = some x→∃ ad,A=some ad∧aF γ w (ad.add i) (.int .i64 x)
theorem uF.rely {v:Value} {l:List Int} {w1:World} (h:uF γ w v l) (r:gb γ w w1):uF γ w1 v l:=by
 obtain⟨A,cap,rfl,h⟩:=h
 exact⟨A,cap,rfl,fun i x hx=>by obtain⟨ad,h1,h2⟩:=h i x hx; exact⟨ad,h1,h2.rely r⟩⟩
theorem uF.alloc {v:Value} {l:List Int} (h:uF γ w v l) (n:Nat) (ob:Obj):uF (γ.more n) (w.alloc ob) v l:=by
 obtain⟨A,cap,rfl,h⟩:=h
 exact⟨A,cap,rfl,fun i x hx=>by obtain⟨ad,h1,h2⟩:=h i x hx; exact⟨ad,h1,h2.alloc n ob⟩⟩
structure Kept (γ:So) (w:World) (γ':So) (w':World):Prop where
 shr:γ'.1=γ.1
 own:∀ b,γ.2 b→γ'.2 b
 blk:∀ b,γ.all b→b<w.heap.size→w'.heap[b]? = w.heap[b]?
 size:w.heap.size≤w'.heap.size
 env:w'.os=w.os∧w'.output=w.output
theorem Kept.all {γ':So} {w':World} (h:Kept γ w γ' w') {b:Nat} (hb:γ.all b):γ'.all b:=hb.imp (by rw[h.shr]; exact id) (h.own b)
theorem Kept.refl (γ:So) (w:World):Kept γ w γ w:=⟨rfl,fun _ h=>h,fun _ _ _=>rfl,Nat.le_refl _,rfl,rfl⟩
theorem Kept.trans {γ' γ'':So} {w' Lm:World} (h:Kept γ w γ' w') (k:Kept γ' w' γ'' Lm):Kept γ w γ'' Lm :=
 ⟨k.shr.trans h.shr,fun b hb=>k.own b (h.own b hb),fun b hb hlt=>(k.blk b (h.all hb) (Nat.lt_of_lt_of_le hlt h.size)).trans (h.blk b hb hlt),Nat.le_trans h.size k.size,k.env.1.trans h.env.1,k.env.2.trans h.env.2⟩
theorem Kept.rely {w1:World} (r:gb γ w w1):Kept γ w γ w1:=⟨rfl,fun _ h=>h,fun b hb _=>r.2.1 b hb,r.1,r.2.2.2⟩
theorem Kept.alloc (γ:So) (w:World) (n:Nat) (ob:Obj):Kept γ w (γ.more n) (w.alloc ob):=⟨rfl,fun _ h => .inl h,fun b _ hlt=>RowKit.Below.heap_alloc _ _ _ hlt,by simp,rfl,rfl⟩
theorem Kept.sees {γ':So} {w':World} (h:Kept γ w γ' w') {ad:Addr} {v:Value} (s:aF γ w ad v):aF γ' w' ad v :=
 ⟨h.all s.1,(World.cell?_of_block (h.blk ad.block s.1 s.lt)).trans s.2⟩
theorem Kept.BN {γ':So} {w':World} (h:Kept γ w γ' w') {v:Value} {l:List Int} (s:uF γ w v l):uF γ' w' v l:=by
 obtain⟨A,cap,rfl,s⟩:=s
 exact⟨A,cap,rfl,fun i x hx=>by obtain⟨ad,h1,h2⟩:=s i x hx; exact⟨ad,h1,h.sees h2⟩⟩
end Go.Co
end
section
namespace Go.Co
open Go Go.Conc
variable {P:Program} {af:Machine→Trace→Prop} {fn:FuncId} {γ:So} {a:Act} {w:World} {ops:Array Oper} {i:Nat} {rest:List Nat} {o:Oper}
theorem wA (hP:Plain P) {b:Frame} {k:List Item} {cs:List Frame} (hk:b.kind ≠ .early) {f:FuncId} {args:Array Operand} {ats:Array TypeId} {R:Value→World→Prop}
  (ho:ops[i]? = some o) (hw:Region.wanted o (yielded ops a.tmps)=true) (hop:o.op = .call { callee := .value (.func f),args,argTypes:=ats }) {sN:Func} {c:Code} (hf:P.funcs[f]? = some sN) (hb:sN.body=some c)
  (gh:∀ τ,Calls P f (args.map a.eval) (w.re τ 0) fun e w'=>∃ v,e = .returned v∧R v w') (cZ:∀ v w',R v w'→∀ τ d,eY P af () (G (b.at (a.put o.dst v) (.inRegion ops rest::k)) cs) (w'.re τ d)):eY P af () (G (b.at a (.inRegion ops (i::rest)::k)) cs) w:=by
 refine IY hP fun _ τ => ?_
 obtain⟨e,w',fr,⟨v,rfl,hR⟩,Gw,HK,fT⟩:=gh τ (b.at a (.inRegion ops (i::rest)::k)::cs)
 have MD:=cZ v w' hR
 have th:=hP.count f sN hf
 have hstep:step P (lone (b.at a (.inRegion ops (i::rest)::k)) cs (w.re τ 0)) = .next (lone (Frame.enter P f (args.map a.eval) .normal) (b.at a (.inRegion ops (i::rest)::k)::cs) (w.re τ 0)):=by
  refine step_lone_go ?_
  have:=goes_call (P:=P) (main:=true) (b:=b) (k:=k) (cs:=cs) (w:=w.re τ 0) (K:=fun g w' es=>g=G ((base f).at { tmps:=args.map a.eval++Array.replicate (sN.ntmps-(args.map a.eval).size) undef,defers:=[] } [.code c]) (b.at a (.inRegion ops (i::rest)::k)::cs)∧w'=w.re τ 0∧es=#[]) ho hw hk hop hf th hb ⟨rfl,rfl,rfl⟩
  obtain⟨g',w2,es,e1,e2,e3,e4⟩:=goes_elim this
  subst e2 e3 e4
  have Gv:Frame.enter P f (args.map a.eval) .normal=(base f).at { tmps:=args.map a.eval++Array.replicate (sN.ntmps-(args.map a.eval).size) undef,defers:=[] } [.code c]:=by
   simp[Frame.enter,Frame.at,hf,hb,base]
  rw[Gv]
  show (stepG P true (G (b.at a (.inRegion ops (i::rest)::k)) cs) (w.re τ 0)).bare=_
  rw[e1]
  rfl
 have MF:step P (lone fr (b.at a (.inRegion ops (i::rest)::k)::cs) w') = .next (lone (b.at (a.put o.dst v) (.inRegion ops rest::k)) cs w'):=by
  rw[step_leave_returned fT,Frame.finish_at,ho]
  rfl
 have Xi:Steps P (lone (b.at a (.inRegion ops (i::rest)::k)) cs (w.re τ 0)) (lone (b.at (a.put o.dst v) (.inRegion ops rest::k)) cs w') :=
  (Steps.one hstep).trans (Steps.trans Gw (Steps.one MF))
 obtain⟨n,hn⟩:=Xi
 exact⟨n,_,w',hn,rfl,rfl,fun τ d=>MD τ d⟩
theorem RN (hP:Plain P) {Q:Unit→Exit→Act→World→Prop} {f:FuncId} {args:Array Operand} {ats:Array TypeId} {R:Value→World→Prop}
  (ho:ops[i]? = some o) (hw:Region.wanted o (yielded ops a.tmps)=true) (hop:o.op = .call { callee := .value (.func f),args,argTypes:=ats }) {sN:Func} {c:Code} (hf:P.funcs[f]? = some sN) (hb:sN.body=some c)
  (gh:∀ τ,Calls P f (args.map a.eval) (w.re τ 0) fun e w'=>∃ v,e = .returned v∧R v w') (cZ:∀ v w',R v w'→∀ τ d,KO (eY P af) fn () ops rest Q (a.put o.dst v) (w'.re τ d)):KO (eY P af) fn () ops (i::rest) Q a w :=
 fun b k cs hbf hk hc=>wA hP hk ho hw hop hf hb gh fun v w' hR τ d=>cZ v w' hR τ d b k cs hbf hk hc
theorem G5 {f:FuncId} {args:Array Value} {Post:Gm→Value→World→Prop} {Post':Value→World→Prop} (hq:∀ γ' v w w1,Post γ' v w→γ'.1 = .bad→gb γ'.2 w w1→Post' v w1)
  (h:tC (Jx P af) P (.bad,γ) f args w (fun γ' v w=>γ'.1 = .bad∧Post γ' v w)):tC (eY P af) P () f args w (fun _=>Post'):=by
 obtain⟨sN,c,h1,h2,h3,h4⟩:=h
 refine⟨sN,c,h1,h2,h3,?_⟩
 refine R2 (Q:=fun γ'=>Ie P sN Post γ') (fun γ' e a w w1 q r hb => ?_) (tM h4 fun γ' e a w q => ?_)
 ·cases e with
  | normal =>
   obtain⟨hd,v,hr,hp⟩:=q
   exact⟨hd,v,hr,hq _ _ _ _ hp hb r⟩
  | ret =>
   obtain⟨hd,v,hr,hp⟩:=q
   exact⟨hd,v,hr,hq _ _ _ _ hp hb r⟩
  | exit id=>exact q
  | goto l=>exact q
  | panic ch=>exact q
  | outgrown=>exact q
 ·cases e with
  | normal =>
   obtain⟨hd,v,hr,hb,hp⟩:=q
   exact⟨hb,hd,v,hr,hp⟩
  | ret =>
   obtain⟨hd,v,hr,hb,hp⟩:=q
   exact⟨hb,hd,v,hr,hp⟩
  | exit id=>exact q.elim
  | goto l=>exact q.elim
  | panic ch=>exact q.elim
  | outgrown=>exact q.elim
end Go.Co
end
section
namespace Go.Di
open Go Go.Conc Go.Co
variable {P:Program} {af:Machine→Trace→Prop} {ty:eV} {x:Cx} {aD:bn} {call:aW} {yf:dH}
theorem fZ (hP:Plain P) {fr:Frame} {cs:List Frame} {w:World} (h:∀ d,∃ fr' jw w' es,stepG P true (G fr cs) (w.at d) = .go (G fr' jw) w' es∧eY P af () (G fr' jw) w'):eY P af () (G fr cs) w :=
 (tN hP).step () fr cs w fun w1 h1=>by
  obtain⟨d,rfl⟩:=h1
  obtain⟨fr',jw,w',es,e,hk⟩:=h d
  exact⟨fr',jw,w',es,(),e,trivial,hk⟩
theorem DT {g:Goroutine} {w:World} (h:eY P af () g w) (d:Nat):eY P af () g (w.at d):=fun d'=>h d'
theorem cE (hP:Plain P) {fr fr':Frame} {cs jw:List Frame} {w:World} (h:∀ w,∃ es,stepG P true (G fr cs) w = .go (G fr' jw) w es) (hk:eY P af () (G fr' jw) w):eY P af () (G fr cs) w :=
 fZ hP fun d=>by
  obtain⟨es,e⟩:=h (w.at d)
  exact⟨fr',jw,_,es,e,DT hk d⟩
section aan
variable {b:Frame} {a:Act} {k:List Item} {cs:List Frame} {w:World}
theorem Rv:stepG P true (G (b.atR a (.code .skip::k)) cs) w = .go (G (b.atR a k) cs) w #[]:=by simp[G,stepG,stepG.exec,Frame.atR]
theorem Oi {l:Nat}:stepG P true (G (b.atR a (.code (.label l)::k)) cs) w = .go (G (b.atR a k) cs) w #[]:=by simp[G,stepG,stepG.exec,Frame.atR]
theorem GW {id:Nat}:stepG P true (G (b.atR a (.inBlock id::k)) cs) w = .go (G (b.atR a k) cs) w #[]:=by simp[G,stepG,stepG.exec,Frame.atR]
theorem GV {c:Code}:stepG P true (G (b.atR a (.inScope c::k)) cs) w = .go (G (b.atR a k) cs) w #[]:=by simp[G,stepG,stepG.exec,Frame.atR]
theorem B9 {x y:Code}:stepG P true (G (b.atR a (.code (.seq x y)::k)) cs) w = .go (G (b.atR a (.code x :: .code y::k)) cs) w #[]:=by simp[G,stepG,stepG.exec,Frame.atR]
theorem IC {c:Operand} {x y:Code} {t:Bool} (h:a.eval c = .bool t):stepG P true (G (b.atR a (.code (.cond c x y)::k)) cs) w = .go (G (b.atR a (.code (if t then x else y)::k)) cs) w #[]:=by
 have:=congrFun (Frame.eval_atR b a (.code (.cond c x y)::k)) c
 simp only[Frame.atR] at this
 simp[G,stepG,stepG.exec,Frame.atR,this,h]
theorem Oj {id:Nat} {c:Code}:stepG P true (G (b.atR a (.code (.block id c)::k)) cs) w = .go (G (b.atR a (.code c :: .inBlock id::k)) cs) w #[]:=by simp[G,stepG,stepG.exec,Frame.atR]
theorem Og {c:Code}:stepG P true (G (b.atR a (.code (.scope c)::k)) cs) w = .go (G (b.atR a (.code c :: .inScope c::k)) cs) w #[]:=by simp[G,stepG,stepG.exec,Frame.atR]
theorem Rw {c:Code}:stepG P true (G (b.atR a (.code (.loop c)::k)) cs) w = .go (G (b.atR a (.code c :: .inLoop c::k)) cs) w #[]:=by simp[G,stepG,stepG.exec,Frame.atR]
theorem J5 {c:Code}:stepG P true (G (b.atR a (.inLoop c::k)) cs) w = .go (G (b.atR a (.code c :: .inLoop c::k)) cs) w #[]:=by simp[G,stepG,stepG.exec,Frame.atR]
theorem Rx {id:Nat} {k':List Item} (h:exitTo id k=some k'):stepG P true (G (b.atR a (.code (.exit id)::k)) cs) w = .go (G (b.atR a k') cs) w #[]:=by simp[G,stepG,stepG.exec,Frame.atR,h]
theorem Ba {id:Nat} {ops:Array Oper}:stepG P true (G (b.atR a (.code (.region id ops false)::k)) cs) w = .go (G (b.atR a (.inRegion ops (List.range ops.size)::k)) cs) w #[]:=by simp[G,stepG,stepG.exec,Frame.atR]
theorem GU {id:Nat} {ops:Array Oper} (hm:P.follows .mixedOrders=true):stepG P true (G (b.atR a (.code (.region id ops true)::k)) cs) w = .go (G (b.atR a (.inRegion ops (Region.linearise .any ops (w.tape w.drawn (.order b.fn id)))::k)) cs) (w.at (w.drawn+1)) #[]:=by
 simp[G,stepG,stepG.exec,Frame.atR,choose,Sem.run,Question.forced,Question.cut,Region.schedule,hm,World.at]
theorem jC {ops:Array Oper}:stepG P true (G (b.atR a (.inRegion ops []::k)) cs) w = .go (G (b.atR a k) cs) w #[]:=by simp[G,stepG,stepG.exec,Frame.atR]
def IK (o:Op):Bool:=match o with | .defer _=>false | _=>true
theorem CF {ops:Array Oper} {i:Nat} {rest:List Nat} {o:Oper} (ho:ops[i]? = some o) (hw:Region.wanted o (yielded ops a.tmps)=true) (hd:IK o.op=true) :
  stepG P true (G (b.atR a (.inRegion ops (i::rest)::k)) cs) w=stepG.apply P true (b.atR a (.inRegion ops (i::rest)::k)) cs none (execOp a.eval o) w:=by
 have he:=Frame.eval_atR b a (.inRegion ops (i::rest)::k)
 simp only[Frame.atR] at he
 have h1:stepG P true (G (b.atR a (.inRegion ops (i::rest)::k)) cs) w=stepG.oper P true (b.atR a (.inRegion ops (i::rest)::k)) cs none w:=by
  simp[G,stepG,stepG.exec,Frame.atR,ho,hw]
 rw[h1]
 unfold stepG.oper
 have hop:(b.atR a (.inRegion ops (i::rest)::k)).oper? = some o:=by simp[Frame.oper?,Frame.atR,ho]
 simp only[hop]
 have sM:(b.atR a (.inRegion ops (i::rest)::k)).eval=a.eval:=Frame.eval_atR b a _
 split
 ·rename_i l c h2 h3
  rw[h3] at hd
  cases hd
 ·rw[sM]
theorem pE {ops:Array Oper} {i:Nat} {rest:List Nat} {o:Oper} (ho:ops[i]? = some o) (hw:Region.wanted o (yielded ops a.tmps)=false) :
  stepG P true (G (b.atR a (.inRegion ops (i::rest)::k)) cs) w = .go (G (b.atR (a.put o.dst undef) (.inRegion ops rest::k)) cs) w #[]:=by
 have hf:=Frame.finish_atR b a ops i rest k undef
 simp only[ho,Option.bind_some] at hf
 rw[← hf]
 simp[G,stepG,stepG.exec,Frame.atR,ho,hw]
end aan
theorem Kt (hP:Plain P) {b:Frame} {a:Act} {k:List Item} {cs:List Frame} {ops:Array Oper} {i:Nat} {rest:List Nat} {o:Oper} {d:DV} {S':ak} (hk:b.kind ≠ .early)
  (ho:ops[i]? = some o) (hw:Region.wanted o (yielded ops a.tmps)=true) (hd:IK o.op=true) (hy:∀ n,Yields (x.dr n) ((execOp a.eval o).run P (x.w.at n)) d S')
  (cZ:∀ y v,y.S=S'→Rel y→bk x y→RV y d v→eY P af () (G (b.atR (a.put o.dst v) (.inRegion ops rest::k)) cs) y.w):eY P af () (G (b.atR a (.inRegion ops (i::rest)::k)) cs) x.w:=by
 refine fZ hP fun n => ?_
 obtain⟨v,y,h1,h2,h3,h4,h5⟩:=hy n
 have hf:=Frame.finish_atR b a ops i rest k
 simp only[ho,Option.bind_some] at hf
 have pR:(b.kind==CallKind.early)=false:=by simpa using hk
 rw[CF ho hw hd]
 rcases h1 with h1 | ⟨h1,rfl⟩
 ·refine⟨b.atR (a.put o.dst v) (.inRegion ops rest::k),cs,y.w,seen P b.fn ((execOp a.eval o).events P (x.w.at n) #[]),?_,cZ y v h2 h3 ((dn x n).trans h4) h5⟩
  rw[← hf]
  simp[stepG.apply,h1,G,Frame.atR,pR,GStep.after]
 ·refine⟨b.atR (a.put o.dst undef) (.inRegion ops rest::k),cs,y.w,seen P b.fn ((execOp a.eval o).events P (x.w.at n) #[]),?_,cZ y undef h2 h3 ((dn x n).trans h4) h5⟩
  rw[← hf]
  simp[stepG.apply,h1,G,Frame.atR,pR,GStep.after]
end Go.Di
end
section
namespace Go.Di
open Go Go.Conc Go.Co
variable {P:Program} {af:Machine→Trace→Prop} {ty:eV} {x:Cx} {aD:bn} {call:aW} {yf:dH}
theorem rP {env:List DV} {a:Act} (h:dR x env a.tmps):s7 x (ga env) a.eval:=by
 intro o d ho
 cases o with
 | tmp t =>
  simp only[ga,Option.some.injEq] at ho
  subst ho
  by_cases ht:t<env.length
  ·have:=h.2 t env[t] (List.getElem?_eq_getElem ht)
   simpa [Act.eval,List.getD_eq_getElem?_getD,ht] using this
  ·have h1:env[t]? = none:=List.getElem?_eq_none (Nat.le_of_not_lt ht)
   have h2:a.tmps[t]? = none:=Array.getElem?_eq_none (by rw[h.1]; exact Nat.le_of_not_lt ht)
   have:a.eval (.tmp t)=undef:=by simp[Act.eval,Array.getD_eq_getD_getElem?,h2]
   rw[this,List.getD_eq_getElem?_getD,h1]
   exact .val rfl
 | const v=>exact tT ho
 | func f =>
  simp only[ga,Option.some.injEq] at ho
  subst ho
  exact .fn rfl rfl (by simp) (by simp)
 | global g=>cases ho
theorem Iv {env:List DV} {arr:Array Value} (h:dR x env arr) {t:Nat} {d:DV} {v:Value} (hd:RV x d v):dR x (env.set t d) (arr.setIfInBounds t v):=by
 refine⟨by simpa using h.1,fun j c hc => ?_⟩
 rw[List.getElem?_set] at hc
 by_cases hj:t=j
 ·subst hj
  rw[if_pos rfl] at hc
  split at hc
  ·rename_i hlt
   simp only[Option.some.injEq] at hc
   subst hc
   have:t<arr.size:=by rw[h.1]; exact hlt
   simpa [Array.getD_eq_getD_getElem?,this] using hd
  ·cases hc
 ·rw[if_neg hj] at hc
  have:=h.2 j c hc
  simpa [Array.getD_eq_getD_getElem?,Array.getElem?_setIfInBounds,hj] using this
theorem nB {env:List DV} {a:Act} (h:dR x env a.tmps) {dst:Option Tmp} {d:DV} {v:Value} (hd:RV x d v):dR x (eH env dst d) (a.put dst v).tmps∧(a.put dst v).defers=a.defers:=by
 cases dst with
 | none=>exact⟨h,rfl⟩
 | some t=>exact⟨Iv h hd,rfl⟩
theorem uZ {env:List DV} {a:Act} (h:dR x env a.tmps) (ops:Array Oper) (o:Oper):Region.wanted o (yielded ops a.tmps)=bD ops env o:=by
 unfold Region.wanted bD
 cases o.guard with
 | none=>rfl
 | some g =>
  obtain⟨j,want⟩:=g
  simp only[yielded]
  cases hb:(ops[j]?).bind (·.dst) with
  | none=>rfl
  | some t =>
   simp only[Option.bind_some]
   by_cases ht:t<env.length
   ·have h1:=List.getElem?_eq_getElem ht
    have hr:=h.2 t env[t] h1
    have h2:t<a.tmps.size:=by rw[h.1]; exact ht
    rw[h1,Array.getElem?_eq_getElem h2]
    simp only[Array.getD_eq_getD_getElem?,Array.getElem?_eq_getElem h2,Option.getD_some] at hr
    generalize env[t]=d at hr
    generalize a.tmps[t]=v at hr
    cases hr with
    | @val v hv=>cases v<;>first | rfl | (simp only; cases want<;>rfl) | (rename_i b; cases b<;>cases want<;>rfl)
    | _=>cases want<;>rfl
   ·rw[List.getElem?_eq_none (Nat.le_of_not_lt ht),Array.getElem?_eq_none (by rw[h.1]; exact Nat.le_of_not_lt ht)]
    cases want<;>rfl
def cT (P:Program) (af:Machine→Trace→Prop) (x:Cx) (g:FuncId) (vals:Array Value) (Post:Cx→Value→Prop):Prop :=
 (∃ fn c,P.funcs[g]? = some fn∧fn.body=some c)∧∀ (fr:Frame) (cs:List Frame),(∀ y v,Post y v→eY P af () (G (fr.finish v) cs) y.w)→eY P af () (G (Frame.enter P g vals .normal) (fr::cs)) x.w
theorem cT.mono {g:FuncId} {vals:Array Value} {Post Post':Cx→Value→Prop} (h:cT P af x g vals Post) (hp:∀ y v,Post y v→Post' y v):cT P af x g vals Post' :=
 ⟨h.1,fun fr cs hc=>h.2 fr cs fun y v p=>hc y v (hp y v p)⟩
theorem cT.at {g:FuncId} {vals:Array Value} {Post:Cx→Value→Prop} (h:cT P af x g vals Post) (n:Nat):cT P af (x.dr n) g vals Post :=
 ⟨h.1,fun fr cs hc=>DT (h.2 fr cs hc) n⟩
def gq (P:Program) (af:Machine→Trace→Prop) (call:aW):Prop :=
 ∀ f args S v S',call f args S=some (v,S')→∀ x vals,Rel x→x.S=S→dR x args vals→cT P af x f vals fun y u=>y.S=S'∧Rel y∧bk x y∧RV y v u
def tD (P:Program) (af:Machine→Trace→Prop) (aD:bn):Prop :=
 ∀ f args v,aD f args=some v→args.all DV.pure=true→v.pure=true∧∀ x vals,Rel x→dR x args vals→cT P af x f vals fun y u=>y.S=x.S∧Rel y∧bk x y∧RV y v u
def tB (P:Program) (af:Machine→Trace→Prop) (yf:dH):Prop :=
 ∀ id args S v S',yf id args S=some (v,S')→∀ x vals,Rel x→x.S=S→dR x args vals→∃ lo:Loop,x.w.heap[x.μ id]? = some (.loop lo)∧vals.size=lo.params.size ∧
  ∀ (fr:Frame) (cs:List Frame),(∀ y u,(y.S=S'∧Rel y∧bk x y∧RV y v u)→eY P af () (G (fr.finish u) cs) y.w)→eY P af () (G (Frame.round (x.μ id) lo.fn ((lo.params.zip vals).foldl (fun tmps (t,a)=>tmps.setIfInBounds t a) lo.tmps) lo.assign lo.body .normal) (fr::cs)) x.w
theorem Pb (hc:gq P af call) (hi:tD P af aD) {g:FuncId} {args:List DV} {S S':ak} {v:DV} (h:tw aD call g args S=some (v,S')) {vals:Array Value} (hR:Rel x) (hS:x.S=S) (ha:dR x args vals) :
  cT P af x g vals fun y u=>y.S=S'∧Rel y∧bk x y∧RV y v u:=by
 unfold tw at h
 split at h
 ·rename_i hp
  split at h
  ·rename_i v' h1
   cases h
   subst hS
   refine(hi _ _ _ h1 hp).2 x vals hR ⟨by simpa using ha.1,fun j c hj => ?_⟩
   simp only[List.getElem?_map,Option.map_eq_some_iff] at hj
   obtain⟨c',h2,rfl⟩:=hj
   exact(ha.2 j c' h2).strip
  ·exact hc _ _ _ _ _ h x vals hR hS ha
 ·exact hc _ _ _ _ _ h x vals hR hS ha
theorem iy {l m:List DV} {a b:Array Value} (h:dR x l a) (k:dR x m b):dR x (l++m) (a++b):=by
 refine⟨by simp[h.1,k.1],fun j c hc => ?_⟩
 simp only[Array.getD_eq_getD_getElem?]
 by_cases hj:j<l.length
 ·rw[List.getElem?_append_left hj] at hc
  rw[Array.getElem?_append_left (by rw[h.1]; exact hj)]
  simpa [Array.getD_eq_getD_getElem?] using h.2 j c hc
 ·rw[List.getElem?_append_right (by omega)] at hc
  rw[Array.getElem?_append_right (by rw[h.1]; omega),h.1]
  simpa [Array.getD_eq_getD_getElem?] using k.2 _ c hc
theorem EK (hP:Plain P) {b:Frame} {a:Act} {k:List Item} {cs:List Frame} {ops:Array Oper} {i:Nat} {rest:List Nat} {o:Oper} {g:FuncId} {fs vs:Array Value} {c:Call} {f:Operand} {Post:Cx→Value→Prop} (hk:b.kind ≠ .early)
  (ho:ops[i]? = some o) (hw:Region.wanted o (yielded ops a.tmps)=true) (hop:o.op = .call c) (VM:c.callee = .value f) (hf:a.eval f = .func (.func g) fs vs) (he:cT P af x g (fs++c.args.map a.eval++vs) Post)
  (cZ:∀ y v,Post y v→eY P af () (G (b.atR (a.put o.dst v) (.inRegion ops rest::k)) cs) y.w):eY P af () (G (b.atR a (.inRegion ops (i::rest)::k)) cs) x.w:=by
 refine fZ hP fun n => ?_
 have rG:=Frame.finish_atR b a ops i rest k
 simp only[ho,Option.bind_some] at rG
 have pR:(b.kind==CallKind.early)=false:=by simpa using hk
 rw[CF ho hw (by rw[hop]; rfl)]
 obtain⟨⟨fn,cd,h1,h2⟩,h3⟩:=he
 have th:=hP.count g fn h1
 have hrun:(execOp a.eval o).run P (x.w.at n) = .ok (.enter g (fs++c.args.map a.eval++vs)) (x.w.at n):=by
  unfold execOp
  simp only[hop,resolve,VM,hf,Deferred.ofValue,Sem.run_bind,Sem.run_pure,Result.andThen_ok,invoke,callFunc,run_program,h1,th,Bool.false_eq_true,if_false,h2,Option.isNone_some]
 refine⟨Frame.enter P g (fs++c.args.map a.eval++vs) .normal,b.atR a (.inRegion ops (i::rest)::k)::cs,x.w.at n,seen P b.fn ((execOp a.eval o).events P (x.w.at n) #[]),?_,DT (h3 _ cs fun y v hp => ?_) n⟩
 ·simp[stepG.apply,hrun,G,Frame.atR,pR,GStep.after]
 ·rw[rG]
  exact cZ y v hp
theorem OI (hP:Plain P) {b:Frame} {a:Act} {k:List Item} {cs:List Frame} {ops:Array Oper} {i:Nat} {rest:List Nat} {o:Oper} {l:Nat} {lo:Loop} {c:Call} {f:Operand} {Post:Cx→Value→Prop} (hk:b.kind ≠ .early)
  (ho:ops[i]? = some o) (hw:Region.wanted o (yielded ops a.tmps)=true) (hop:o.op = .call c) (VM:c.callee = .value f) (hf:a.eval f = .func (.yield l) #[] #[]) (hl:x.w.heap[l]? = some (.loop lo)) (hsz:(c.args.map a.eval).size=lo.params.size)
  (he:∀ (fr:Frame) (cs:List Frame),(∀ y u,Post y u→eY P af () (G (fr.finish u) cs) y.w)→eY P af () (G (Frame.round l lo.fn ((lo.params.zip (c.args.map a.eval)).foldl (fun tmps (t,a)=>tmps.setIfInBounds t a) lo.tmps) lo.assign lo.body .normal) (fr::cs)) x.w)
  (cZ:∀ y v,Post y v→eY P af () (G (b.atR (a.put o.dst v) (.inRegion ops rest::k)) cs) y.w):eY P af () (G (b.atR a (.inRegion ops (i::rest)::k)) cs) x.w:=by
 refine fZ hP fun n => ?_
 have rG:=Frame.finish_atR b a ops i rest k
 simp only[ho,Option.bind_some] at rG
 have pR:(b.kind==CallKind.early)=false:=by simpa using hk
 rw[CF ho hw (by rw[hop]; rfl)]
 have hg:=gv (P:=P) (w:=x.w.at n) (show (x.w.at n).heap[l]? = some (.loop lo) from hl) (by simp)
 have hrun:(execOp a.eval o).run P (x.w.at n) = .ok (.round l lo.fn ((lo.params.zip (c.args.map a.eval)).foldl (fun tmps (t,a)=>tmps.setIfInBounds t a) lo.tmps) lo.assign lo.body) (x.w.at n):=by
  have hne:¬ ((#[]++c.args.map a.eval).size≠lo.params.size):=by simpa using hsz
  unfold execOp
  simp only[hop,resolve,VM,hf,Deferred.ofValue,Sem.run_bind,Sem.run_pure,Result.andThen_ok,invoke,Instr.yield,Instr.getLoop,hg,if_neg hne]
  simp
 refine⟨Frame.round l lo.fn _ lo.assign lo.body .normal,b.atR a (.inRegion ops (i::rest)::k)::cs,x.w.at n,seen P b.fn ((execOp a.eval o).events P (x.w.at n) #[]),?_,DT (he _ cs fun y v hp => ?_) n⟩
 ·simp[stepG.apply,hrun,G,Frame.atR,pR,GStep.after]
 ·rw[rG]
  exact cZ y v hp
theorem DR (hP:Plain P) (dh:gT P ty) (hc:gq P af call) (hi:tD P af aD) (FM:tB P af yf) {b:Frame} {a:Act} {k:List Item} {cs:List Frame} {ops:Array Oper} {i:Nat} {rest:List Nat} {o:Oper} {d:DV} {S':ak} {env:List DV} {aA:Nat} (hk:b.kind ≠ .early)
  (ho:ops[i]? = some o) (hw:Region.wanted o (yielded ops a.tmps)=true) (hR:Rel x) (hn:AJ x.S aA) (he:dR x env a.tmps) (h:ai P ty aD call yf (ga env) o x.S aA=some (d,S'))
  (cZ:∀ y v,y.S=S'→Rel y→bk x y→RV y d v→eY P af () (G (b.atR (a.put o.dst v) (.inRegion ops rest::k)) cs) y.w):eY P af () (G (b.atR a (.inRegion ops (i::rest)::k)) cs) x.w:=by
 by_cases hl:Op.lone o.op=true
 ·refine Kt hP hk ho hw ?_ (fun n=>JJ dh (hR.dr n) hn (rP (he.mono (dn x n))) hl h) cZ
  cases hop:o.op<;>first | rfl | (simp[ai,hop] at h)
 ·obtain⟨c,hop⟩:∃ c,o.op = .call c:=by
   cases hop:o.op<;>first | (exact⟨_,rfl⟩) | (exact absurd (by rw[hop]; rfl) hl)
  obtain⟨callee,args,ats⟩:=c
  cases callee with
  | builtin bi=>exact absurd (by rw[hop]; rfl) hl
  | invoke r m=>simp[ai,hop] at h
  | value f =>
   simp only[ai,hop] at h
   have sM:=rP he
   split at h
   ·rename_i g fs jw xs hf Lt
    have S5:=sM f _ hf
    have ig:=rO sM Lt
    generalize hv:a.eval f=vf at S5
    cases S5 with
    | @fn _ _ _ vfs vcs h1 h2 h3 h4 =>
     have dx:dR x (fs++xs++jw) (vfs++args.map a.eval++vcs):=by
      have e:(args.toList.map a.eval).toArray=args.map a.eval:=Array.toList_inj.1 (by simp)
      rw[e] at ig
      exact iy (iy ⟨h1,h3⟩ ig) ⟨h2,h4⟩
     split at h
     ·exact EK hP hk ho hw hop rfl hv (hc _ _ _ _ _ h x _ hR rfl dx) fun y v hp=>cZ y v hp.1 hp.2.1 hp.2.2.1 hp.2.2.2
     ·exact EK hP hk ho hw hop rfl hv (Pb hc hi h hR rfl dx) fun y v hp=>cZ y v hp.1 hp.2.1 hp.2.2.1 hp.2.2.2
   ·rename_i id xs hf Lt
    have S5:=sM f _ hf
    have ig:=rO sM Lt
    generalize hv:a.eval f=vf at S5
    cases S5 with
    | uC hS =>
     have e:(args.toList.map a.eval).toArray=args.map a.eval:=Array.toList_inj.1 (by simp)
     rw[e] at ig
     obtain⟨lo,q1,q2,q3⟩:=FM _ _ _ _ _ h x _ hR rfl ig
     exact OI hP hk ho hw hop rfl hv q1 q2 q3 fun y v hp=>cZ y v hp.1 hp.2.1 hp.2.2.1 hp.2.2.2
   ·cases h
theorem CD (hP:Plain P) (dh:gT P ty) (hc:gq P af call) (hi:tD P af aD) (FM:tB P af yf) {ops:Array Oper} {b:Frame} {k:List Item} {cs:List Frame} (hk:b.kind ≠ .early) :
  ∀ (r pre:List Oper),ops.toList=pre++r→∀ {env ay:List DV} {S':ak} {a:Act} {x:Cx},BV P ty aD call yf ops r env x.S=some (ay,S')→Rel x→dR x env a.tmps →
   (∀ y a',y.S=S'→Rel y→bk x y→dR y ay a'.tmps→a'.defers=a.defers→eY P af () (G (b.atR a' k) cs) y.w)→eY P af () (G (b.atR a (.inRegion ops (List.range' pre.length r.length)::k)) cs) x.w
 | [],pre,_,env,ay,S',a,x,h,hR,he,hn=>by
  simp only[BV,Option.some.injEq,Prod.mk.injEq] at h
  obtain⟨rfl,rfl⟩:=h
  exact cE hP (fun w=>⟨_,jC⟩) (hn x a rfl hR (bk.refl x) he rfl)
 | o::r,pre,B3,env,ay,S',a,x,h,hR,he,hn=>by
  have ho:ops[pre.length]? = some o:=by
   rw[← Array.getElem?_toList,B3]
   simp
  have Uc:ops.toList=(pre++[o])++r:=by rw[B3]; simp
  have hlen:(pre++[o]).length=pre.length+1:=by simp
  simp only[List.length_cons,List.range'_succ]
  unfold BV at h
  have Pp:=uZ he ops o
  by_cases hw:bD ops env o=true
  ·rw[if_pos hw] at h
   rw[hw] at Pp
   obtain⟨x1,k1,k2,k3,k4,k5⟩:=WW (ty:=ty) o hR he
   rw[← k1]
   split at h
   rename_i jG S0 sZ
   rw[sZ] at k2 k5
   dsimp only at k2 k5
   subst k2
   split at h
   ·rename_i v S1 h1
    refine DR hP dh hc hi FM hk ho Pp k3 (.inl rfl) k5 h1 fun y u hyS hyR SQ hyV => ?_
    subst hyS
    have kN:=nB (k5.mono SQ) (dst:=o.dst) hyV
    have:=CD hP dh hc hi FM hk r (pre++[o]) Uc h hyR kN.1 fun z a' z1 z2 z3 z4 z5=>hn z a' z1 z2 (k4.trans (SQ.trans z3)) z4 (z5.trans kN.2)
    rw[hlen] at this
    exact this
   ·cases h
  ·rw[if_neg hw] at h
   have UD:bD ops env o=false:=by simpa using hw
   rw[UD] at Pp
   refine cE hP (fun w=>⟨_,pE ho Pp⟩) ?_
   have kN:=nB he (dst:=o.dst) (d:=aP) (v:=undef) (.val rfl)
   have:=CD hP dh hc hi FM hk r (pre++[o]) Uc h hR kN.1 fun z a' z1 z2 z3 z4 z5=>hn z a' z1 z2 z3 z4 (z5.trans kN.2)
   rw[hlen] at this
   exact this
end Go.Di
end
section
namespace Go.Di
open Go Go.Conc Go.Co
variable {P:Program} {af:Machine→Trace→Prop} {ty:eV} {x:Cx} {aD:bn} {call:aW} {yf:dH}
def oK (P:Program) (af:Machine→Trace→Prop) (ty:eV) (aD:bn) (call:aW) (yf:dH) (id:Nat) (ops:Array Oper) (draw:Bool):Prop :=
 ∀ {env ay:List DV} {S':ak} {x:Cx} {a:Act} {b:Frame} {k:List Item} {cs:List Frame},lP P ty aD call yf ops draw env x.S=some (ay,S')→b.kind ≠ .early→Rel x→dR x env a.tmps →
  (∀ y a',y.S=S'→Rel y→bk x y→dR y ay a'.tmps→a'.defers=a.defers→eY P af () (G (b.atR a' k) cs) y.w)→eY P af () (G (b.atR a (.code (.region id ops draw)::k)) cs) x.w
def yw (P:Program) (af:Machine→Trace→Prop) (ty:eV) (aD:bn) (call:aW) (yf:dH):Code→Prop
 | .region id ops draw=>oK P af ty aD call yf id ops draw
 | .seq a b | .cond _ a b=>yw P af ty aD call yf a∧yw P af ty aD call yf b
 | .block _ c | .loop c | .scope c=>yw P af ty aD call yf c
 | _=>True
theorem J3 (hP:Plain P) (dh:gT P ty) (hc:gq P af call) (hi:tD P af aD) (FM:tB P af yf) (id:Nat) (ops:Array Oper):oK P af ty aD call yf id ops false:=by
 intro env ay S' x a b k cs h hk hR he hn
 simp only[lP,Bool.false_eq_true,if_false] at h
 refine cE hP (fun w=>⟨_,Ba⟩) ?_
 have:=CD hP dh hc hi FM hk ops.toList [] rfl h hR he hn
 rw[List.range_eq_range']
 simpa using this
def DI (P:Program) (af:Machine→Trace→Prop) (b:Frame) (k:List Item) (cs:List Frame):DX→Act→World→Prop
 | .normal,a,w=>eY P af () (G (b.atR a k) cs) w
 | .exit id,a,w=>∀ k',exitTo id k'=exitTo id k→eY P af () (G (b.atR a (.code (.exit id)::k')) cs) w
 | .ret,a,w=>∀ k',eY P af () (G (b.atR a (.code .ret::k')) cs) w
theorem DI.push {b:Frame} {k:List Item} {cs:List Frame} {e:DX} {a:Act} {w:World} {i:Item} (hi:∀ id,exitTo id (i::k)=exitTo id k) (he:e ≠ .normal) (h:DI P af b k cs e a w):DI P af b (i::k) cs e a w:=by
 cases e with
 | normal=>exact absurd rfl he
 | exit id=>exact fun k' pR=>h k' (pR.trans (hi id))
 | ret=>exact h
def lK (n0:Nat) (x:Cx) (ds:List Nat) (l:List Deferred):Prop:=l=ds.map (fun id=>{ target := .collected (x.μ id),args:=#[] })∧ds.Nodup∧∀ id∈ds,n0≤id∧x.S[id]? = some .defer∧x.w.heap[x.μ id]? = some (.deferred (some []))
theorem lK.mono {n0:Nat} {y:Cx} (M:bk x y) {ds:List Nat} {l:List Deferred} (h:lK n0 x ds l):lK n0 y ds l:=by
 obtain⟨h1,h2,h3⟩:=h
 have hμ:∀ id∈ds,y.μ id=x.μ id:=fun id hid=>(M.c9 id _ (h3 id hid).2.1 rfl).1
 refine⟨?_,h2,fun id hid => ?_⟩
 ·rw[h1]
  exact List.map_congr_left fun id hid=>by rw[hμ id hid]
 ·obtain⟨q1,q2,q3⟩:=h3 id hid
  obtain⟨r1,⟨b',r2,r3⟩,r4⟩:=M.c9 id _ q2 rfl
  have:b' = .defer:=by cases b'<;>first | rfl | exact r3.elim
  subst this
  exact⟨q1,r2,by rw[hμ id hid,r4 rfl]; exact q3⟩
theorem qu (n0:Nat) (x:Cx):lK n0 x [] []:=⟨rfl,List.nodup_nil,by simp⟩
theorem C1 {b : Frame} {a : Act} {k : List Item} {cs : List Frame} {w : World} {g : Operand} {ps : Array Tmp} {assign body : Code} {f : FuncId} {fs vs : Array Value} {fn : Func} {c : Code} (hk : b.kind ≠ .early) (hr : b.roundOf = none) (hg : a.eval g = .func (.func f) fs vs) (hf : P.funcs[f]? = some fn) (hb : fn.body = some c) (th : (fn.name == "runtime.NumGoroutine") = false) :
  ∃ es,stepG P true (G (b.atR a (.code (.rangeFunc g ps assign body)::k)) cs) w =
   .go (G (Frame.enter P f (fs++#[.func (.yield (w.heap.size+1)) #[] #[]]++vs) .normal) (b.atR { a with defers:={ target := .collected w.heap.size,args:=#[] }::a.defers } (.inRangeFunc (w.heap.size+1)::k)::cs))
    ((w.alloc (.deferred (some []))).alloc (.loop { state := .ready,pending:=none,fn:=b.fn,tmps:=a.tmps,params:=ps,assign,body,defers:=w.heap.size })) es:=by
 have pR:(b.kind==CallKind.early)=false:=by simpa using hk
 have sM:=Frame.eval_atR b { a with defers:={ target := .collected w.heap.size,args:=#[] }::a.defers } (.inRangeFunc (w.heap.size+1)::k)
 simp only[Frame.atR,hr] at sM
 have abW:({ tmps:=a.tmps,defers:={ target := .collected w.heap.size,args:=#[] }::a.defers }:Act).eval g = .func (.func f) fs vs:=by
  rw[← hg]; cases g<;>rfl
 have LG:∀ (w2:World),(do let d ← resolve ({ tmps:=a.tmps,defers:={ target := .collected w.heap.size,args:=#[] }::a.defers }:Act).eval { callee := .value g,args:=#[.const (.func (.yield (w.heap.size+1)) #[] #[])],argTypes:=#[] } 0; invoke d.target d.args:Sem Next).run P w2 = .ok (.enter f (fs++#[.func (.yield (w.heap.size+1)) #[] #[]]++vs)) w2:=by
  intro w2
  have abQ:∀ (a:Act) (v:Value),a.eval (.const v)=v:=fun _ _=>rfl
  have hn2 : ¬ fn.name = "runtime.NumGoroutine" := by simpa using th
  simp[resolve,abW,abQ,Deferred.ofValue,invoke,callFunc,hf,hn2,hb]
 have Gv:(Instr.enterLoop b.fn a.tmps ps assign body none).run P w = .ok (w.heap.size+1,[{ target := .collected w.heap.size,args:=#[] }])
   ((w.alloc (.deferred (some []))).alloc (.loop { state := .ready,pending:=none,fn:=b.fn,tmps:=a.tmps,params:=ps,assign,body,defers:=w.heap.size })):=by
  simp[Instr.enterLoop]
 simp only[G,stepG,stepG.exec,Frame.atR,hr,Sem.runT_eq,Gv,stepG.apply,sM,if_true,LG,pR,List.singleton_append,GStep.after,Bool.false_eq_true,if_false]
 exact⟨_,rfl⟩
end Go.Di
end
