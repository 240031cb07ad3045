import Derived.Test.YtedcgbkilmlbhaaGreatPk23
import Derived.Conc.CompanyMem
import Derived.Conc.AppendWalk
import Derived.Laws.AppendOwn
import Derived.Below
import Derived.Test.YtedcgbkilmlbhaaGreatPk17
import Derived.AtR
section
namespace Go.Co
open Go Go.Conc
open Go.ConcN (sumTo upd upd_same upd_ne)
variable {P:Program} {af:Machine→Trace→Prop} {Cs:Nat→Prop}
def wm (n:Nat) (rk:Nat→Tr):List Tr:=(List.range n).map rk
theorem KQ {n i:Nat} {rk:Nat→Tr} {r:Tr} (hi:i<n):wm n (upd rk i r)=(wm n rk).set i r:=by
 apply List.ext_getElem?
 intro j
 unfold wm
 rw[List.getElem?_set]
 by_cases hj:i=j
 ·subst hj
  simp[hi,upd_same]
 ·by_cases jT:j<n
  ·simp[hj,jT,upd_ne _ _ (Ne.symm hj)]
  ·simp[hj,jT]
theorem uh {n i:Nat} {rk:Nat→Tr} {r:Tr} (hi:i<n) (h:Vo r (rk i)):LLt (wm n (upd rk i r)) (wm n rk):=by
 rw[KQ hi]
 exact .mk _ i (rk i) r (by simp[wm,hi]) h
variable {N:Net} {γ:Nat→So} {rk:Nat→Tr} {tp:Nat} {gs:Array Goroutine} {w:World} {t:Trace}
theorem tP (h:sX P af Cs N γ rk tp gs w t) {i:Nat} (hi:i<N.n):∃ g,gs[i]? = some g:=by
 have:i<gs.size:=by rw[h.size]; exact hi
 exact⟨gs[i],Array.getElem?_eq_getElem this⟩
theorem Ox (h:sX P af Cs N γ rk tp gs w t)
  (hen:(∃ i j c v k ok z k',i<N.n∧j<N.n∧N.pr i = .send c v k∧N.pr j = .recv c ok z k')∨(∃ i c k,i<N.n∧N.pr i = .close c k)∨(∃ j c ok z k E,j<N.n∧N.pr j = .recv c ok z k∧N.cl c=some E)∨(∃ i ch k,i<N.n∧N.pr i = .go ch k)) :
  ∃ (i:Nat) (g:Goroutine),gs[i]? = some g∧g.status = .running:=by
 rcases hen with ⟨i,j,c,v,k,ok,z,k',hi,hj,xZ,s5⟩ | ⟨i,c,k,hi,hp⟩ | ⟨j,c,ok,z,k,E,hj,hp,hE⟩ | ⟨i,ch,k,hi,hp⟩
 ·obtain⟨g,hg⟩:=tP h hi
  obtain⟨g',jW⟩:=tP h hj
  have hm:=h.mem i g hg
  have F0:=h.mem j g' jW
  rw[xZ] at hm
  rw[s5] at F0
  rcases hm.awake with e | e | e
  ·exact⟨i,g,hg,e⟩
  ·rcases F0.awake with e' | e' | e'
   ·exact⟨j,g',jW,e'⟩
   ·exact(h.apart i j c v k ok z k' g g' hg jW e e' xZ s5).elim
   ·generalize rk j=rj at F0
    cases F0 with
    | run p r g h1 h2=>rw[cC h2] at e'; cases e'
    | recv _ _ _ _ g h1 h2=>cases e'
  ·generalize rk i=ri at hm
   cases hm with
   | run p r g h1 h2=>rw[cC h2] at e; cases e
   | send _ _ _ g _ h1=>cases e
 ·obtain⟨g,hg⟩:=tP h hi
  have hm:=h.mem i g hg
  rw[hp] at hm
  generalize rk i=ri at hm
  cases hm with
  | run p r g h1 h2=>exact⟨i,_,hg,cC h2⟩
 ·obtain⟨g,hg⟩:=tP h hj
  have hm:=h.mem j g hg
  rw[hp] at hm
  generalize rk j=rj at hm
  cases hm with
  | run p r g h1 h2=>exact⟨j,_,hg,cC h2⟩
  | recv _ _ _ _ g h1 h2 =>
   rw[h.open_ j c ok z k _ hg rfl hp] at hE
   cases hE
 ·obtain⟨g,hg⟩:=tP h hi
  have hm:=h.mem i g hg
  rw[hp] at hm
  generalize rk i=ri at hm
  cases hm with
  | run p r g h1 h2=>exact⟨i,_,hg,cC h2⟩
end Go.Co
end
section
namespace Go.Co
open Go Go.Conc
open Go.ConcN (sumTo upd upd_same upd_ne)
variable {P:Program} {af:Machine→Trace→Prop} {Cs:Nat→Prop}
theorem Lb (hP:Plain P) {N:Net} (hW:x6 Cs N):∀ (γ:Nat→So) (rk:Nat→Tr) (tp:Nat) (gs:Array Goroutine) (w:World) (sl:Option (Nat×Nat)) (t:Trace),sX P af Cs N γ rk tp gs w t→Qa P af (crowd gs w sl) t:=by
 induction hW with
 | done N h0 hd=>exact fun γ rk tp gs w sl t h=>O8 h h0 hd
 | step N hno h0 hsend hrecv hen Uy acm aaN aaT hstart ihm ihs ihh ihg =>
  intro γ rk tp gs w sl t h
  have acc:=Jo (wm N.n rk)
  generalize hl:wm N.n rk=l at acc
  induction acc generalizing γ rk tp gs w sl t with
  | intro l _ ih =>
   subst hl
   have LQ:∀ g∈gs,awake g:=by
    intro x hx
    obtain⟨i,hi,rfl⟩:=Array.mem_iff_getElem.1 hx
    exact awake_of ((h.mem i _ (Array.getElem?_eq_getElem hi)).awake)
   obtain⟨i,g,d,sl',hi,hg,hst⟩:=crowd_pick (P:=P) (w:=w) (sl:=sl) LQ (Ox h hen)
   have lQ:i<N.n:=by rw[← h.size]; exact(Array.getElem?_eq_some_iff.1 hi).1
   have hm:=h.mem i g hi
   generalize YR:rk i=r at hm
   generalize Md:N.pr i=p at hm
   have h2:=Gy h hno d
   cases hm with
   | stop n g h3 h4 =>
    cases n with
    | zero=>rw[h4.1] at hg; cases hg
    | succ n =>
     rcases h4 with ⟨hf,_⟩ | ⟨_,g',es,hmu,Mu,hq⟩
     ·rw[hf] at hg; cases hg
     obtain⟨hrun,mu⟩:=Oy (sl:=sl') h2 hi Md h3 hmu Mu hq hsend hrecv
     rw[hrun] at hst
     exact fK hst (ih _ (uh lQ (by rw[YR]; exact RE n)) _ _ _ _ _ sl' _ mu rfl)
   | ret r g h3 h4 h5=>exact absurd Md (hno i lQ).1
   | send c v k g z h3=>cases hg
   | recv c ok z k g h3 h4=>cases hg
   | run p r0 g fV hG =>
    subst Md
    cases r0 with
    | node f =>
     obtain⟨g',w',es,γ',e1,hS,hG'⟩:=hG.2 (w.at d) (u7 _ _ _)
     obtain⟨hrun,mu⟩:=Ow (sl:=sl') hP h hno hsend hrecv hi fV e1 hS hG'
     rw[hrun] at hst
     exact fK hst (ih _ (uh lQ (by rw[YR]; exact WS f (w.at d))) _ _ _ _ _ sl' _ mu rfl)
    | leaf =>
     have hS:=hG (w.at d) (u7 _ _ _)
     cases hp:N.pr i with
     | stop=>exact absurd hp fV.1
     | ret=>exact absurd hp fV.2.1
     | bad=>exact absurd hp fV.2.2
     | send c v k =>
      rw[hp] at hS
      obtain⟨Du,uT⟩:=hsend i c v k lQ hp
      rcases OA (sl:=sl') h hno hi hp Du uT hS.1 hS.2 (fun j ok z kr hj hr=>Uy i j c v k ok z kr lQ hj hp hr) with ⟨gs',hrun,mu⟩ | ⟨N',gs',w',ops,AQ,hrun,-,⟨j,ok,z,kr,hj,hr,rfl⟩,mu⟩
      ·rw[hrun] at hst
       refine fK hst ?_
       rw[Array.append_empty]
       exact ih _ (uh lQ (by rw[YR]; exact Ev)) _ _ _ _ _ sl' _ (Gy mu hno d) rfl
      ·rw[hrun] at hst
       exact fK hst (ihm i j c v k ok z kr lQ hj hp hr _ _ _ _ _ sl' _ mu)
     | recv c ok z kr =>
      rw[hp] at hS hG
      have lR:=hrecv i c ok z kr lQ hp
      have hS0:=hG w (fJ _ _)
      cases qJ:N.cl c with
      | none =>
       rcases OB (sl:=sl') h hno hi hp qJ lR hS.1 (fun w1 h1=>(hG w1 h1).1) hS0.2 (fun j v k hj hs=>Uy j i c v k ok z kr hj lQ hs hp) with ⟨gs',hrun,mu⟩ | ⟨N',gs',w',ops,AQ,hrun,-,⟨j,v,k,hj,hs,rfl⟩,mu⟩
       ·rw[hrun] at hst
        refine fK hst ?_
        rw[Array.append_empty]
        exact ih _ (uh lQ (by rw[YR]; exact Ev)) _ _ _ _ _ sl' _ (Gy mu hno d) rfl
       ·rw[hrun] at hst
        exact fK hst (ihm j i c v k ok z kr hj lQ hs hp _ _ _ _ _ sl' _ mu)
      | some E =>
       obtain⟨gs',ops,AQ,hrun,mu⟩:=OC (sl:=sl') (d:=d) h2 hsend hi hp qJ lR hS.1 hS.2 (aaT i c ok z kr E lQ hp qJ)
       have hrun:runT P (crowd gs (w.at d) sl') i=_:=hrun
       rw[hrun] at hst
       exact fK hst (ihh i c ok z kr E lQ hp qJ _ _ _ _ _ sl' _ mu)
     | close c k =>
      rw[hp] at hS
      obtain⟨-,hmw,g',xD,hstep,hk⟩:=hS
      obtain⟨Du,uT⟩:=acm i c k lQ hp
      have hw:=aaN i c k lQ hp
      have B3:∀ j v k',j<N.n→N.pr j ≠ .send c v k':=by
       intro j v k' hj e
       have eH:j≠i:=by rintro rfl; rw[hp] at e; cases e
       have e':(N.shut i c k).pr j = .send c v k':=(upd_ne _ _ eH).trans e
       have qJ:(N.shut i c k).cl c≠none:=by
        show upd N.cl c _ c≠none
        rw[upd_same]; simp
       cases hw with
       | done _ h3 h4 =>
        by_cases JP:j=0
        ·rw[JP,h3] at e'; cases e'
        ·rw[(h4 j (by omega) hj).1] at e'; cases e'
       | step _ _ _ h5=>exact qJ (h5 j c v k' hj e').1
      obtain⟨gs',w',ops,AQ,hrun,mu⟩:=Oz (sl:=sl') (d:=d) hP h2 hno hsend hrecv hi hp Du uT hmw xD hstep hk B3 hw
      have hrun:runT P (crowd gs (w.at d) sl') i=_:=hrun
      rw[hrun] at hst
      exact fK hst (ihs i c k lQ hp _ _ _ _ _ sl' _ mu)
     | go ch k =>
      rw[hp] at hS
      obtain⟨uO,g',x0,xD,e1,F8,hch,hk⟩:=hS
      obtain⟨gs',ops,AQ,hrun,mu⟩:=Ku (sl:=sl') (d:=d) hP h2 hi hp e1 xD F8 hch hk (hstart i ch k lQ hp)
      have hrun:runT P (crowd gs (w.at d) sl') i=_:=hrun
      rw[hrun] at hst
      exact fK hst (ihg i ch k lQ hp _ _ _ _ _ sl' _ mu)
end Go.Co
end
section
namespace Go.Co
open Go Go.Conc
open Go.ConcN (sumTo upd upd_same upd_ne)
variable {P:Program} {af:Machine→Trace→Prop} {Cs:Nat→Prop}
def entry (n:Nat) (p:Pc):Net:=⟨n,fun j=>if j=0 then p else .stop,fun _ j=>0<j∧j<n,fun _=>none⟩
theorem Xy (hP:Plain P) {p:Pc} {S O:Nat→Prop} {g:Goroutine} {w:World} (hp:p.live) (mH:Pr P af true p (S,O) g w)
  (hSO:∀ b,O b→¬ S b) (J6:∀ b,S b∨O b→b<w.heap.size)
  (hc:∀ c,Cs c→(∃ s tm,w.heap[c]? = some (.chan 0 #[] false s s tm))∧¬ S c∧¬ O c)
  (hW:∀ n,0<n→x6 Cs (entry n p)):ff P af () g w:=by
 intro d hf hr hd gs sl t q h0 hL Ed
 have hlt:0<gs.size:=(Array.getElem?_eq_some_iff.1 h0).1
 obtain⟨r,hG⟩:=Ja hp mH
 have hG:=zb AZ hG (u7 (S,O) w d)
 have hno:∀ i a,t.size≤i→touchAt t i=some a→False:=by
  intro i a hi ha
  obtain⟨x,hx,-⟩:=touch_of ha
  have:=(Array.getElem?_eq_some_iff.1 hx).1
  omega
 have fV:∀ j,(entry gs.size p).pr j ≠ .stop→j=0:=by
  intro j hj
  by_cases h:j=0
  ·exact h
  ·exact absurd (by simp[entry,h]) hj
 have ac4:(entry gs.size p).pr 0=p:=rfl
 have hγ:∀ j b,((if j=0 then ((S,O):So) else (fun _=>False,fun _=>False)).1 b→j=0∧S b)∧((if j=0 then ((S,O):So) else (fun _=>False,fun _=>False)).2 b→j=0∧O b):=by
  intro j b
  by_cases h:j=0<;>simp[h]
 refine Lb hP (hW gs.size hlt) (fun j=>if j=0 then (S,O) else (fun _=>False,fun _=>False)) (fun j=>if j=0 then r.up else Tr.nat (q j)) t.size gs (w.at d) sl t
  ⟨rfl,hlt,fun j x hx => ?_,⟨Ed.clean,fun j hj => ?_,fun i a j hi ha hm hj jT => ?_,fun i a b j hi ha=>(hno i a hi ha).elim,fun i a b j hi ha=>(hno i a hi ha).elim,fun i a b hi ha=>(hno i a hi ha).elim,fun i a hi ha=>(hno i a hi ha).elim,fun i j hi hg => ?_,fun i a j x hi ha=>(hno i a hi ha).elim,fun c E hE=>(by cases hE),fun j j' b hb => ?_,fun j b hb => ?_,fun c E j hE=>(by cases hE),fun x j hj => ?_,Nat.le_refl _⟩,fun c hcc => ?_,fun j c ok z k x hx hb s5=>rfl,fun i j c v k ok z k' x y hx hy hbx => ?_,fun x hx => ?_⟩
 ·by_cases h:j=0
  ·subst h
   rw[h0] at hx
   cases hx
   have:=Mem.run (P:=P) (af:=af) (j:=0) (d:=Deaf t 0) (γ:=(S,O)) (w:=w.at d) p r g hp hG
   simpa [entry] using this
  ·have:=Mem.stop (P:=P) (af:=af) (j:=j) (d:=Deaf t j) (γ:=((fun _=>False,fun _=>False):So)) (w:=w.at d) (q j) x h (hL.old j x (by omega) hx)
   simpa [entry,h] using this
 ·rcases hj with hj | hj
  ·rw[fV j hj]; exact Ed.hears
  ·exact hL.above j hj
 ·rw[fV j hj]
  exact Ed.known i a ha hm
 ·unfold Trace.g? at hg
  obtain⟨z,hz,-⟩:=Option.map_eq_some_iff.1 hg
  have:=(Array.getElem?_eq_some_iff.1 hz).1
  omega
 ·obtain⟨rfl,hO⟩:=(hγ j b).2 hb
  refine⟨fun hS=>hSO b hO ((hγ j' b).1 hS).2,fun hne kL=>hne ((hγ j' b).2 kL).1.symm⟩
 ·rcases hb with hb | hb
  ·exact J6 b (.inl ((hγ j b).1 hb).2)
  ·exact J6 b (.inr ((hγ j b).2 hb).2)
 ·refine⟨hj.2,?_⟩
  have:j≠0:=by have:=hj.1; omega
  simp[entry,this]
 ·obtain⟨h1,h2,h3⟩:=hc c hcc
  refine⟨h1,fun j=>⟨fun h=>h2 ((hγ j c).1 h).2,fun h=>h3 ((hγ j c).2 h).2⟩⟩
 ·intro Yn xZ s5
  have h1:=fV i (by rw[xZ]; simp)
  have h2:=fV j (by rw[s5]; simp)
  subst h1; subst h2
  rw[xZ] at s5
  cases s5
 ·rw[h0] at hx
  cases hx
  exact hf
variable {fn:FuncId} {γ:So} {c:Code} {a:Act} {w:World}
theorem Cw {g:Goroutine} (hd:g.dying=none) (h:ff P af () g w):KG P af true (.ret,γ) g w:=fun _ _=>⟨hd,h⟩
theorem M0 {g:Goroutine} (h:KG P af true (.ret,γ) g w):ff P af () g w:=(h (fun h=>by cases h) (by simp)).2
theorem XY {b:Frame} {k:List Item} {cs:List Frame} {e:Exit} {a:Act} {w:World} (h:xx (KG P af true) b k cs (.ret,γ) e a w):xx (ff P af) b k cs () e a w:=by
 cases e with
 | normal=>exact M0 h
 | exit id =>
  obtain⟨k',h1,h2⟩:=h
  exact⟨k',h1,M0 h2⟩
 | ret=>exact fun todo=>M0 (h todo)
 | goto l=>exact h
 | panic ch=>exact h
 | outgrown=>exact h
theorem Ta {b:Frame} {k:List Item} {cs:List Frame} {e:Exit} {a:Act} {w:World} (h:xx (ff P af) b k cs () e a w):xx (KG P af true) b k cs (.ret,γ) e a w:=by
 cases e with
 | normal=>exact Cw rfl h
 | exit id =>
  obtain⟨k',h1,h2⟩:=h
  exact⟨k',h1,Cw rfl h2⟩
 | ret=>exact fun todo=>Cw rfl (h todo)
 | goto l=>exact h
 | panic ch=>exact h
 | outgrown=>exact h
theorem Pk {Q:Gm→Exit→Act→World→Prop} (h:KJ (ff P af) fn () c (fun _=>Q (.ret,γ)) a w):KJ (KG P af true) fn (.ret,γ) c Q a w :=
 fun b k cs hb hk hc=>Cw rfl (h b k cs hb hk fun _ e a' w' q=>XY (hc _ e a' w' q))
theorem Pj (hP:Plain P) {p:Pc} {S O:Nat→Prop} {Q:Exit→Act→World→Prop} (hp:p.live)
  (hSO:∀ b,O b→¬ S b) (J6:∀ b,S b∨O b→b<w.heap.size)
  (hc:∀ c,Cs c→(∃ s tm,w.heap[c]? = some (.chan 0 #[] false s s tm))∧¬ S c∧¬ O c)
  (hW:∀ n,0<n→x6 Cs (entry n p))
  (h:KJ (KG P af true) fn (p,(S,O)) c (fun γ' e a' w'=>γ'.1 = .ret∧Q e a' w') a w):KJ (ff P af) fn () c (fun _=>Q) a w:=by
 intro b k cs hb hk acp
 refine Xy hP hp (h b k cs hb hk (fun γ' e a' w' q => ?_) (fun h=>by cases h) hp.1) hSO J6 hc hW
 obtain⟨p',γ'⟩:=γ'
 obtain⟨rfl,q⟩:=q
 exact Ta (acp () e a' w' q)
end Go.Co
end
section
namespace Go.Co
open Go Go.Conc
variable {P : Program} {af : Machine → Trace → Prop} {main : Bool} {K : Gm → Goroutine → World → Prop} {fn : FuncId} {p : Pc} {γ : So} {Q : Gm → Exit → Act → World → Prop} {a : Act} {w : World} {ops : Array Oper} {i : Nat} {rest : List Nat} {o : Oper}
theorem Ql (hp : p ≠ .ret) {w1 : World} (h : xG (p, γ) w w1) : gb γ w w1 := by
 unfold xG at h
 cases p <;> first | exact h | exact absurd rfl hp
theorem YB (hp : p ≠ .ret) {s : So} {w' : World} {es : Array Event} (h : Dy γ w s w' es) : B7 (p, γ) w (p, s) w' es := by
 refine ⟨rfl, ?_⟩
 cases p <;> first | exact h | exact absurd rfl hp
def Ka (P : Program) (af : Machine → Trace → Prop) (γ : Gm) (g : Goroutine) (w : World) : Prop := γ.1 = .bad → ∀ w1, gb γ.2 w w1 → ff P af () g w1
theorem SD (hP : Plain P) : KC P true (Ka P af) xG B7 where
 step := fun γ fr cs w h hb w0 r0 => by
  obtain ⟨p, γ⟩ := γ
  simp only at hb
  subst hb
  refine (tY hP).step () fr cs w0 fun w1 h1 => ?_
  obtain ⟨d, rfl⟩ := h1
  obtain ⟨fr', gL, w', es, γ', e, ⟨od, -⟩, hk⟩ := h (w0.at d) (eW r0 (u7 γ w0 d))
  exact ⟨fr', gL, w', es, (), e, trivial, hk od w' (fJ _ _)⟩
 idle := (wv (af := af) (main := true) hP).idle
 rely := fun γ g w w1 r h hb w2 r2 => by
  obtain ⟨p, γ⟩ := γ
  exact h hb w2 (eW (Ql (by simp only at hb; subst hb; simp) r) r2)
theorem SB {c : Code} {Q : Gm → Exit → Act → World → Prop} {Q' : Exit → Act → World → Prop} (hq : ∀ γ' e a w w1, Q γ' e a w → gb γ'.2 w w1 → γ'.1 = .bad → Q' e a w1) (h : KJ (Ka P af) fn (.bad, γ) c (fun γ' e a w => γ'.1 = .bad ∧ Q γ' e a w) a w) : KJ (ff P af) fn () c (fun _ => Q') a w := by
 intro b k cs hb hk hc
 refine h b k cs hb hk (fun γ' e a' w' q => ?_) rfl w (fJ _ _)
 have dG : ∀ w1, gb γ'.2 w' w1 → xx (ff P af) b k cs () e a' w1 := fun w1 r => hc () e a' w1 (hq _ _ _ _ _ q.2 r q.1)
 cases e with
 | normal => exact fun _ w1 r => dG w1 r
 | exit id =>
  obtain ⟨k', h1, -⟩ := dG w' (fJ _ _)
  refine ⟨k', h1, fun _ w1 r => ?_⟩
  obtain ⟨k2, h2, h3⟩ := dG w1 r
  rw [h1] at h2
  cases h2
  exact h3
 | ret => exact fun todo _ w1 r => dG w1 r todo
 | goto l => exact (dG w' (fJ _ _)).elim
 | panic ch => exact (dG w' (fJ _ _)).elim
 | outgrown => exact (dG w' (fJ _ _)).elim
theorem ov {es : Array Event} (ts : Array TypeId) (t : TypeId) (k k' : IntKind) (x y : Int) : (Builtin.max_ ts t #[.int k x, .int k' y]).events P w es = es := by
 simp [Builtin.max_, Builtin.max2]
theorem ou {es : Array Event} (ts : Array TypeId) (t : TypeId) (k k' : IntKind) (x y : Int) : (Builtin.min_ ts t #[.int k x, .int k' y]).events P w es = es := by
 simp [Builtin.min_, Builtin.min2]
theorem cD (C : KC P main K xG B7) {γ : Gm} {v : Value} (ho : ops[i]? = some o) (hw : Region.wanted o (yielded ops a.tmps) = true) (hrun : ∀ w, (execOp a.eval o).run P w = .ok (.value v) w) (qa : ∀ w, (execOp a.eval o).events P w #[] = #[])
  (h : KO K fn γ ops rest Q (a.put o.dst v) w) : KO K fn γ ops (i :: rest) Q a w :=
 tW C ho hw fun w₁ r => by rw [hrun w₁]; exact ⟨γ, by rw [listed_nil (qa w₁)]; exact C.idle _ _, C1 C r h⟩
theorem aj (C : KC P main K xG B7) {γ : Gm} {v : Value} (h : KO K fn γ ops rest Q (a.put o.dst v) w) (ho : ops[i]? = some o := by rfl) (hw : Region.wanted o (yielded ops a.tmps) = true := by rfl) (hrun : ∀ w, (execOp a.eval o).run P w = .ok (.value v) w := by exact fun w => run_eq_of fun K hK => (by go_simp; exact hK)) (qa : ∀ w, (execOp a.eval o).events P w #[] = #[] := by intro w; first | (simp [go_sem]; done) | (simp [go_sem, *]; done)) : KO K fn γ ops (i :: rest) Q a w := cD C ho hw hrun qa h
theorem GM (C : KC P main K xG B7) (hp : p ≠ .ret) (ho : ops[i]? = some o) (hw : Region.wanted o (yielded ops a.tmps) = true)
  (h : ∀ w₁, gb γ w w₁ → ∃ v w' s, (execOp a.eval o).run P w₁ = .ok (.value v) w' ∧ Dy γ w₁ s w' (listed P fn a o w₁) ∧ KO K fn (p, s) ops rest Q (a.put o.dst v) w') : KO K fn (p, γ) ops (i :: rest) Q a w :=
 tW C ho hw fun w₁ r => by
  obtain ⟨v, w', s, h1, h2, h3⟩ := h w₁ (Ql hp r)
  rw [h1]
  exact ⟨(p, s), YB hp h2, h3⟩
theorem mA (C : KC P main K xG B7) (hp : p ≠ .ret) {v : Value} (ho : ops[i]? = some o) (hw : Region.wanted o (yielded ops a.tmps) = true)
  (hrun : ∀ w₁, gb γ w w₁ → (execOp a.eval o).run P w₁ = .ok (.value v) w₁ ∧ ∀ e ∈ (execOp a.eval o).events P w₁ #[], QB γ.1 γ.2 e) (h : KO K fn (p, γ) ops rest Q (a.put o.dst v) w) : KO K fn (p, γ) ops (i :: rest) Q a w :=
 GM C hp ho hw fun w₁ r => ⟨v, w₁, γ, (hrun w₁ r).1, ⟨rfl, EA fun e he => (hrun w₁ r).2 e (mem_listed he)⟩, C1 C (by unfold xG; cases p <;> first | exact r | exact absurd rfl hp) h⟩
def So.more (γ : So) (n : Nat) : So := (γ.1, fun b => γ.2 b ∨ b = n)
theorem RM (ob : Obj) : Dy γ w (γ.more w.heap.size) (w.alloc ob) #[] := by
 have hsz : (w.alloc ob).heap.size = w.heap.size + 1 := by simp
 refine ⟨rfl, fun b => ?_, by omega, fun b hb _ => RowKit.Below.heap_alloc _ _ _ hb, rfl, rfl, rfl, by simp⟩
 show γ.2 b ∨ b = w.heap.size ↔ _
 rw [hsz]
 refine or_congr_right ?_
 omega
theorem Cu (C : KC P main K xG B7) (hp : p ≠ .ret) {f : Nat → Value} {ob : Obj} (ho : ops[i]? = some o) (hw : Region.wanted o (yielded ops a.tmps) = true)
  (hrun : ∀ w, (execOp a.eval o).run P w = .ok (.value (f w.heap.size)) (w.alloc ob)) (qa : ∀ w, (execOp a.eval o).events P w #[] = #[])
  (h : ∀ w₁, gb γ w w₁ → KO K fn (p, γ.more w₁.heap.size) ops rest Q (a.put o.dst (f w₁.heap.size)) (w₁.alloc ob)) : KO K fn (p, γ) ops (i :: rest) Q a w :=
 GM C hp ho hw fun w₁ r => ⟨_, _, _, hrun w₁, by rw [listed_nil (qa w₁)]; exact RM ob, h w₁ r⟩
theorem mB (C : KC P main K xG B7) (hp : p ≠ .ret) {ob : Obj} (ho : ops[i]? = some o) (hw : Region.wanted o (yielded ops a.tmps) = true)
  (hrun : ∀ w, (execOp a.eval o).run P w = .ok (.value (.pointer (some ⟨w.heap.size, 0, none⟩))) (w.alloc ob)) (qa : ∀ w, (execOp a.eval o).events P w #[] = #[])
  (h : ∀ w₁, gb γ w w₁ → KO K fn (p, γ.more w₁.heap.size) ops rest Q (a.put o.dst (.pointer (some ⟨w₁.heap.size, 0, none⟩))) (w₁.alloc ob)) : KO K fn (p, γ) ops (i :: rest) Q a w :=
 Cu C hp (f := fun n => .pointer (some ⟨n, 0, none⟩)) ho hw hrun qa h
theorem NL (C : KC P main K xG B7) (hp : p ≠ .ret) {ob : Obj} {n : Nat} (ho : ops[i]? = some o) (hw : Region.wanted o (yielded ops a.tmps) = true)
  (hrun : ∀ w, (execOp a.eval o).run P w = .ok (.value (.slice (some ⟨w.heap.size, 0, none⟩) n n)) (w.alloc ob)) (qa : ∀ w, (execOp a.eval o).events P w #[] = #[])
  (h : ∀ w₁, gb γ w w₁ → KO K fn (p, γ.more w₁.heap.size) ops rest Q (a.put o.dst (.slice (some ⟨w₁.heap.size, 0, none⟩) n n)) (w₁.alloc ob)) : KO K fn (p, γ) ops (i :: rest) Q a w :=
 Cu C hp (f := fun m => .slice (some ⟨m, 0, none⟩) n n) ho hw hrun qa h
theorem RL {ad : Addr} {v : Value} {es : Array Event} (hO : γ.2 ad.block) (hes : ∀ e ∈ es, QB γ.1 γ.2 e) : Dy γ w γ (w.setCell ad v) es := by
 have hsz : (w.setCell ad v).heap.size = w.heap.size := World.size_setCell ..
 refine ⟨rfl, fun b => ⟨.inl, fun h => h.elim id fun h => absurd h.2 (by omega)⟩, by omega, fun b _ hn => ?_, rfl, rfl, rfl, hes⟩
 exact heap_setCell_other _ _ _ _ (fun e => hn (e ▸ hO))
theorem GL (C : KC P main K xG B7) (hp : p ≠ .ret) {ad : Addr} {v : Value} (ho : ops[i]? = some o) (hw : Region.wanted o (yielded ops a.tmps) = true) (hO : γ.2 ad.block)
  (hrun : ∀ w₁, gb γ w w₁ → (execOp a.eval o).run P w₁ = .ok .skip (w₁.setCell ad v) ∧ ∀ e ∈ (execOp a.eval o).events P w₁ #[], e = ⟨.cell ad, true, false⟩)
  (h : ∀ w₁, gb γ w w₁ → KO K fn (p, γ) ops rest Q (a.put o.dst undef) (w₁.setCell ad v)) : KO K fn (p, γ) ops (i :: rest) Q a w :=
 tW C ho hw fun w₁ r => by
  obtain ⟨h1, h2⟩ := hrun w₁ (Ql hp r)
  rw [h1]
  refine ⟨(p, γ), YB hp (RL hO fun e he => ?_), h w₁ (Ql hp r)⟩
  rw [h2 e (mem_listed he)]
  exact .inl ⟨ad, true, false, rfl, fun _ => hO, .inr hO⟩
theorem lG {Γ : Type} {K : Γ → Goroutine → World → Prop} {Rl : Γ → World → World → Prop} {St : Γ → World → Γ → World → Array Event → Prop} {γ : Γ} {Q : Γ → Exit → Act → World → Prop} (C : KC P main K Rl St) {c : Code} (I : Nat → Γ → Act → World → Prop) {n : Nat} (h₀ : I n γ a w)
  (round : ∀ n γ a w, I n γ a w → KJ K fn γ c (fun γ' => Exit.then (fun a' w' => ∃ m, m < n ∧ I m γ' a' w') (Q γ')) a w) : KJ K fn γ (.loop c) Q a w := by
 intro b k cs hb hk hc
 have key : ∀ n γ a w, I n γ a w → K γ (G (b.at a (.code c :: .inLoop c :: k)) cs) w := by
  intro n
  induction n using Nat.strongRecOn with
  | ind n ih =>
   intro γ a w hI
   refine round n γ a w hI b (.inLoop c :: k) cs hb hk fun γ' e a' w' q => ?_
   cases e with
   | normal =>
    obtain ⟨m, hm, q⟩ := q
    exact C.go (fun _ => stepG_inLoop) (ih m hm γ' a' w' q)
   | exit id => exact (hc _ _ _ _ q).push rfl (by simp)
   | ret => exact xx.push (x := .inLoop c) rfl (by simp) (hc _ _ _ _ q)
   | goto l => exact hc _ _ _ _ q
   | panic ch => exact hc _ _ _ _ q
   | outgrown => exact hc _ _ _ _ q
 exact C.go (fun _ => stepG_loop) (key n γ a w h₀)
theorem lN {F : (Nat → Value) → Act} (h : a = F fun n => a.tmps.getD n undef) : ∃ u, a = F u := ⟨_, h⟩
theorem cO {N : Act → World → Prop} {R : Exit → Act → World → Prop} (h : N a w) : Exit.then N R .normal a w := h
def aT (γ : So) (w : World) (ad : Addr) (v : Value) : Prop := γ.all ad.block ∧ w.cell? ad = some v
theorem aT.rely {ad : Addr} {v : Value} {w1 : World} (h : aT γ w ad v) (r : gb γ w w1) : aT γ w1 ad v :=
 ⟨h.1, (World.cell?_of_block (r.2.1 ad.block h.1)).trans h.2⟩
theorem aT.lt {ad : Addr} {v : Value} (h : aT γ w ad v) : ad.block < w.heap.size := World.block_lt_of_cell? w ad h.2
theorem aT.alloc {ad : Addr} {v : Value} (h : aT γ w ad v) (n : Nat) (ob : Obj) : aT (γ.more n) (w.alloc ob) ad v :=
 ⟨h.1.imp id .inl, (World.cell?_alloc_lt w ob ad h.lt).trans h.2⟩
theorem aT.put {ad Zl : Addr} {v v' : Value} (h : aT γ w ad v) (hne : Zl ≠ ad) : aT γ (w.setCell Zl v') ad v :=
 ⟨h.1, (World.cell?_setCell_other w Zl ad v' hne).trans h.2⟩
theorem aT.Dw {ad : Addr} {v : Value} (h : aT γ w ad v) : QB γ.1 γ.2 ⟨.cell ad, false, false⟩ := .inl ⟨ad, false, false, rfl, fun h => (by cases h), h.1⟩
theorem aT.fresh {w : World} {n j : Nat} {cs : Array Value} {t : TypeId} {v : Value} (hn : n = w.heap.size) (h : cs[j]? = some v) : aT (γ.more n) (w.alloc (.cells cs t)) ⟨n, j, none⟩ v := by
 subst hn
 exact ⟨.inr (.inr rfl), by rw [World.cell?_alloc_new, h]⟩
theorem gp (C : KC P main K xG B7) (hp : p ≠ .ret) {v : Value} {ad : Addr} {x : Value} (hs : aT γ w ad x) (h : KO K fn (p, γ) ops rest Q (a.put o.dst v) w) (ho : ops[i]? = some o := by rfl) (hw : Region.wanted o (yielded ops a.tmps) = true := by rfl) (hrun : ∀ w₁ : World, w₁.cell? ad = some x → (execOp a.eval o).run P w₁ = .ok (.value v) w₁ := by exact fun w₁ hc => run_eq_of fun K hK => (by go_simp; exact hK)) (qa : ∀ w₁ : World, w₁.cell? ad = some x → QB γ.1 γ.2 ⟨.cell ad, false, false⟩ → ∀ e ∈ (execOp a.eval o).events P w₁ #[], QB γ.1 γ.2 e := by intro w₁ hc hv e he; simp [go_sem, hc] at he; subst he; exact hv) : KO K fn (p, γ) ops (i :: rest) Q a w :=
 mA C hp ho hw (fun w₁ r => ⟨hrun w₁ (hs.rely r).2, qa w₁ (hs.rely r).2 (hs.rely r).Dw⟩) h
theorem bz {Γ : Type} {K : Γ → Goroutine → World → Prop} {Rl : Γ → World → World → Prop} {St : Γ → World → Γ → World → Array Event → Prop} {γ : Γ} {Q : Γ → Exit → Act → World → Prop} (C : KC P main K Rl St) {id : Nat} {L : List Nat} (h : KO K fn γ ops L Q a w) (hL : List.range ops.size = L := by conv => lhs; simp only [List.size_toArray, List.length_cons, List.length_nil, Nat.reduceAdd, Nat.zero_add, List.range, List.range.loop]) : KJ K fn γ (.region id ops false) Q a w := vM C (hL ▸ h)
def uQ (γ : So) (w : World) (v : Value) (l : List Int) : Prop := ∃ A cap, v = .slice A l.length cap ∧ ∀ i x, l[i]? = some x → ∃ ad, A = some ad ∧ aT γ w (ad.add i) (.int .i64 x)
theorem uQ.rely {v : Value} {l : List Int} {w1 : World} (h : uQ γ w v l) (r : gb γ w w1) : uQ γ w1 v l := by
 obtain ⟨A, cap, rfl, h⟩ := h
 exact ⟨A, cap, rfl, fun i x hx => by obtain ⟨ad, h1, h2⟩ := h i x hx; exact ⟨ad, h1, h2.rely r⟩⟩
theorem uQ.alloc {v : Value} {l : List Int} (h : uQ γ w v l) (n : Nat) (ob : Obj) : uQ (γ.more n) (w.alloc ob) v l := by
 obtain ⟨A, cap, rfl, h⟩ := h
 exact ⟨A, cap, rfl, fun i x hx => by obtain ⟨ad, h1, h2⟩ := h i x hx; exact ⟨ad, h1, h2.alloc n ob⟩⟩
structure Kept (γ : So) (w : World) (γ' : So) (w' : World) : Prop where
 shr : γ'.1 = γ.1
 own : ∀ b, γ.2 b → γ'.2 b
 blk : ∀ b, γ.all b → b < w.heap.size → w'.heap[b]? = w.heap[b]?
 size : w.heap.size ≤ w'.heap.size
 env : w'.os = w.os ∧ w'.output = w.output
theorem Kept.all {γ' : So} {w' : World} (h : Kept γ w γ' w') {b : Nat} (hb : γ.all b) : γ'.all b := hb.imp (by rw [h.shr]; exact id) (h.own b)
theorem Kept.refl (γ : So) (w : World) : Kept γ w γ w := ⟨rfl, fun _ h => h, fun _ _ _ => rfl, Nat.le_refl _, rfl, rfl⟩
theorem Kept.trans {γ' γ'' : So} {w' LZ : World} (h : Kept γ w γ' w') (k : Kept γ' w' γ'' LZ) : Kept γ w γ'' LZ :=
 ⟨k.shr.trans h.shr, fun b hb => k.own b (h.own b hb), fun b hb hlt => (k.blk b (h.all hb) (Nat.lt_of_lt_of_le hlt h.size)).trans (h.blk b hb hlt), Nat.le_trans h.size k.size, k.env.1.trans h.env.1, k.env.2.trans h.env.2⟩
theorem Kept.rely {w1 : World} (r : gb γ w w1) : Kept γ w γ w1 := ⟨rfl, fun _ h => h, fun b hb _ => r.2.1 b hb, r.1, r.2.2.2⟩
theorem Kept.alloc (γ : So) (w : World) (n : Nat) (ob : Obj) : Kept γ w (γ.more n) (w.alloc ob) := ⟨rfl, fun _ h => .inl h, fun b _ hlt => RowKit.Below.heap_alloc _ _ _ hlt, by simp, rfl, rfl⟩
theorem Kept.sees {γ' : So} {w' : World} (h : Kept γ w γ' w') {ad : Addr} {v : Value} (s : aT γ w ad v) : aT γ' w' ad v :=
 ⟨h.all s.1, (World.cell?_of_block (h.blk ad.block s.1 s.lt)).trans s.2⟩
theorem Kept.B2 {γ' : So} {w' : World} (h : Kept γ w γ' w') {v : Value} {l : List Int} (s : uQ γ w v l) : uQ γ' w' v l := by
 obtain ⟨A, cap, rfl, s⟩ := s
 exact ⟨A, cap, rfl, fun i x hx => by obtain ⟨ad, h1, h2⟩ := s i x hx; exact ⟨ad, h1, h.sees h2⟩⟩
end Go.Co
end
section
namespace Go.Co
open Go Go.Conc
variable {P:Program} {af:Machine→Trace→Prop} {fn:FuncId} {γ:So} {a:Act} {w:World} {ops:Array Oper} {i:Nat} {rest:List Nat} {o:Oper}
theorem wR (hP:Plain P) {b:Frame} {k:List Item} {cs:List Frame} (hk:b.kind ≠ .early) {f:FuncId} {args:Array Operand} {ats:Array TypeId} {R:Value→World→Prop}
  (ho:ops[i]? = some o) (hw:Region.wanted o (yielded ops a.tmps)=true) (hop:o.op = .call { callee := .value (.func f),args,argTypes:=ats }) {sW:Func} {c:Code} (hf:P.funcs[f]? = some sW) (hb:sW.body=some c)
  (gq:∀ τ,Calls P f (args.map a.eval) (w.re τ 0) fun e w'=>∃ v,e = .returned v∧R v w') (dc:∀ v w',R v w'→∀ τ d,ff P af () (G (b.at (a.put o.dst v) (.inRegion ops rest::k)) cs) (w'.re τ d)):ff P af () (G (b.at a (.inRegion ops (i::rest)::k)) cs) w:=by
 refine Jr hP fun _ τ => ?_
 obtain⟨e,w',fr,⟨v,rfl,hR⟩,GP,Ia,fS⟩:=gq τ (b.at a (.inRegion ops (i::rest)::k)::cs)
 have Nd:=dc v w' hR
 have tC:=hP.count f sW hf
 have hstep:step P (lone (b.at a (.inRegion ops (i::rest)::k)) cs (w.re τ 0)) = .next (lone (Frame.enter P f (args.map a.eval) .normal) (b.at a (.inRegion ops (i::rest)::k)::cs) (w.re τ 0)):=by
  refine step_lone_go ?_
  have:=goes_call (P:=P) (main:=true) (b:=b) (k:=k) (cs:=cs) (w:=w.re τ 0) (K:=fun g w' es=>g=G ((base f).at { tmps:=args.map a.eval++Array.replicate (sW.ntmps-(args.map a.eval).size) undef,defers:=[] } [.code c]) (b.at a (.inRegion ops (i::rest)::k)::cs)∧w'=w.re τ 0∧es=#[]) ho hw hk hop hf tC hb ⟨rfl,rfl,rfl⟩
  obtain⟨g',w2,es,e1,e2,e3,e4⟩:=goes_elim this
  subst e2 e3 e4
  have GO:Frame.enter P f (args.map a.eval) .normal=(base f).at { tmps:=args.map a.eval++Array.replicate (sW.ntmps-(args.map a.eval).size) undef,defers:=[] } [.code c]:=by
   simp[Frame.enter,Frame.at,hf,hb,base]
  rw[GO]
  show (stepG P true (G (b.at a (.inRegion ops (i::rest)::k)) cs) (w.re τ 0)).bare=_
  rw[e1]
  rfl
 have Ng:step P (lone fr (b.at a (.inRegion ops (i::rest)::k)::cs) w') = .next (lone (b.at (a.put o.dst v) (.inRegion ops rest::k)) cs w'):=by
  rw[step_leave_returned fS,Frame.finish_at,ho]
  rfl
 have XC:Steps P (lone (b.at a (.inRegion ops (i::rest)::k)) cs (w.re τ 0)) (lone (b.at (a.put o.dst v) (.inRegion ops rest::k)) cs w') :=
  (Steps.one hstep).trans (Steps.trans GP (Steps.one Ng))
 obtain⟨n,hn⟩:=XC
 exact⟨n,_,w',hn,rfl,rfl,fun τ d=>Nd τ d⟩
theorem Sl (hP:Plain P) {Q:Unit→Exit→Act→World→Prop} {f:FuncId} {args:Array Operand} {ats:Array TypeId} {R:Value→World→Prop}
  (ho:ops[i]? = some o) (hw:Region.wanted o (yielded ops a.tmps)=true) (hop:o.op = .call { callee := .value (.func f),args,argTypes:=ats }) {sW:Func} {c:Code} (hf:P.funcs[f]? = some sW) (hb:sW.body=some c)
  (gq:∀ τ,Calls P f (args.map a.eval) (w.re τ 0) fun e w'=>∃ v,e = .returned v∧R v w') (dc:∀ v w',R v w'→∀ τ d,KO (ff P af) fn () ops rest Q (a.put o.dst v) (w'.re τ d)):KO (ff P af) fn () ops (i::rest) Q a w :=
 fun b k cs hbf hk hc=>wR hP hk ho hw hop hf hb gq fun v w' hR τ d=>dc v w' hR τ d b k cs hbf hk hc
theorem HD {f:FuncId} {args:Array Value} {Post:Gm→Value→World→Prop} {Post':Value→World→Prop} (hq:∀ γ' v w w1,Post γ' v w→γ'.1 = .bad→gb γ'.2 w w1→Post' v w1)
  (h:tM (Ka P af) P (.bad,γ) f args w (fun γ' v w=>γ'.1 = .bad∧Post γ' v w)):tM (ff P af) P () f args w (fun _=>Post'):=by
 obtain⟨sW,c,h1,h2,h3,h4⟩:=h
 refine⟨sW,c,h1,h2,h3,?_⟩
 refine SB (Q:=fun γ'=>IE P sW Post γ') (fun γ' e a w w1 q r hb => ?_) (tX h4 fun γ' e a w q => ?_)
 ·cases e with
  | normal =>
   obtain⟨hd,v,hr,hp⟩:=q
   exact⟨hd,v,hr,hq _ _ _ _ hp hb r⟩
  | ret =>
   obtain⟨hd,v,hr,hp⟩:=q
   exact⟨hd,v,hr,hq _ _ _ _ hp hb r⟩
  | exit id=>exact q
  | goto l=>exact q
  | panic ch=>exact q
  | outgrown=>exact q
 ·cases e with
  | normal =>
   obtain⟨hd,v,hr,hb,hp⟩:=q
   exact⟨hb,hd,v,hr,hp⟩
  | ret =>
   obtain⟨hd,v,hr,hb,hp⟩:=q
   exact⟨hb,hd,v,hr,hp⟩
  | exit id=>exact q.elim
  | goto l=>exact q.elim
  | panic ch=>exact q.elim
  | outgrown=>exact q.elim
end Go.Co
end
section
namespace Go.Di
open Go Go.Conc Go.Co
variable {P:Program} {af:Machine→Trace→Prop} {ty:eY} {x:Cx} {aC:bk} {call:aW} {yf:dR}
theorem fZ (hP:Plain P) {fr:Frame} {cs:List Frame} {w:World} (h:∀ d,∃ fr' gL w' es,stepG P true (G fr cs) (w.at d) = .go (G fr' gL) w' es∧ff P af () (G fr' gL) w'):ff P af () (G fr cs) w :=
 (tY hP).step () fr cs w fun w1 h1=>by
  obtain⟨d,rfl⟩:=h1
  obtain⟨fr',gL,w',es,e,hk⟩:=h d
  exact⟨fr',gL,w',es,(),e,trivial,hk⟩
theorem D9 {g:Goroutine} {w:World} (h:ff P af () g w) (d:Nat):ff P af () g (w.at d):=fun d'=>h d'
theorem cF (hP:Plain P) {fr fr':Frame} {cs gL:List Frame} {w:World} (h:∀ w,∃ es,stepG P true (G fr cs) w = .go (G fr' gL) w es) (hk:ff P af () (G fr' gL) w):ff P af () (G fr cs) w :=
 fZ hP fun d=>by
  obtain⟨es,e⟩:=h (w.at d)
  exact⟨fr',gL,_,es,e,D9 hk d⟩
section aaG
variable {b:Frame} {a:Act} {k:List Item} {cs:List Frame} {w:World}
theorem R7:stepG P true (G (b.atR a (.code .skip::k)) cs) w = .go (G (b.atR a k) cs) w #[]:=by simp[G,stepG,stepG.exec,Frame.atR]
theorem OR {l:Nat}:stepG P true (G (b.atR a (.code (.label l)::k)) cs) w = .go (G (b.atR a k) cs) w #[]:=by simp[G,stepG,stepG.exec,Frame.atR]
theorem Hs {id:Nat}:stepG P true (G (b.atR a (.inBlock id::k)) cs) w = .go (G (b.atR a k) cs) w #[]:=by simp[G,stepG,stepG.exec,Frame.atR]
theorem Hr {c:Code}:stepG P true (G (b.atR a (.inScope c::k)) cs) w = .go (G (b.atR a k) cs) w #[]:=by simp[G,stepG,stepG.exec,Frame.atR]
theorem Cp {x y:Code}:stepG P true (G (b.atR a (.code (.seq x y)::k)) cs) w = .go (G (b.atR a (.code x :: .code y::k)) cs) w #[]:=by simp[G,stepG,stepG.exec,Frame.atR]
theorem I9 {c:Operand} {x y:Code} {t:Bool} (h:a.eval c = .bool t):stepG P true (G (b.atR a (.code (.cond c x y)::k)) cs) w = .go (G (b.atR a (.code (if t then x else y)::k)) cs) w #[]:=by
 have:=congrFun (Frame.eval_atR b a (.code (.cond c x y)::k)) c
 simp only[Frame.atR] at this
 simp[G,stepG,stepG.exec,Frame.atR,this,h]
theorem OS {id:Nat} {c:Code}:stepG P true (G (b.atR a (.code (.block id c)::k)) cs) w = .go (G (b.atR a (.code c :: .inBlock id::k)) cs) w #[]:=by simp[G,stepG,stepG.exec,Frame.atR]
theorem OP {c:Code}:stepG P true (G (b.atR a (.code (.scope c)::k)) cs) w = .go (G (b.atR a (.code c :: .inScope c::k)) cs) w #[]:=by simp[G,stepG,stepG.exec,Frame.atR]
theorem R8 {c:Code}:stepG P true (G (b.atR a (.code (.loop c)::k)) cs) w = .go (G (b.atR a (.code c :: .inLoop c::k)) cs) w #[]:=by simp[G,stepG,stepG.exec,Frame.atR]
theorem KR {c:Code}:stepG P true (G (b.atR a (.inLoop c::k)) cs) w = .go (G (b.atR a (.code c :: .inLoop c::k)) cs) w #[]:=by simp[G,stepG,stepG.exec,Frame.atR]
theorem R9 {id:Nat} {k':List Item} (h:exitTo id k=some k'):stepG P true (G (b.atR a (.code (.exit id)::k)) cs) w = .go (G (b.atR a k') cs) w #[]:=by simp[G,stepG,stepG.exec,Frame.atR,h]
theorem Bn {id:Nat} {ops:Array Oper}:stepG P true (G (b.atR a (.code (.region id ops false)::k)) cs) w = .go (G (b.atR a (.inRegion ops (List.range ops.size)::k)) cs) w #[]:=by simp[G,stepG,stepG.exec,Frame.atR]
theorem Hq {id:Nat} {ops:Array Oper} (hm:P.follows .mixedOrders=true):stepG P true (G (b.atR a (.code (.region id ops true)::k)) cs) w = .go (G (b.atR a (.inRegion ops (Region.linearise .any ops (w.tape w.drawn (.order b.fn id)))::k)) cs) (w.at (w.drawn+1)) #[]:=by
 simp[G,stepG,stepG.exec,Frame.atR,choose,Sem.run,Question.forced,Question.cut,Region.schedule,hm,World.at]
theorem jJ {ops:Array Oper}:stepG P true (G (b.atR a (.inRegion ops []::k)) cs) w = .go (G (b.atR a k) cs) w #[]:=by simp[G,stepG,stepG.exec,Frame.atR]
def Jh (o:Op):Bool:=match o with | .defer _=>false | _=>true
theorem CS {ops:Array Oper} {i:Nat} {rest:List Nat} {o:Oper} (ho:ops[i]? = some o) (hw:Region.wanted o (yielded ops a.tmps)=true) (hd:Jh o.op=true) :
  stepG P true (G (b.atR a (.inRegion ops (i::rest)::k)) cs) w=stepG.apply P true (b.atR a (.inRegion ops (i::rest)::k)) cs none (execOp a.eval o) w:=by
 have he:=Frame.eval_atR b a (.inRegion ops (i::rest)::k)
 simp only[Frame.atR] at he
 have h1:stepG P true (G (b.atR a (.inRegion ops (i::rest)::k)) cs) w=stepG.oper P true (b.atR a (.inRegion ops (i::rest)::k)) cs none w:=by
  simp[G,stepG,stepG.exec,Frame.atR,ho,hw]
 rw[h1]
 unfold stepG.oper
 have hop:(b.atR a (.inRegion ops (i::rest)::k)).oper? = some o:=by simp[Frame.oper?,Frame.atR,ho]
 simp only[hop]
 have qa:(b.atR a (.inRegion ops (i::rest)::k)).eval=a.eval:=Frame.eval_atR b a _
 split
 ·rename_i l c h2 h3
  rw[h3] at hd
  cases hd
 ·rw[qa]
theorem pK {ops:Array Oper} {i:Nat} {rest:List Nat} {o:Oper} (ho:ops[i]? = some o) (hw:Region.wanted o (yielded ops a.tmps)=false) :
  stepG P true (G (b.atR a (.inRegion ops (i::rest)::k)) cs) w = .go (G (b.atR (a.put o.dst undef) (.inRegion ops rest::k)) cs) w #[]:=by
 have hf:=Frame.finish_atR b a ops i rest k undef
 simp only[ho,Option.bind_some] at hf
 rw[← hf]
 simp[G,stepG,stepG.exec,Frame.atR,ho,hw]
end aaG
theorem Lc (hP:Plain P) {b:Frame} {a:Act} {k:List Item} {cs:List Frame} {ops:Array Oper} {i:Nat} {rest:List Nat} {o:Oper} {d:DV} {S':ak} (hk:b.kind ≠ .early)
  (ho:ops[i]? = some o) (hw:Region.wanted o (yielded ops a.tmps)=true) (hd:Jh o.op=true) (hy:∀ n,Yields (x.dr n) ((execOp a.eval o).run P (x.w.at n)) d S')
  (dc:∀ y v,y.S=S'→Rel y→bh x y→RV y d v→ff P af () (G (b.atR (a.put o.dst v) (.inRegion ops rest::k)) cs) y.w):ff P af () (G (b.atR a (.inRegion ops (i::rest)::k)) cs) x.w:=by
 refine fZ hP fun n => ?_
 obtain⟨v,y,h1,h2,h3,h4,h5⟩:=hy n
 have hf:=Frame.finish_atR b a ops i rest k
 simp only[ho,Option.bind_some] at hf
 have pZ:(b.kind==CallKind.early)=false:=by simpa using hk
 rw[CS ho hw hd]
 rcases h1 with h1 | ⟨h1,rfl⟩
 ·refine⟨b.atR (a.put o.dst v) (.inRegion ops rest::k),cs,y.w,seen P b.fn ((execOp a.eval o).events P (x.w.at n) #[]),?_,dc y v h2 h3 ((dD x n).trans h4) h5⟩
  rw[← hf]
  simp[stepG.apply,h1,G,Frame.atR,pZ,GStep.after]
 ·refine⟨b.atR (a.put o.dst undef) (.inRegion ops rest::k),cs,y.w,seen P b.fn ((execOp a.eval o).events P (x.w.at n) #[]),?_,dc y undef h2 h3 ((dD x n).trans h4) h5⟩
  rw[← hf]
  simp[stepG.apply,h1,G,Frame.atR,pZ,GStep.after]
end Go.Di
end
section
namespace Go.Di
open Go Go.Conc Go.Co
variable {P:Program} {af:Machine→Trace→Prop} {ty:eY} {x:Cx} {aC:bk} {call:aW} {yf:dR}
theorem si {env:List DV} {a:Act} (h:en x env a.tmps):tq x (ga env) a.eval:=by
 intro o d ho
 cases o with
 | tmp t =>
  simp only[ga,Option.some.injEq] at ho
  subst ho
  by_cases ht:t<env.length
  ·have:=h.2 t env[t] (List.getElem?_eq_getElem ht)
   simpa [Act.eval,List.getD_eq_getElem?_getD,ht] using this
  ·have h1:env[t]? = none:=List.getElem?_eq_none (Nat.le_of_not_lt ht)
   have h2:a.tmps[t]? = none:=Array.getElem?_eq_none (by rw[h.1]; exact Nat.le_of_not_lt ht)
   have:a.eval (.tmp t)=undef:=by simp[Act.eval,Array.getD_eq_getD_getElem?,h2]
   rw[this,List.getD_eq_getElem?_getD,h1]
   exact .val rfl
 | const v=>exact ug ho
 | func f =>
  simp only[ga,Option.some.injEq] at ho
  subst ho
  exact .fn rfl rfl (by simp) (by simp)
 | global g=>cases ho
theorem I1 {env:List DV} {arr:Array Value} (h:en x env arr) {t:Nat} {d:DV} {v:Value} (hd:RV x d v):en x (env.set t d) (arr.setIfInBounds t v):=by
 refine⟨by simpa using h.1,fun j c hc => ?_⟩
 rw[List.getElem?_set] at hc
 by_cases hj:t=j
 ·subst hj
  rw[if_pos rfl] at hc
  split at hc
  ·rename_i hlt
   simp only[Option.some.injEq] at hc
   subst hc
   have:t<arr.size:=by rw[h.1]; exact hlt
   simpa [Array.getD_eq_getD_getElem?,this] using hd
  ·cases hc
 ·rw[if_neg hj] at hc
  have:=h.2 j c hc
  simpa [Array.getD_eq_getD_getElem?,Array.getElem?_setIfInBounds,hj] using this
theorem nF {env:List DV} {a:Act} (h:en x env a.tmps) {dst:Option Tmp} {d:DV} {v:Value} (hd:RV x d v):en x (eP env dst d) (a.put dst v).tmps∧(a.put dst v).defers=a.defers:=by
 cases dst with
 | none=>exact⟨h,rfl⟩
 | some t=>exact⟨I1 h hd,rfl⟩
theorem vt {env:List DV} {a:Act} (h:en x env a.tmps) (ops:Array Oper) (o:Oper):Region.wanted o (yielded ops a.tmps)=bD ops env o:=by
 unfold Region.wanted bD
 cases o.guard with
 | none=>rfl
 | some g =>
  obtain⟨j,want⟩:=g
  simp only[yielded]
  cases hb:(ops[j]?).bind (·.dst) with
  | none=>rfl
  | some t =>
   simp only[Option.bind_some]
   by_cases ht:t<env.length
   ·have h1:=List.getElem?_eq_getElem ht
    have hr:=h.2 t env[t] h1
    have h2:t<a.tmps.size:=by rw[h.1]; exact ht
    rw[h1,Array.getElem?_eq_getElem h2]
    simp only[Array.getD_eq_getD_getElem?,Array.getElem?_eq_getElem h2,Option.getD_some] at hr
    generalize env[t]=d at hr
    generalize a.tmps[t]=v at hr
    cases hr with
    | @val v hv=>cases v<;>first | rfl | (simp only; cases want<;>rfl) | (rename_i b; cases b<;>cases want<;>rfl)
    | _=>cases want<;>rfl
   ·rw[List.getElem?_eq_none (Nat.le_of_not_lt ht),Array.getElem?_eq_none (by rw[h.1]; exact Nat.le_of_not_lt ht)]
    cases want<;>rfl
def cU (P:Program) (af:Machine→Trace→Prop) (x:Cx) (g:FuncId) (vals:Array Value) (Post:Cx→Value→Prop):Prop :=
 (∃ fn c,P.funcs[g]? = some fn∧fn.body=some c)∧∀ (fr:Frame) (cs:List Frame),(∀ y v,Post y v→ff P af () (G (fr.finish v) cs) y.w)→ff P af () (G (Frame.enter P g vals .normal) (fr::cs)) x.w
theorem cU.mono {g:FuncId} {vals:Array Value} {Post Post':Cx→Value→Prop} (h:cU P af x g vals Post) (hp:∀ y v,Post y v→Post' y v):cU P af x g vals Post' :=
 ⟨h.1,fun fr cs hc=>h.2 fr cs fun y v p=>hc y v (hp y v p)⟩
theorem cU.at {g:FuncId} {vals:Array Value} {Post:Cx→Value→Prop} (h:cU P af x g vals Post) (n:Nat):cU P af (x.dr n) g vals Post :=
 ⟨h.1,fun fr cs hc=>D9 (h.2 fr cs hc) n⟩
def gz (P:Program) (af:Machine→Trace→Prop) (call:aW):Prop :=
 ∀ f args S v S',call f args S=some (v,S')→∀ x vals,Rel x→x.S=S→en x args vals→cU P af x f vals fun y u=>y.S=S'∧Rel y∧bh x y∧RV y v u
def tN (P:Program) (af:Machine→Trace→Prop) (aC:bk):Prop :=
 ∀ f args v,aC f args=some v→args.all DV.pure=true→v.pure=true∧∀ x vals,Rel x→en x args vals→cU P af x f vals fun y u=>y.S=x.S∧Rel y∧bh x y∧RV y v u
def tJ (P:Program) (af:Machine→Trace→Prop) (yf:dR):Prop :=
 ∀ id args S v S',yf id args S=some (v,S')→∀ x vals,Rel x→x.S=S→en x args vals→∃ lo:Loop,x.w.heap[x.μ id]? = some (.loop lo)∧vals.size=lo.params.size ∧
  ∀ (fr:Frame) (cs:List Frame),(∀ y u,(y.S=S'∧Rel y∧bh x y∧RV y v u)→ff P af () (G (fr.finish u) cs) y.w)→ff P af () (G (Frame.round (x.μ id) lo.fn ((lo.params.zip vals).foldl (fun tmps (t,a)=>tmps.setIfInBounds t a) lo.tmps) lo.assign lo.body .normal) (fr::cs)) x.w
theorem PI (hc:gz P af call) (hi:tN P af aC) {g:FuncId} {args:List DV} {S S':ak} {v:DV} (h:tH aC call g args S=some (v,S')) {vals:Array Value} (hR:Rel x) (hS:x.S=S) (ha:en x args vals) :
  cU P af x g vals fun y u=>y.S=S'∧Rel y∧bh x y∧RV y v u:=by
 unfold tH at h
 split at h
 ·rename_i hp
  split at h
  ·rename_i v' h1
   cases h
   subst hS
   refine(hi _ _ _ h1 hp).2 x vals hR ⟨by simpa using ha.1,fun j c hj => ?_⟩
   simp only[List.getElem?_map,Option.map_eq_some_iff] at hj
   obtain⟨c',h2,rfl⟩:=hj
   exact(ha.2 j c' h2).strip
  ·exact hc _ _ _ _ _ h x vals hR hS ha
 ·exact hc _ _ _ _ _ h x vals hR hS ha
theorem iE {l m:List DV} {a b:Array Value} (h:en x l a) (k:en x m b):en x (l++m) (a++b):=by
 refine⟨by simp[h.1,k.1],fun j c hc => ?_⟩
 simp only[Array.getD_eq_getD_getElem?]
 by_cases hj:j<l.length
 ·rw[List.getElem?_append_left hj] at hc
  rw[Array.getElem?_append_left (by rw[h.1]; exact hj)]
  simpa [Array.getD_eq_getD_getElem?] using h.2 j c hc
 ·rw[List.getElem?_append_right (by omega)] at hc
  rw[Array.getElem?_append_right (by rw[h.1]; omega),h.1]
  simpa [Array.getD_eq_getD_getElem?] using k.2 _ c hc
theorem E0 (hP:Plain P) {b:Frame} {a:Act} {k:List Item} {cs:List Frame} {ops:Array Oper} {i:Nat} {rest:List Nat} {o:Oper} {g:FuncId} {fs vs:Array Value} {c:Call} {f:Operand} {Post:Cx→Value→Prop} (hk:b.kind ≠ .early)
  (ho:ops[i]? = some o) (hw:Region.wanted o (yielded ops a.tmps)=true) (hop:o.op = .call c) (V2:c.callee = .value f) (hf:a.eval f = .func (.func g) fs vs) (he:cU P af x g (fs++c.args.map a.eval++vs) Post)
  (dc:∀ y v,Post y v→ff P af () (G (b.atR (a.put o.dst v) (.inRegion ops rest::k)) cs) y.w):ff P af () (G (b.atR a (.inRegion ops (i::rest)::k)) cs) x.w:=by
 refine fZ hP fun n => ?_
 have rR:=Frame.finish_atR b a ops i rest k
 simp only[ho,Option.bind_some] at rR
 have pZ:(b.kind==CallKind.early)=false:=by simpa using hk
 rw[CS ho hw (by rw[hop]; rfl)]
 obtain⟨⟨fn,cd,h1,h2⟩,h3⟩:=he
 have tC:=hP.count g fn h1
 have hrun:(execOp a.eval o).run P (x.w.at n) = .ok (.enter g (fs++c.args.map a.eval++vs)) (x.w.at n):=by
  unfold execOp
  simp only[hop,resolve,V2,hf,Deferred.ofValue,Sem.run_bind,Sem.run_pure,Result.andThen_ok,invoke,callFunc,run_program,h1,tC,Bool.false_eq_true,if_false,h2,Option.isNone_some]
 refine⟨Frame.enter P g (fs++c.args.map a.eval++vs) .normal,b.atR a (.inRegion ops (i::rest)::k)::cs,x.w.at n,seen P b.fn ((execOp a.eval o).events P (x.w.at n) #[]),?_,D9 (h3 _ cs fun y v hp => ?_) n⟩
 ·simp[stepG.apply,hrun,G,Frame.atR,pZ,GStep.after]
 ·rw[rR]
  exact dc y v hp
theorem O9 (hP:Plain P) {b:Frame} {a:Act} {k:List Item} {cs:List Frame} {ops:Array Oper} {i:Nat} {rest:List Nat} {o:Oper} {l:Nat} {lo:Loop} {c:Call} {f:Operand} {Post:Cx→Value→Prop} (hk:b.kind ≠ .early)
  (ho:ops[i]? = some o) (hw:Region.wanted o (yielded ops a.tmps)=true) (hop:o.op = .call c) (V2:c.callee = .value f) (hf:a.eval f = .func (.yield l) #[] #[]) (hl:x.w.heap[l]? = some (.loop lo)) (hsz:(c.args.map a.eval).size=lo.params.size)
  (he:∀ (fr:Frame) (cs:List Frame),(∀ y u,Post y u→ff P af () (G (fr.finish u) cs) y.w)→ff P af () (G (Frame.round l lo.fn ((lo.params.zip (c.args.map a.eval)).foldl (fun tmps (t,a)=>tmps.setIfInBounds t a) lo.tmps) lo.assign lo.body .normal) (fr::cs)) x.w)
  (dc:∀ y v,Post y v→ff P af () (G (b.atR (a.put o.dst v) (.inRegion ops rest::k)) cs) y.w):ff P af () (G (b.atR a (.inRegion ops (i::rest)::k)) cs) x.w:=by
 refine fZ hP fun n => ?_
 have rR:=Frame.finish_atR b a ops i rest k
 simp only[ho,Option.bind_some] at rR
 have pZ:(b.kind==CallKind.early)=false:=by simpa using hk
 rw[CS ho hw (by rw[hop]; rfl)]
 have hg:=gC (P:=P) (w:=x.w.at n) (show (x.w.at n).heap[l]? = some (.loop lo) from hl) (by simp)
 have hrun:(execOp a.eval o).run P (x.w.at n) = .ok (.round l lo.fn ((lo.params.zip (c.args.map a.eval)).foldl (fun tmps (t,a)=>tmps.setIfInBounds t a) lo.tmps) lo.assign lo.body) (x.w.at n):=by
  have hne:¬ ((#[]++c.args.map a.eval).size≠lo.params.size):=by simpa using hsz
  unfold execOp
  simp only[hop,resolve,V2,hf,Deferred.ofValue,Sem.run_bind,Sem.run_pure,Result.andThen_ok,invoke,Instr.yield,Instr.getLoop,hg,if_neg hne]
  simp
 refine⟨Frame.round l lo.fn _ lo.assign lo.body .normal,b.atR a (.inRegion ops (i::rest)::k)::cs,x.w.at n,seen P b.fn ((execOp a.eval o).events P (x.w.at n) #[]),?_,D9 (he _ cs fun y v hp => ?_) n⟩
 ·simp[stepG.apply,hrun,G,Frame.atR,pZ,GStep.after]
 ·rw[rR]
  exact dc y v hp
theorem D8 (hP:Plain P) (dx:gY P ty) (hc:gz P af call) (hi:tN P af aC) (F6:tJ P af yf) {b:Frame} {a:Act} {k:List Item} {cs:List Frame} {ops:Array Oper} {i:Nat} {rest:List Nat} {o:Oper} {d:DV} {S':ak} {env:List DV} {ay:Nat} (hk:b.kind ≠ .early)
  (ho:ops[i]? = some o) (hw:Region.wanted o (yielded ops a.tmps)=true) (hR:Rel x) (hn:AW x.S ay) (he:en x env a.tmps) (h:ah P ty aC call yf (ga env) o x.S ay=some (d,S'))
  (dc:∀ y v,y.S=S'→Rel y→bh x y→RV y d v→ff P af () (G (b.atR (a.put o.dst v) (.inRegion ops rest::k)) cs) y.w):ff P af () (G (b.atR a (.inRegion ops (i::rest)::k)) cs) x.w:=by
 by_cases hl:Op.lone o.op=true
 ·refine Lc hP hk ho hw ?_ (fun n=>Ko dx (hR.dr n) hn (si (he.mono (dD x n))) hl h) dc
  cases hop:o.op<;>first | rfl | (simp[ah,hop] at h)
 ·obtain⟨c,hop⟩:∃ c,o.op = .call c:=by
   cases hop:o.op<;>first | (exact⟨_,rfl⟩) | (exact absurd (by rw[hop]; rfl) hl)
  obtain⟨callee,args,ats⟩:=c
  cases callee with
  | builtin bi=>exact absurd (by rw[hop]; rfl) hl
  | invoke r m=>simp[ah,hop] at h
  | value f =>
   simp only[ah,hop] at h
   have qa:=si he
   split at h
   ·rename_i g fs gL xs hf L8
    have TD:=qa f _ hf
    have iU:=sg qa L8
    generalize hv:a.eval f=vf at TD
    cases TD with
    | @fn _ _ _ vfs vcs h1 h2 h3 h4 =>
     have dG:en x (fs++xs++gL) (vfs++args.map a.eval++vcs):=by
      have e:(args.toList.map a.eval).toArray=args.map a.eval:=Array.toList_inj.1 (by simp)
      rw[e] at iU
      exact iE (iE ⟨h1,h3⟩ iU) ⟨h2,h4⟩
     split at h
     ·exact E0 hP hk ho hw hop rfl hv (hc _ _ _ _ _ h x _ hR rfl dG) fun y v hp=>dc y v hp.1 hp.2.1 hp.2.2.1 hp.2.2.2
     ·exact E0 hP hk ho hw hop rfl hv (PI hc hi h hR rfl dG) fun y v hp=>dc y v hp.1 hp.2.1 hp.2.2.1 hp.2.2.2
   ·rename_i id xs hf L8
    have TD:=qa f _ hf
    have iU:=sg qa L8
    generalize hv:a.eval f=vf at TD
    cases TD with
    | uN hS =>
     have e:(args.toList.map a.eval).toArray=args.map a.eval:=Array.toList_inj.1 (by simp)
     rw[e] at iU
     obtain⟨lo,q1,q2,q3⟩:=F6 _ _ _ _ _ h x _ hR rfl iU
     exact O9 hP hk ho hw hop rfl hv q1 q2 q3 fun y v hp=>dc y v hp.1 hp.2.1 hp.2.2.1 hp.2.2.2
   ·cases h
theorem CP (hP:Plain P) (dx:gY P ty) (hc:gz P af call) (hi:tN P af aC) (F6:tJ P af yf) {ops:Array Oper} {b:Frame} {k:List Item} {cs:List Frame} (hk:b.kind ≠ .early) :
  ∀ (r pre:List Oper),ops.toList=pre++r→∀ {env ax:List DV} {S':ak} {a:Act} {x:Cx},Ca P ty aC call yf ops r env x.S=some (ax,S')→Rel x→en x env a.tmps →
   (∀ y a',y.S=S'→Rel y→bh x y→en y ax a'.tmps→a'.defers=a.defers→ff P af () (G (b.atR a' k) cs) y.w)→ff P af () (G (b.atR a (.inRegion ops (List.range' pre.length r.length)::k)) cs) x.w
 | [],pre,_,env,ax,S',a,x,h,hR,he,hn=>by
  simp only[Ca,Option.some.injEq,Prod.mk.injEq] at h
  obtain⟨rfl,rfl⟩:=h
  exact cF hP (fun w=>⟨_,jJ⟩) (hn x a rfl hR (bh.refl x) he rfl)
 | o::r,pre,Ci,env,ax,S',a,x,h,hR,he,hn=>by
  have ho:ops[pre.length]? = some o:=by
   rw[← Array.getElem?_toList,Ci]
   simp
  have Uw:ops.toList=(pre++[o])++r:=by rw[Ci]; simp
  have hlen:(pre++[o]).length=pre.length+1:=by simp
  simp only[List.length_cons,List.range'_succ]
  unfold Ca at h
  have PU:=vt he ops o
  by_cases hw:bD ops env o=true
  ·rw[if_pos hw] at h
   rw[hw] at PU
   obtain⟨x1,k1,k2,k3,k4,k5⟩:=Xi (ty:=ty) o hR he
   rw[← k1]
   split at h
   rename_i jM S0 tc
   rw[tc] at k2 k5
   dsimp only at k2 k5
   subst k2
   split at h
   ·rename_i v S1 h1
    refine D8 hP dx hc hi F6 hk ho PU k3 (.inl rfl) k5 h1 fun y u hyS hyR Tn hyV => ?_
    subst hyS
    have kS:=nF (k5.mono Tn) (dst:=o.dst) hyV
    have:=CP hP dx hc hi F6 hk r (pre++[o]) Uw h hyR kS.1 fun z a' z1 z2 z3 z4 z5=>hn z a' z1 z2 (k4.trans (Tn.trans z3)) z4 (z5.trans kS.2)
    rw[hlen] at this
    exact this
   ·cases h
  ·rw[if_neg hw] at h
   have UZ:bD ops env o=false:=by simpa using hw
   rw[UZ] at PU
   refine cF hP (fun w=>⟨_,pK ho PU⟩) ?_
   have kS:=nF he (dst:=o.dst) (d:=aO) (v:=undef) (.val rfl)
   have:=CP hP dx hc hi F6 hk r (pre++[o]) Uw h hR kS.1 fun z a' z1 z2 z3 z4 z5=>hn z a' z1 z2 z3 z4 (z5.trans kS.2)
   rw[hlen] at this
   exact this
end Go.Di
end
